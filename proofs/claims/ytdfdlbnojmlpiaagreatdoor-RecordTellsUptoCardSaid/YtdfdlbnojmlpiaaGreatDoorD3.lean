/-
  pack.Writer over known blocks: New, piece, Num, name, Set, Len, Out. Conditions: the limit is no more than a million. pack.Writer: New, Set, Len, Out. Conditions: as in Pack. pack.Reader over known blocks: Open, Bad, fail, Raw, Num, At, Left, Part. Conditions: the bytes are fewer than 2 to the 62. pack.Reader.Name. Conditions: the bytes are fewer than 2 to the 62. pack.Reader: Part; rdata.copies, rdata.Write. Conditions: as in Pack and Read. rdata.Write, record.Check, record.Write. Conditions: as in Pack and Read. record.Check, record.Write. Conditions: as in Pack and Read. rdata.Read. Conditions: the bytes are fewer than 2 to the 40. record.Read. Conditions: as in RRdata. What is written is read again: numbers and names. Plain lemmas. What is written is read again: data and records. Plain lemmas. A thing that is made behind other blocks. Plain.
-/
import Derived.Laws.BitsAllLaws
import Derived.Test.YtdfdlbnojmlpiaaGreatDoorD1
import Derived.Test.YtdfdlbnojmlpiaaGreatDoorK4
import Derived.Test.YtdfdlbnojmlpiaaGreatDoorD2
set_option linter.unusedVariables false
set_option linter.unusedSimpArgs false
namespace Go.Proofs.YtdfdlbnojmlpiaaGreatDoor
open Go Go.Eng
set_option maxRecDepth 100000
structure Wr where
 buf:List UInt8
 limit:Int
 full:Bool
 rests:List (List UInt8 × Int)
def Wr.fl(w:Wr):List KB:=[.cells 141 [.all 2,.d (.int .i64 w.limit),.d (.bool w.full),.map 1],.map [EK.str] false false (qm0 w.rests),.row 5 1 w.buf.length .iff (qe7 w.buf)]
structure Wr.Ok(w:Wr):Prop where
 lo : -9223372036854775808≤w.limit
 hi:w.limit≤1048576
 len:w.buf.length=0∨(w.buf.length:Int)≤w.limit
 pl:∀ e ∈ w.rests,0≤e.2∧e.2<16384
def Wr.fits(w:Wr)(s:List UInt8):Bool:=!w.full && (decide (s.length=0) || decide ((s.length:Int)≤w.limit - w.buf.length))
def Wr.piece(w:Wr)(s:List UInt8):Wr:=if w.fits s then { w with buf:=w.buf++s } else { w with full:=true }
theorem Wr.Ok.piece{w:Wr}(h:w.Ok)(s:List UInt8):(w.piece s).Ok:=by
 unfold Wr.piece
 split
 ·rename_i hf
  refine⟨h.lo,h.hi,?_,h.pl⟩
  simp only [Wr.fits,Bool.and_eq_true,Bool.or_eq_true,decide_eq_true_eq] at hf
  have:=h.len
  show(w.buf++s).length=0∨_
  rw[List.length_append]
  rcases hf.2 with h0|h1
  ·rcases this with h2|h2
   ·exact .inl (by omega)
   ·exact .inr (by show(w.buf.length+s.length:Nat)≤w.limit;omega)
  ·exact .inr (by show((w.buf.length+s.length:Nat):Int)≤w.limit;omega)
 ·exact⟨h.lo,h.hi,h.len,h.pl⟩
def fndS{α:Type}:List (List UInt8 × α)→List UInt8→Option α
 |[],_=>none
 |e :: l,a=>if a=e.1 then some e.2 else fndS l a
theorem fndS_mem{α:Type}{l:List (List UInt8 × α)}{a:List UInt8}{x:α}(h:fndS l a=some x):(a,x) ∈ l:=by
 induction l with
 |nil=>cases h
 |cons e l ih =>
  simp only [fndS] at h
  split at h
  ·rename_i e1
   cases h
   subst e1
   exact List.mem_cons_self ..
  ·exact List.mem_cons_of_mem _ (ih h)
theorem find_rests(l:List (List UInt8 × Int))(a:List UInt8):ya8 (qm0 l) [.str a]=(fndS l a).map (fun x=>[.d (.int .i64 x)]):=by
 induction l with
 |nil=>rfl
 |cons e l ih =>
  show(if qn1 [.str a] [.str e.1] then some [.d (.int .i64 e.2)] else ya8 (qm0 l) [.str a])=_
  have:qn1 [.str a] [.str e.1]=decide (a=e.1):=by
   rw[Bool.eq_iff_iff]
   simp[qn1,dEq]
  rw[this,ih,fndS]
  by_cases h:a=e.1 <;> simp[h]
theorem put_rests(l:List (List UInt8 × Int))(a:List UInt8)(x:Int)(h:fndS l a=none):putM (qm0 l) [.str a] [.d (.int .i64 x)]=qm0 (l++[(a,x)]):=by
 induction l with
 |nil=>rfl
 |cons e l ih =>
  show(if qn1 [.str a] [.str e.1] then _ else ([.str e.1],[.d (.int .i64 e.2)]) :: putM (qm0 l) [.str a] [.d (.int .i64 x)])=_
  simp only [fndS] at h
  split at h
  ·cases h
  ·rename_i hne
   have:qn1 [.str a] [.str e.1]=decide (a=e.1):=by
    rw[Bool.eq_iff_iff]
    simp[qn1,dEq]
   rw[this,ih h]
   simp[hne,qm0]
set_option maxHeartbeats 4000000 in
theorem qx7(w:Wr)(hw:w.Ok)(s:List UInt8)(hs:s.length<4611686018427387904):COk Tryz.prog 144 [.ptr 0 0,.d (.str s)] [pk w.fl] (fun r k=>∃ w1,k=[pk (Wr.fl w1)]∧(r=boolD (w.fits s)∧w1=w.piece s)):=by
 refine COk.toThing Wr.fl (qi1 (TT:=TT) (IN:=qc2 []) qc5 qa1 mixed 1000 Tryz.func144 rfl (qa8 Tryz.func144 (by kernel_rfl) rfl) 41 (by kernel_rfl) rfl ?_ ?_)
 ·rintro r l ⟨w1,_,rfl,_⟩
  cases w.fits s <;> rfl
 have hlen:=hw.len
 have hhi:=hw.hi
 have hlo:=hw.lo
 conv=>whnf
 refine⟨fun h1=>?_,fun h1=>?_⟩
 ·have hf:w.fits s=false:=by simp[Wr.fits,h1]
  conv=>whnf
  refine⟨[0,1,2],.d .ff,w.fl,rfl,rfl,rfl,?_,_,rfl,by rw[hf];rfl,?_⟩
  ·repeat'(first|exact ⟨⟩|exact rfl|exact fun _=>Iff.rfl|exact fun _ _=>rfl|exact qc0 _ _|exact(List.length_append ..).symm|exact qc1 _ _|apply And.intro)
  ·unfold Wr.piece
   rw[hf]
   show w=Wr.mk w.buf w.limit true w.rests
   rw[←h1]
 have hwr:IntKind.i64.wrap (w.limit - w.buf.length)=w.limit - w.buf.length:=qa4 _ (by omega)
 have good:(s.length=0∨(s.length:Int)≤w.limit - w.buf.length)→w.fits s=true:=fun h=>by
  simp only[Wr.fits,h1,Bool.not_false,Bool.true_and,Bool.or_eq_true,decide_eq_true_eq]
  exact h
 conv=>whnf
 refine⟨fun h2=>?_,fun h2=>?_⟩
 ·have h2':0<s.length:=by
   have:(s.length:Int) > 0:=of_decide_eq_true h2
   omega
  conv=>whnf
  rw[hwr]
  refine⟨fun h3=>?_,fun h3=>?_⟩
  ·have h3':(s.length:Int) > w.limit - w.buf.length:=of_decide_eq_true h3
   have hf:w.fits s=false:=by
    simp only[Wr.fits,h1,Bool.not_false,Bool.true_and,Bool.or_eq_false_iff,decide_eq_false_iff_not]
    omega
   conv=>whnf
   refine⟨[0,1,2],.d .ff,(w.piece s).fl,rfl,rfl,rfl,?_,_,rfl,by rw[hf];rfl,rfl⟩
   unfold Wr.piece
   rw[hf]
   repeat'(first|exact ⟨⟩|exact rfl|exact fun _=>Iff.rfl|exact fun _ _=>rfl|exact qc0 _ _|exact(List.length_append ..).symm|exact qc1 _ _|apply And.intro)
  ·have h3':¬ (s.length:Int) > w.limit - w.buf.length:=of_decide_eq_false h3
   have hf:=good (.inr (by omega))
   conv=>whnf
   refine⟨by omega,?_⟩
   conv=>whnf
   refine⟨[0,1,3],.d .tt,(w.piece s).fl,rfl,rfl,rfl,?_,_,rfl,by rw[hf];rfl,rfl⟩
   unfold Wr.piece
   rw[hf]
   repeat'(first|exact ⟨⟩|exact rfl|exact fun _=>Iff.rfl|exact fun _ _=>rfl|exact qc0 _ _|exact(List.length_append ..).symm|exact qc1 _ _|apply And.intro)
 ·have h2':s.length=0:=by
   have:¬ ((s.length:Int) > 0):=of_decide_eq_false h2
   omega
  have hf:=good (.inl h2')
  conv=>whnf
  refine⟨by omega,?_⟩
  conv=>whnf
  refine⟨[0,1,3],.d .tt,(w.piece s).fl,rfl,rfl,rfl,?_,_,rfl,by rw[hf];rfl,rfl⟩
  unfold Wr.piece
  rw[hf]
  repeat'(first|exact ⟨⟩|exact rfl|exact fun _=>Iff.rfl|exact fun _ _=>rfl|exact qc0 _ _|exact(List.length_append ..).symm|exact qc1 _ _|apply And.intro)
def be8(n:Int):List Int:=[n.fdiv (2 ^ 56),n.fdiv (2 ^ 48),n.fdiv (2 ^ 40),n.fdiv (2 ^ 32),n.fdiv (2 ^ 24),n.fdiv (2 ^ 16),n.fdiv (2 ^ 8),n.fdiv (2 ^ 0)].map IntKind.u8.wrap
def be(width:Nat)(n:Int):List UInt8:=qm3 ((be8 n).drop (8 - width))
def Wr.num(w:Wr)(width:Nat)(n:Int):Wr:=w.piece (be width n)
set_option maxHeartbeats 4000000 in
theorem ju2(w:Wr)(hw:w.Ok)(width:Nat)(hd:width=1∨width=2∨width=4∨width=8)(n:Int):COk Tryz.prog 78 [.ptr 0 0,.d (.int .i64 width),.d (.int .u64 n)] [pk w.fl] (fun r k=>∃ w1,k=[pk (Wr.fl w1)]∧(r = .tup []∧w1=w.num width n)):=by
 refine qc4 (TT:=TT) (IN:=qc2 [(143,Tryz.f143,1)]) qc5 (qb8 qa1 Tryz.func143 (by kernel_rfl) (by kernel_rfl)) mixed 1000 Tryz.func78 rfl (qa8 Tryz.func78 (by kernel_rfl) rfl) 26 (by kernel_rfl) ?_
 rcases hd with rfl|rfl|rfl|rfl
 ·conv=>whnf
  repeat(first|(refine brT rfl ?_;conv=>whnf)|(refine brF rfl ?_;conv=>whnf)|(refine .once ?_;conv=>whnf)|(refine⟨by decide,?_⟩;conv=>whnf)|(refine And.intro (Nat.le_of_ble_eq_true rfl) ?_;conv=>whnf))
  refine .rel _ (COk.thing Wr.fl (qx7 w hw (be 1 n) (by show(1:Nat)<_;omega)) [] [_] _ rfl rfl) (fun r ks' hR=>?_)
  obtain⟨_,w1,⟨rfl,rfl⟩,rfl,rfl⟩:=hR
  conv=>whnf
  exact⟨[0],.tup [],[pk (w.num 1 n).fl],rfl,rfl,rfl,⟨fun _ _ _ _ h=>⟨qa5 _,h⟩,True.intro⟩,_,rfl,rfl,rfl⟩
 ·conv=>whnf
  repeat(first|(refine brT rfl ?_;conv=>whnf)|(refine brF rfl ?_;conv=>whnf)|(refine .once ?_;conv=>whnf)|(refine⟨by decide,?_⟩;conv=>whnf)|(refine And.intro (Nat.le_of_ble_eq_true rfl) ?_;conv=>whnf))
  refine .rel _ (COk.thing Wr.fl (qx7 w hw (be 2 n) (by show(2:Nat)<_;omega)) [] [_] _ rfl rfl) (fun r ks' hR=>?_)
  obtain⟨_,w1,⟨rfl,rfl⟩,rfl,rfl⟩:=hR
  conv=>whnf
  exact⟨[0],.tup [],[pk (w.num 2 n).fl],rfl,rfl,rfl,⟨fun _ _ _ _ h=>⟨qa5 _,h⟩,True.intro⟩,_,rfl,rfl,rfl⟩
 ·conv=>whnf
  repeat(first|(refine brT rfl ?_;conv=>whnf)|(refine brF rfl ?_;conv=>whnf)|(refine .once ?_;conv=>whnf)|(refine⟨by decide,?_⟩;conv=>whnf)|(refine And.intro (Nat.le_of_ble_eq_true rfl) ?_;conv=>whnf))
  refine .rel _ (COk.thing Wr.fl (qx7 w hw (be 4 n) (by show(4:Nat)<_;omega)) [] [_] _ rfl rfl) (fun r ks' hR=>?_)
  obtain⟨_,w1,⟨rfl,rfl⟩,rfl,rfl⟩:=hR
  conv=>whnf
  exact⟨[0],.tup [],[pk (w.num 4 n).fl],rfl,rfl,rfl,⟨fun _ _ _ _ h=>⟨qa5 _,h⟩,True.intro⟩,_,rfl,rfl,rfl⟩
 ·conv=>whnf
  repeat(first|(refine brT rfl ?_;conv=>whnf)|(refine brF rfl ?_;conv=>whnf)|(refine .once ?_;conv=>whnf)|(refine⟨by decide,?_⟩;conv=>whnf)|(refine And.intro (Nat.le_of_ble_eq_true rfl) ?_;conv=>whnf))
  refine .rel _ (COk.thing Wr.fl (qx7 w hw (be 8 n) (by show(8:Nat)<_;omega)) [] [_] _ rfl rfl) (fun r ks' hR=>?_)
  obtain⟨_,w1,⟨rfl,rfl⟩,rfl,rfl⟩:=hR
  conv=>whnf
  exact⟨[0],.tup [],[pk (w.num 8 n).fl],rfl,rfl,rfl,⟨fun _ _ _ _ h=>⟨qa5 _,h⟩,True.intro⟩,_,rfl,rfl,rfl⟩
def Wr.nameGo(p:Bool):Nat→Wr→List UInt8→Wr
 |0,w,n=>w.piece n
 |m+1,w,n=>if 1<n.length then
  match fndS w.rests n with
  |some a=>if p then w.num 2 (49152+a) else
   if w.fits (n.take (1+bt n 0)) then nameGo p m (w.piece (n.take (1+bt n 0))) (n.drop (1+bt n 0)) else w.piece (n.take (1+bt n 0))
  |none =>
   if w.fits (n.take (1+bt n 0)) then nameGo p m (if w.buf.length<16384 then { w.piece (n.take (1+bt n 0)) with rests:=w.rests++[(n,(w.buf.length:Int))] } else w.piece (n.take (1+bt n 0))) (n.drop (1+bt n 0))
   else w.piece (n.take (1+bt n 0))
  else w.piece n
def Wr.name(w:Wr)(n:List UInt8)(p:Bool):Wr:=if w.full=true∨¬ qb2 n then w else Wr.nameGo p n.length w n
def Wr.flL(w:Wr):List (Nat × KB):=[(0,.cells 141 [.all 2,.d (.int .i64 w.limit),.d (.bool w.full),.map 1]),(1,.map [EK.str] false false (qm0 w.rests)),(2,.row 5 1 w.buf.length .iff (qe7 w.buf))]
structure NmSt where
 w:Wr
 n:List UInt8
 m:Nat
theorem mapM_rests(σ:Nat→Nat)(l:List (List UInt8 × Int)):mapM σ (qm0 l)=qm0 l:=by
 induction l with
 |nil=>rfl
 |cons e l ih=>simp[qm0,mapM,mapL,mapV,ih]
def Wr.fx(w:Wr):List KB:=[.cells 141 [.all 4,.d (.int .i64 w.limit),.d (.bool w.full),.map 3],.gone,.gone,.map [EK.str] false false (qm0 w.rests),.row 5 1 w.buf.length .iff (qe7 w.buf)]
theorem expl_wr(w:Wr):expl 3 w.fl=w.fx:=by
 show[KB.cells 141 [.all 4,.d (.int .i64 w.limit),.d (.bool w.full),.map 3],.gone,.gone,.map [EK.str] false false (mapM (expS 3) (qm0 w.rests)),.row 5 1 w.buf.length .iff (qe7 w.buf)]=_
 rw[mapM_rests]
 rfl
theorem piece_x(w:Wr)(hw:w.Ok)(s:List UInt8)(hs:s.length<4611686018427387904):COk Tryz.prog 144 [.ptr 0 0,.d (.str s)] w.fl (fun r k=>r=boolD (w.fits s)∧k=(w.piece s).fx) :=
 ((
  (qx7 w hw s hs).imp (R':=fun r l=>∃ k1,l=[pk k1]∧(r=boolD (w.fits s)∧k1=(w.piece s).fl)) (fun r k ⟨w1,h1,h2,h3⟩=>⟨_,h1,h2,by rw[h3]⟩)).explode (by show 0<3;omega) rfl (fun r l ⟨h,_⟩=>by rw[h];cases w.fits s <;> rfl)).imp
  fun r k ⟨k1,⟨h1,h2⟩,h3⟩=>⟨h1,by rw[h3,h2];exact expl_wr _⟩
theorem num_x(w:Wr)(hw:w.Ok)(width:Nat)(hd:width=1∨width=2∨width=4∨width=8)(n:Int):COk Tryz.prog 78 [.ptr 0 0,.d (.int .i64 width),.d (.int .u64 n)] w.fl (fun r k=>r = .tup []∧k=(w.num width n).fx) :=
 ((
  (ju2 w hw width hd n).imp (R':=fun r l=>∃ k1,l=[pk k1]∧(r = .tup []∧k1=(w.num width n).fl)) (fun r k ⟨w1,h1,h2,h3⟩=>⟨_,h1,h2,by rw[h3]⟩)).explode (by show 0<3;omega) rfl (fun r l ⟨h,_⟩=>by rw[h];rfl)).imp
  fun r k ⟨k1,⟨h1,h2⟩,h3⟩=>⟨h1,by rw[h3,h2];exact expl_wr _⟩
set_option maxHeartbeats 8000000 in
theorem name_ok(w:Wr)(hw:w.Ok)(n:List UInt8)(p:Bool):COk Tryz.prog 142 [.ptr 0 0,.d (.str n),.d (.bool p)] [pk w.fl] (fun r k=>∃ w1,k=[pk (Wr.fl w1)]∧(r = .tup []∧w1=w.name n p)):=by
 refine COk.toThing Wr.fl (qi1 (TT:=TT) (IN:=qc2 []) qc5 qa1 mixed 1000 Tryz.func142 rfl (qa8 Tryz.func142 (by kernel_rfl) rfl) 74 (by kernel_rfl) rfl ?_ ?_)
 ·rintro r l ⟨w1,_,rfl,_⟩
  rfl
 conv=>whnf
 refine⟨fun h1=>?_,fun h1=>?_⟩
 ·have hf:w.name n p=w:=by simp[Wr.name,h1]
  conv=>whnf
  refine⟨[0,1,2],.tup [],w.fl,rfl,rfl,rfl,?_,_,rfl,rfl,hf.symm⟩
  repeat'(first|exact ⟨⟩|exact rfl|exact fun _=>Iff.rfl|exact fun _ _=>rfl|exact qc0 _ _|exact(List.length_append ..).symm|exact qc1 _ _|apply And.intro)
 conv=>whnf
 refine .one (.data _ (qf2 n) rfl rfl ?_)
 by_cases hn:qb2 n
 rotate_left
 ·rw[if_neg hn]
  have hf:w.name n p=w:=by simp[Wr.name,hn]
  conv=>whnf
  refine brT rfl ?_
  conv=>whnf
  refine⟨[0,1,2],.tup [],w.fl,rfl,rfl,rfl,?_,_,rfl,rfl,hf.symm⟩
  repeat'(first|exact ⟨⟩|exact rfl|exact fun _=>Iff.rfl|exact fun _ _=>rfl|exact qc0 _ _|exact(List.length_append ..).symm|exact qc1 _ _|apply And.intro)
 rw[if_pos hn]
 have hgo0:w.name n p=Wr.nameGo p n.length w n:=by simp[Wr.name,h1,hn]
 obtain⟨hlen0,ls0,hls0,hn0⟩:=(qn7 n).1 hn
 conv=>whnf
 refine brF rfl ?_
 conv=>whnf
 refine .inv NmSt (fun s=>s.w.Ok∧s.w.full=false∧(∃ ls,(∀ l ∈ ls,okL l)∧s.n=mk ls∧s.n.length≤s.m)∧s.n.length≤255∧Wr.nameGo p s.m s.w s.n=w.name n p) (fun s=>[(1,.d (.str s.n))]) (fun s=>s.w.flL) (fun s=>s.m) ⟨⟨w,n,n.length⟩,[0,1,2],⟨hw,h1,⟨ls0,hls0,hn0,Nat.le_refl _⟩,hlen0,hgo0.symm⟩,?_⟩ ?_
 ·conv=>whnf
  repeat'(first|exact ⟨⟩|exact rfl|exact fun _=>Iff.rfl|exact fun _ _=>rfl|exact qc0 _ _|exact(List.length_append ..).symm|exact qc1 _ _|apply And.intro)
 clear hgo0 hn0 hls0 hlen0
 intro s hs
 obtain⟨hw,hfull,⟨ls,hls,hsn,hm⟩,hlen,hgo⟩:=hs
 conv=>whnf
 generalize s.w=w1 at hw hfull hgo ⊢
 generalize s.n=n1 at hsn hlen hgo hm ⊢
 generalize s.m=m1 at hm hgo ⊢
 refine⟨fun k1=>?_,fun k1=>?_⟩
 ·have k1':1<n1.length:=by
   have:(n1.length:Int) > 1:=of_decide_eq_true k1
   omega
  conv=>whnf
  refine⟨_,find_rests w1.rests n1,?_⟩
  obtain⟨l,ls',rfl⟩:∃ l ls',ls=l :: ls':=by
   cases ls with
   |nil=>rw [hsn] at k1';simp [mk] at k1'
   |cons l ls'=>exact⟨l,ls',rfl⟩
  have hl:=hls l (List.mem_cons_self ..)
  have hls':∀ x ∈ ls',okL x:=fun x hx=>hls x (List.mem_cons_of_mem _ hx)
  have hb:bt n1 0=l.length:=by rw[hsn];exact qw5 l (mk ls') hl
  have htk:n1.take (1+l.length)=lab l:=by rw[hsn];exact jw7 l (mk ls')
  have hdr:n1.drop (1+l.length)=mk ls':=by rw[hsn];exact qq1 l (mk ls')
  have hnl:n1.length=1+l.length+(mk ls').length:=by rw[hsn,mk,List.length_append,qj8]
  have hby:qc9 n1 0=(l.length:Int):=by rw[show(0:Int)=((0:Nat):Int) from rfl,ql7,hb]
  have hl2:=hl.2
  have hsz:IntKind.i64.wrap (1+IntKind.i64.wrap (qc9 n1 0))=((1+l.length:Nat):Int):=by
   rw[hby,qa4 (l.length:Int) (by omega),qa4 _ (by omega)]
   omega
  have hs1:sub n1 0 ((1+l.length:Nat):Int)=lab l:=by
   unfold sub
   rw[Int.toNat_natCast]
   simpa using htk
  have hs2:sub n1 ((1+l.length:Nat):Int) (n1.length:Int)=mk ls':=by
   unfold sub
   rw[Int.toNat_natCast,Int.toNat_natCast,hdr,List.take_of_length_le (by omega)]
  obtain⟨m2,rfl⟩:∃ m2,m1=m2+1:=⟨m1 - 1,by omega⟩
  have hpo:=hw.piece (lab l)
  have hll:(lab l).length<4611686018427387904:=by rw[qj8];omega
  rcases hq:fndS w1.rests n1 with _|a
  ·have hgo2:(if w1.fits (lab l) then Wr.nameGo p m2 (if w1.buf.length<16384 then { w1.piece (lab l) with rests:=w1.rests++[(n1,(w1.buf.length:Int))] } else w1.piece (lab l)) (mk ls') else w1.piece (lab l))=w.name n p:=by
    rw[←hgo,Wr.nameGo,if_pos k1',hq,hb,htk,hdr]
   conv=>whnf
   refine⟨by omega,?_⟩
   conv=>whnf
   rw[hsz]
   refine⟨by omega,?_⟩
   conv=>whnf
   rw[hs1]
   refine .rel _ (piece_x w1 hw (lab l) hll) (fun r ks' hR=>?_)
   obtain⟨rfl,rfl⟩:=hR
   cases hf:w1.fits (lab l)
   ·rw [hf] at hgo2
    conv=>whnf
    refine⟨[0,3,4],.tup [],(w1.piece (lab l)).fl,rfl,rfl,rfl,?_,_,rfl,rfl,hgo2⟩
    repeat'(first|exact ⟨⟩|exact rfl|exact fun _=>Iff.rfl|exact fun _ _=>rfl|exact qc0 _ _|exact(List.length_append ..).symm|exact qc1 _ _|apply And.intro)
   ·rw [hf] at hgo2
    have hfull2:(w1.piece (lab l)).full=false:=by unfold Wr.piece;rw[if_pos hf];exact hfull
    conv=>whnf
    have hrs:(w1.piece (lab l)).rests=w1.rests:=by unfold Wr.piece;split <;> rfl
    refine⟨fun k2=>?_,fun k2=>?_⟩
    ·have k2':w1.buf.length<16384:=by
      have:(w1.buf.length:Int)<16384:=of_decide_eq_true k2
      omega
     rw [if_pos rfl,if_pos k2'] at hgo2
     conv=>whnf
     rw[hrs]
     refine⟨_,put_rests w1.rests n1 _ hq,?_⟩
     conv=>whnf
     refine⟨by omega,?_⟩
     conv=>whnf
     rw[hs2]
     refine⟨⟨{ w1.piece (lab l) with rests:=w1.rests++[(n1,(w1.buf.length:Int))] },mk ls',m2⟩,[0,3,4],⟨⟨hpo.lo,hpo.hi,hpo.len,fun e he=>?_⟩,hfull2,⟨ls',hls',rfl,by show(mk ls').length≤m2;omega⟩,by show(mk ls').length≤255;omega,hgo2⟩,by show m2<m2+1;omega,?_⟩
     rotate_left
     ·conv=>whnf
      repeat'(first|exact ⟨⟩|exact rfl|exact fun _=>Iff.rfl|exact fun _ _=>rfl|exact qc0 _ _|exact(List.length_append ..).symm|exact qc1 _ _|apply And.intro)
     rcases List.mem_append.1 he with he|he
     ·exact hw.pl e he
     ·rw[List.mem_singleton.1 he]
      show 0≤(w1.buf.length:Int)∧(w1.buf.length:Int)<16384
      omega
    ·have k2':¬ w1.buf.length<16384:=by
      have:¬ (w1.buf.length:Int)<16384:=of_decide_eq_false k2
      omega
     rw [if_pos rfl,if_neg k2'] at hgo2
     conv=>whnf
     refine⟨by omega,?_⟩
     conv=>whnf
     rw[hs2]
     refine⟨⟨w1.piece (lab l),mk ls',m2⟩,[0,3,4],⟨hpo,hfull2,⟨ls',hls',rfl,by show(mk ls').length≤m2;omega⟩,by show(mk ls').length≤255;omega,hgo2⟩,by show m2<m2+1;omega,?_⟩
     conv=>whnf
     repeat'(first|exact ⟨⟩|exact rfl|exact fun _=>Iff.rfl|exact fun _ _=>rfl|exact qc0 _ _|exact(List.length_append ..).symm|exact qc1 _ _|apply And.intro)
  ·have hpl:=hw.pl _ (fndS_mem hq)
   have hor:bits .or .u64 49152 (IntKind.u64.wrap a)=49152+a:=by
    obtain ⟨a',rfl⟩:∃ a':Nat,a=(a':Int):=⟨a.toNat,by have:=hpl.1;simp only at this;omega⟩
    have h1:a'<16384:=by have:=hpl.2;simp only at this;omega
    rw[IntKind.wrap_u64,show((a':Int) % 18446744073709551616)=(a':Int) by omega]
    have:=u64_or_nat 49152 a' (by omega) (by omega)
    rw [show ((49152:Nat):Int)=49152 from rfl] at this
    rw[this,←Nat.two_pow_add_eq_or_of_lt (i:=14) (show a'<2 ^ 14 by omega) 3]
    omega
   conv=>whnf
   refine⟨fun kp=>?_,fun kp=>?_⟩
   ·have hfin:w1.num 2 (49152+a)=w.name n p:=by rw[←hgo,Wr.nameGo,if_pos k1',hq,kp];rfl
    conv=>whnf
    rw[hor]
    refine .rel _ (num_x w1 hw 2 (.inr (.inl rfl)) (49152+a)) (fun r ks' hR=>?_)
    obtain⟨rfl,rfl⟩:=hR
    conv=>whnf
    refine⟨[0,3,4],.tup [],(w1.num 2 (49152+a)).fl,rfl,rfl,rfl,?_,_,rfl,rfl,hfin⟩
    repeat'(first|exact ⟨⟩|exact rfl|exact fun _=>Iff.rfl|exact fun _ _=>rfl|exact qc0 _ _|exact(List.length_append ..).symm|exact qc1 _ _|apply And.intro)
   ·have hgo2:(if w1.fits (lab l) then Wr.nameGo p m2 (w1.piece (lab l)) (mk ls') else w1.piece (lab l))=w.name n p:=by
     rw[←hgo,Wr.nameGo,if_pos k1',hq,kp,hb,htk,hdr]
     rfl
    conv=>whnf
    refine⟨by omega,?_⟩
    conv=>whnf
    rw[hsz]
    refine⟨by omega,?_⟩
    conv=>whnf
    rw[hs1]
    refine .rel _ (piece_x w1 hw (lab l) hll) (fun r ks' hR=>?_)
    obtain⟨rfl,rfl⟩:=hR
    cases hf:w1.fits (lab l)
    ·rw [hf] at hgo2
     conv=>whnf
     refine⟨[0,3,4],.tup [],(w1.piece (lab l)).fl,rfl,rfl,rfl,?_,_,rfl,rfl,hgo2⟩
     repeat'(first|exact ⟨⟩|exact rfl|exact fun _=>Iff.rfl|exact fun _ _=>rfl|exact qc0 _ _|exact(List.length_append ..).symm|exact qc1 _ _|apply And.intro)
    ·rw [hf] at hgo2
     have hfull2:(w1.piece (lab l)).full=false:=by unfold Wr.piece;rw[if_pos hf];exact hfull
     conv=>whnf
     refine⟨by omega,?_⟩
     conv=>whnf
     rw[hs2]
     refine⟨⟨w1.piece (lab l),mk ls',m2⟩,[0,3,4],⟨hpo,hfull2,⟨ls',hls',rfl,by show(mk ls').length≤m2;omega⟩,by show(mk ls').length≤255;omega,hgo2⟩,by show m2<m2+1;omega,?_⟩
     conv=>whnf
     repeat'(first|exact ⟨⟩|exact rfl|exact fun _=>Iff.rfl|exact fun _ _=>rfl|exact qc0 _ _|exact(List.length_append ..).symm|exact qc1 _ _|apply And.intro)
 ·have k1':n1.length=1:=by
   have:¬ (n1.length:Int) > 1:=of_decide_eq_false k1
   have:=jc5 ls
   rw [←hsn] at this
   omega
  conv=>whnf
  refine .rel _ (piece_x w1 hw n1 (by omega)) (fun r ks' hR=>?_)
  obtain⟨rfl,rfl⟩:=hR
  have hfin:w1.piece n1=w.name n p:=by
   rw[←hgo]
   cases m1 with
   |zero=>rfl
   |succ m=>rw[Wr.nameGo,if_neg (by omega)]
  conv=>whnf
  refine⟨[0,3,4],.tup [],(w1.piece n1).fl,rfl,rfl,rfl,?_,_,rfl,rfl,hfin⟩
  repeat'(first|exact ⟨⟩|exact rfl|exact fun _=>Iff.rfl|exact fun _ _=>rfl|exact qc0 _ _|exact(List.length_append ..).symm|exact qc1 _ _|apply And.intro)
end Go.Proofs.YtdfdlbnojmlpiaaGreatDoor
namespace Go.Proofs.YtdfdlbnojmlpiaaGreatDoor
open Go Go.Eng
set_option maxRecDepth 100000
set_option maxHeartbeats 4000000 in
theorem wlen_ok(w:Wr):COk Tryz.prog 31 [.ptr 0 0] [pk w.fl] (fun r k=>∃ w1,k=[pk (Wr.fl w1)]∧(r = .d (.int .i64 w.buf.length)∧w1=w)):=by
 refine COk.toThing Wr.fl (qi1 (TT:=TT) (IN:=qc2 []) qc5 qa1 mixed 1000 Tryz.func31 rfl (qa8 Tryz.func31 (by kernel_rfl) rfl) 9 (by kernel_rfl) rfl ?_ ?_)
 ·rintro r l ⟨w1,_,rfl,_⟩
  rfl
 conv=>whnf
 refine⟨[0,1,2],.d (.int .i64 w.buf.length),w.fl,rfl,rfl,rfl,?_,_,rfl,rfl,rfl⟩
 repeat'(first|exact ⟨⟩|exact rfl|exact fun _=>Iff.rfl|exact fun _ _=>rfl|exact qc0 _ _|exact(List.length_append ..).symm|exact qc1 _ _|apply And.intro)
set_option maxHeartbeats 4000000 in
theorem out_ok(w:Wr):COk Tryz.prog 32 [.ptr 0 0] [pk w.fl] (fun r k=>∃ w1,k=[pk (Wr.fl w1)]∧(r=(if w.full then .tup [.d (.str []),.d (.int .i64 7)] else .tup [.d (.str w.buf),.d (.int .i64 0)])∧w1=w)):=by
 refine COk.toThing Wr.fl (qi1 (TT:=TT) (IN:=qc2 []) qc5 qa1 mixed 1000 Tryz.func32 rfl (qa8 Tryz.func32 (by kernel_rfl) rfl) 14 (by kernel_rfl) rfl ?_ ?_)
 ·rintro r l ⟨w1,_,rfl,_⟩
  split <;> rfl
 conv=>whnf
 refine⟨fun h1=>?_,fun h1=>?_⟩
 ·conv=>whnf
  rw[h1]
  refine⟨[0,1,2],.tup [.d (.str []),.d (.int .i64 7)],w.fl,rfl,rfl,rfl,?_,_,rfl,rfl,rfl⟩
  repeat'(first|exact ⟨⟩|exact rfl|exact fun _=>Iff.rfl|exact fun _ _=>rfl|exact qc0 _ _|exact(List.length_append ..).symm|exact qc1 _ _|apply And.intro)
 ·conv=>whnf
  refine⟨fun i _=>⟨_,rfl⟩,?_⟩
  conv=>whnf
  rw[h1,qc3]
  refine⟨[0,1,2],.tup [.d (.str w.buf),.d (.int .i64 0)],w.fl,rfl,rfl,rfl,?_,_,rfl,rfl,rfl⟩
  repeat'(first|exact ⟨⟩|exact rfl|exact fun _=>Iff.rfl|exact fun _ _=>rfl|exact qc0 _ _|exact(List.length_append ..).symm|exact qc1 _ _|apply And.intro)
set_option maxHeartbeats 4000000 in
theorem wnew_ok(limit:Int):COk Tryz.prog 29 [.d (.int .i64 limit)] [] (fun r k=>r = .ptr 0 0∧k=[pk (Wr.fl ⟨[],limit,false,[]⟩)]):=by
 have h:COk Tryz.prog 29 [.d (.int .i64 limit)] [] (fun r k=>r = .ptr 0 0∧k=[.cells 141 [nilS,.d (.int .i64 limit),.d (.bool false),.map 1],.map [EK.str] false false []]):=by
  refine qc4 (TT:=TT) (IN:=qc2 []) qc5 qa1 mixed 1000 Tryz.func29 rfl (qa8 Tryz.func29 (by kernel_rfl) rfl) 6 (by kernel_rfl) ?_
  conv=>whnf
  refine⟨[1,0],.ptr 0 0,_,rfl,rfl,rfl,?_,rfl,rfl⟩
  repeat'(first|exact ⟨⟩|exact rfl|exact fun _=>Iff.rfl|exact fun _ _=>rfl|exact renM_ent rfl _|apply And.intro)
 refine((h.nilCell (R':=fun r k=>r = .ptr 0 0∧k=Wr.fl ⟨[],limit,false,[]⟩) 5 1 (fun s k hh=>by obtain⟨rfl,rfl⟩:=hh;exact .inr ⟨0,0,_,_,_,_,qe7 [],rfl,rfl,rfl,rfl⟩)).packNew (fun s k ⟨h1,_⟩=>by rw[h1];rfl)).imp (fun s k ⟨k1,h1,h2,h3⟩=>⟨h2,by rw[h1,h3]⟩)
theorem u8_byte(n:Int):((UInt8.ofNat (IntKind.u8.wrap n).toNat).toNat:Int)=IntKind.u8.wrap n:=by
 have h:0≤IntKind.u8.wrap n∧IntKind.u8.wrap n<256:=by rw[IntKind.wrap_u8];omega
 rw[qo1 (by omega)]
 omega
def two(s:List UInt8)(k:Nat)(a b:UInt8):List UInt8:=s.take k++(a :: b :: s.drop (k+2))
theorem two_len(s:List UInt8)(k:Nat)(a b:UInt8)(h:k+2≤s.length):(two s k a b).length=s.length:=by
 simp[two];omega
theorem two_row(s:List UInt8)(k:Nat)(x y:Int)(h:k+2≤s.length)(i:Nat)(hi:i<s.length) :
 midF k 2 (qe7 s) (qh1 [.int .u8 (IntKind.u8.wrap x),.int .u8 (IntKind.u8.wrap y)] 1) i=qe7 (two s k (UInt8.ofNat (IntKind.u8.wrap x).toNat) (UInt8.ofNat (IntKind.u8.wrap y).toNat)) i:=by
 have hk:(s.take k).length=k:=by simp;omega
 unfold midF
 split
 ·rename_i hc
  have:i=k∨i=k+1:=by omega
  rcases this with rfl|rfl
  ·rw[Nat.sub_self]
   show[DV.int .u8 (IntKind.u8.wrap x)]=_
   unfold qe7 qc9 two
   rw[Int.toNat_natCast,List.getElem?_append_right (by omega),hk,Nat.sub_self]
   simp only[List.getElem?_cons_zero,Option.getD_some]
   rw[u8_byte]
  ·rw[show k+1 - k=1 by omega]
   show[DV.int .u8 (IntKind.u8.wrap y)]=_
   unfold qe7 qc9 two
   rw[Int.toNat_natCast,List.getElem?_append_right (by omega),hk,show k+1 - k=1 by omega]
   simp only[List.getElem?_cons_succ,List.getElem?_cons_zero,Option.getD_some]
   rw[u8_byte]
 ·rename_i hc
  unfold qe7 qc9 two
  rw[Int.toNat_natCast]
  congr 3
  by_cases hik:i<k
  ·rw[List.getElem?_append_left (by omega),List.getElem?_take,if_pos hik]
  ·rw[List.getElem?_append_right (by omega),hk]
   obtain⟨j,rfl⟩:∃ j,i=k+2+j:=⟨i - (k+2),by omega⟩
   rw[show k+2+j - k=j+1+1 by omega]
   simp only[List.getElem?_cons_succ,List.getElem?_drop]
def Wr.set(w:Wr)(at_ n:Int):Wr:=if at_<0∨at_ > w.buf.length - 2 then w else { w with buf:=two w.buf at_.toNat (UInt8.ofNat (IntKind.u8.wrap (n.fdiv 256)).toNat) (UInt8.ofNat (IntKind.u8.wrap n).toNat) }
set_option maxHeartbeats 4000000 in
theorem wset_ok(w:Wr)(hw:w.Ok)(at_ n:Int):COk Tryz.prog 80 [.ptr 0 0,.d (.int .i64 at_),.d (.int .u16 n)] [pk w.fl] (fun r k=>∃ w1,k=[pk (Wr.fl w1)]∧(r = .tup []∧w1=w.set at_ n)):=by
 refine COk.toThing Wr.fl (qi1 (TT:=TT) (IN:=qc2 []) qc5 qa1 mixed 1000 Tryz.func80 rfl (qa8 Tryz.func80 (by kernel_rfl) rfl) 34 (by kernel_rfl) rfl ?_ ?_)
 ·rintro r l ⟨w1,_,rfl,_⟩
  rfl
 conv=>whnf
 refine⟨fun h1=>?_,fun h1=>?_⟩
 ·conv=>whnf
  have h1':at_<0:=of_decide_eq_true h1
  refine⟨[0,1,2],.tup [],w.fl,rfl,rfl,rfl,?_,_,rfl,rfl,by unfold Wr.set;rw[if_pos (.inl h1')]⟩
  repeat'(first|exact ⟨⟩|exact rfl|exact fun _=>Iff.rfl|exact fun _ _=>rfl|exact qc0 _ _|exact(List.length_append ..).symm|exact qc1 _ _|apply And.intro)
 have h1':¬ at_<0:=of_decide_eq_false h1
 have hlen:=hw.len
 have hhi:=hw.hi
 have hwr:IntKind.i64.wrap ((w.buf.length:Int) - 2)=w.buf.length - 2:=qa4 _ (by omega)
 conv=>whnf
 rw[hwr]
 refine⟨fun h2=>?_,fun h2=>?_⟩
 ·have h2':at_ > w.buf.length - 2:=of_decide_eq_true h2
  conv=>whnf
  refine⟨[0,1,2],.tup [],w.fl,rfl,rfl,rfl,?_,_,rfl,rfl,by unfold Wr.set;rw[if_pos (.inr h2')]⟩
  repeat'(first|exact ⟨⟩|exact rfl|exact fun _=>Iff.rfl|exact fun _ _=>rfl|exact qc0 _ _|exact(List.length_append ..).symm|exact qc1 _ _|apply And.intro)
 ·have h2':¬ at_ > w.buf.length - 2:=of_decide_eq_false h2
  conv=>whnf
  refine⟨by decide,?_⟩
  conv=>whnf
  refine⟨by omega,?_⟩
  conv=>whnf
  refine⟨by decide,?_⟩
  conv=>whnf
  refine⟨⟨by show 2≤_;omega,by omega⟩,?_⟩
  have h3:at_.toNat+2≤w.buf.length:=by omega
  conv=>whnf
  refine⟨[0,1,2],.tup [],(w.set at_ n).fl,rfl,rfl,rfl,?_,_,rfl,rfl,rfl⟩
  unfold Wr.set
  rw[if_neg (by omega)]
  repeat'(first|exact ⟨⟩|exact rfl|exact qc0 _ _|exact(two_len _ _ _ _ h3).symm|exact two_row _ _ _ _ h3|apply And.intro)
end Go.Proofs.YtdfdlbnojmlpiaaGreatDoor
namespace Go.Proofs.YtdfdlbnojmlpiaaGreatDoor
open Go Go.Eng
structure Rdr where
 s:List UInt8
 p:Nat
 bad:Bool
def Rdr.kb(r:Rdr):KB:=.cells 147 [.d (.str r.s),.d (.int .i64 r.p),.d (.bool r.bad)]
structure Rdr.Ok(r:Rdr):Prop where
 len:r.s.length<4611686018427387904
 p:r.p≤r.s.length
def Rdr.raw(r:Rdr)(n:Int):Rdr × List UInt8:=if r.bad then (r,[]) else if n<0∨n > r.s.length - r.p then ({ r with bad:=true },[]) else ({ r with p:=r.p+n.toNat },(r.s.drop r.p).take n.toNat)
theorem Rdr.Ok.raw{r:Rdr}(h:r.Ok)(n:Int):(r.raw n).1.Ok:=by
 unfold Rdr.raw
 split
 ·exact h
 ·split
  ·exact⟨h.len,h.p⟩
  ·refine⟨h.len,?_⟩
   show r.p+n.toNat≤r.s.length
   omega
set_option maxRecDepth 100000
set_option maxHeartbeats 4000000 in
theorem open_ok(s:List UInt8):COk Tryz.prog 33 [.d (.str s)] [] (fun r k=>r = .ptr 0 0∧k=[Rdr.kb ⟨s,0,false⟩]):=by
 refine qc4 (TT:=TT) (IN:=qc2 []) qc5 qa1 mixed 1000 Tryz.func33 rfl (qa8 Tryz.func33 (by kernel_rfl) rfl) 5 (by kernel_rfl) ?_
 conv=>whnf
 refine⟨[0],.ptr 0 0,_,rfl,rfl,rfl,?_,rfl,rfl⟩
 repeat'(first|exact ⟨⟩|exact rfl|exact fun _=>Iff.rfl|exact fun _ _=>rfl|exact renM_ent rfl _|apply And.intro)
set_option maxHeartbeats 4000000 in
theorem jb8(r:Rdr)(hr:r.Ok)(n:Int)(hn : -9223372036854775808≤n∧n≤9223372036854775807):COk Tryz.prog 150 [.ptr 0 0,.d (.int .i64 n)] [r.kb] (fun s k=>∃ r1,k=[Rdr.kb r1]∧(s = .d (.str (r.raw n).2)∧r1=(r.raw n).1)):=by
 refine qc4 (TT:=TT) (IN:=qc2 [(83,Tryz.f83,1),(149,Tryz.f149,1)]) qc5 (qb8 (qb8 qa1 Tryz.func149 (by kernel_rfl) (by kernel_rfl)) Tryz.func83 (by kernel_rfl) (by kernel_rfl)) mixed 1000 Tryz.func150 rfl (qa8 Tryz.func150 (by kernel_rfl) rfl) 46 (by kernel_rfl) ?_
 have hlen:=hr.len
 have hp:=hr.p
 have hwr:IntKind.i64.wrap ((r.s.length:Int) - r.p)=(r.s.length:Int) - r.p:=qa4 _ (by omega)
 conv=>whnf
 refine⟨fun h1=>?_,fun h1=>?_⟩
 ·have e:r.raw n=(r,[]):=by unfold Rdr.raw;rw[if_pos h1]
  rw[e]
  conv=>whnf
  refine⟨[0],.d (.str []),[r.kb],rfl,rfl,rfl,?_,_,rfl,rfl,rfl⟩
  repeat'(first|exact ⟨⟩|exact rfl|exact fun _=>Iff.rfl|exact fun _ _=>rfl|exact renM_ent rfl _|apply And.intro)
 conv=>whnf
 refine⟨fun h2=>?_,fun h2=>?_⟩
 ·have h2':n<0:=of_decide_eq_true h2
  have e:r.raw n=({ r with bad:=true },[]):=by unfold Rdr.raw;rw[if_neg (by simp[h1]),if_pos (.inl h2')]
  rw[e]
  conv=>whnf
  repeat(first|(refine brT rfl ?_;conv=>whnf)|(refine brF rfl ?_;conv=>whnf)|(refine .once ?_;conv=>whnf)|(refine⟨by decide,?_⟩;conv=>whnf)|(refine And.intro (Nat.le_of_ble_eq_true rfl) ?_;conv=>whnf))
  refine⟨[0],.d (.str []),[Rdr.kb { r with bad:=true }],rfl,rfl,rfl,?_,_,rfl,rfl,rfl⟩
  repeat'(first|exact ⟨⟩|exact rfl|exact fun _=>Iff.rfl|exact fun _ _=>rfl|exact renM_ent rfl _|apply And.intro)
 have h2':¬ n<0:=of_decide_eq_false h2
 conv=>whnf
 rw[hwr]
 refine⟨fun h3=>?_,fun h3=>?_⟩
 ·have h3':n > (r.s.length:Int) - r.p:=of_decide_eq_true h3
  have e:r.raw n=({ r with bad:=true },[]):=by unfold Rdr.raw;rw[if_neg (by simp[h1]),if_pos (.inr h3')]
  rw[e]
  conv=>whnf
  repeat(first|(refine brT rfl ?_;conv=>whnf)|(refine brF rfl ?_;conv=>whnf)|(refine .once ?_;conv=>whnf)|(refine⟨by decide,?_⟩;conv=>whnf)|(refine And.intro (Nat.le_of_ble_eq_true rfl) ?_;conv=>whnf))
  refine⟨[0],.d (.str []),[Rdr.kb { r with bad:=true }],rfl,rfl,rfl,?_,_,rfl,rfl,rfl⟩
  repeat'(first|exact ⟨⟩|exact rfl|exact fun _=>Iff.rfl|exact fun _ _=>rfl|exact renM_ent rfl _|apply And.intro)
 ·have h3':¬ n > (r.s.length:Int) - r.p:=of_decide_eq_false h3
  have e:r.raw n=({ r with p:=r.p+n.toNat },(r.s.drop r.p).take n.toNat):=by unfold Rdr.raw;rw[if_neg (by simp[h1]),if_neg (by omega)]
  have e1:IntKind.i64.wrap ((r.p:Int)+n)=((r.p+n.toNat:Nat):Int):=by rw[qa4 _ (by omega)];omega
  have e2:IntKind.i64.wrap (((r.p+n.toNat:Nat):Int) - n)=(r.p:Int):=by rw[qa4 _ (by omega)];omega
  have e3:sub r.s (r.p:Int) ((r.p+n.toNat:Nat):Int)=(r.s.drop r.p).take n.toNat:=by
   unfold sub
   rw[Int.toNat_natCast,Int.toNat_natCast,show r.p+n.toNat - r.p=n.toNat by omega]
  rw[e]
  conv=>whnf
  rw[e1,e2]
  refine⟨by omega,?_⟩
  rw[e3]
  conv=>whnf
  refine⟨[0],.d (.str ((r.s.drop r.p).take n.toNat)),[Rdr.kb { r with p:=r.p+n.toNat }],rfl,rfl,rfl,?_,_,rfl,rfl,rfl⟩
  repeat'(first|exact ⟨⟩|exact rfl|exact fun _=>Iff.rfl|exact fun _ _=>rfl|exact renM_ent rfl _|apply And.intro)
theorem qi2{P:Program}{f:FuncId}{al al':List SV}{a:Rdr}{Q:SV→Rdr→Prop}(h:COk P f al [a.kb] (fun s k=>∃ a1,k=[Rdr.kb a1]∧Q s a1))(pre rest:List KB)(σ:Nat→Nat)(hσ:σ=sig (List.range' pre.length 1) (pre.length+(1+rest.length)))(ha:mapL σ al=al') :
 COk P f al' (pre++(a.kb :: rest)) (fun s k=>∃ s0 a1,Q s0 a1∧s=mapV σ s0∧k=pre++(Rdr.kb a1 :: rest)) :=
 COk.fam (fun a _=>[Rdr.kb a]) 1 (fun _ _=>rfl) (fun _ _ _ _=>rfl) h pre rest σ hσ ha
theorem Rdr.raw_len{r:Rdr}(n:Nat)(h:(r.raw n).1.bad=false):(r.raw n).2.length=n:=by
 unfold Rdr.raw at h ⊢
 split
 ·rename_i hb;rw [if_pos hb] at h;rw [hb] at h;cases h
 ·rename_i hb
  rw [if_neg hb] at h
  split
  ·rename_i hc;rw [if_pos hc] at h;cases h
  ·simp
   omega
theorem acc1(x y:Nat)(hx:x<72057594037927936)(hy:y<256):bits .or .u64 (IntKind.u64.wrap ((x:Int) * 2 ^ 8)) (IntKind.u64.wrap (y:Int))=((x * 256+y:Nat):Int):=by
 have e1:IntKind.u64.wrap ((x:Int) * 2 ^ 8)=((x * 256:Nat):Int):=by rw[IntKind.wrap_u64];omega
 have e2:IntKind.u64.wrap (y:Int)=(y:Int):=by rw[IntKind.wrap_u64];omega
 rw[e1,e2,u64_or_nat _ _ (by omega) (by omega)]
 have:=Nat.two_pow_add_eq_or_of_lt (i:=8) (show y<2 ^ 8 by omega) x
 rw[show x * 256=2 ^ 8 * x by omega,←this]
theorem acc8(y0 y1 y2 y3 y4 y5 y6 y7:Nat)(h0:y0<256)(h1:y1<256)(h2:y2<256)(h3:y3<256)(h4:y4<256)(h5:y5<256)(h6:y6<256)(h7:y7<256) :
 bits .or .u64 (IntKind.u64.wrap (bits .or .u64 (IntKind.u64.wrap (bits .or .u64 (IntKind.u64.wrap (bits .or .u64 (IntKind.u64.wrap (bits .or .u64 (IntKind.u64.wrap (bits .or .u64 (IntKind.u64.wrap (bits .or .u64 (IntKind.u64.wrap (bits .or .u64 (IntKind.u64.wrap (0 * 2 ^ 8)) (IntKind.u64.wrap (y0:Int)) * 2 ^ 8)) (IntKind.u64.wrap (y1:Int)) * 2 ^ 8)) (IntKind.u64.wrap (y2:Int)) * 2 ^ 8)) (IntKind.u64.wrap (y3:Int)) * 2 ^ 8)) (IntKind.u64.wrap (y4:Int)) * 2 ^ 8)) (IntKind.u64.wrap (y5:Int)) * 2 ^ 8)) (IntKind.u64.wrap (y6:Int)) * 2 ^ 8)) (IntKind.u64.wrap (y7:Int)) =
 ((((((((((0 * 256+y0) * 256+y1) * 256+y2) * 256+y3) * 256+y4) * 256+y5) * 256+y6) * 256+y7:Nat)):Int):=by
 have e0:=acc1 0 y0 (by omega) h0
 rw [show ((0:Nat):Int)=0 from rfl] at e0
 rw[e0,acc1 _ y1 (by omega) h1,acc1 _ y2 (by omega) h2,acc1 _ y3 (by omega) h3,acc1 _ y4 (by omega) h4,acc1 _ y5 (by omega) h5,acc1 _ y6 (by omega) h6,acc1 _ y7 (by omega) h7]
theorem qf4{α:Type}{l:List α}{n:Nat}(h:l.length=n+1):∃ a t,l=a :: t∧t.length=n:=by
 cases l with
 |nil=>simp at h
 |cons a t=>exact⟨a,t,rfl,by simpa using h⟩
def jy9(s:List UInt8):Nat:=s.foldl (fun n b=>n * 256+b.toNat) 0
def wideN(n:Nat):Prop:=n=1∨n=2∨n=4∨n=8
def Rdr.num(r:Rdr)(width:Nat):Rdr × Nat:=((r.raw width).1,if (r.raw width).1.bad then 0 else jy9 (r.raw width).2)
set_option maxHeartbeats 4000000 in
theorem jm3(r:Rdr)(hr:r.Ok)(width:Nat)(hw:wideN width):COk Tryz.prog 82 [.ptr 0 0,.d (.int .i64 width)] [r.kb] (fun s k=>∃ r1,k=[Rdr.kb r1]∧(s = .d (.int .u64 (r.num width).2)∧r1=(r.num width).1)):=by
 refine qc4 (TT:=TT) (IN:=qc2 [(143,Tryz.f143,1),(83,Tryz.f83,1)]) qc5 (qb8 (qb8 qa1 Tryz.func83 (by kernel_rfl) (by kernel_rfl)) Tryz.func143 (by kernel_rfl) (by kernel_rfl)) mixed 1000 Tryz.func82 rfl (qa8 Tryz.func82 (by kernel_rfl) rfl) 34 (by kernel_rfl) ?_
 rcases hw with rfl|rfl|rfl|rfl
 ·conv=>whnf
  repeat(first|(refine brT rfl ?_;conv=>whnf)|(refine brF rfl ?_;conv=>whnf)|(refine .once ?_;conv=>whnf)|(refine⟨by decide,?_⟩;conv=>whnf)|(refine And.intro (Nat.le_of_ble_eq_true rfl) ?_;conv=>whnf))
  refine .rel _ (qi2 (jb8 r hr 1 (by omega)) [] [] _ rfl rfl) (fun x ks' hR=>?_)
  obtain⟨_,r1,⟨rfl,rfl⟩,rfl,rfl⟩:=hR
  conv=>whnf
  refine⟨fun h1=>?_,fun h1=>?_⟩
  ·have e:r.num 1=((r.raw 1).1,0):=by unfold Rdr.num;rw[if_pos (show(r.raw ((1:Nat):Int)).1.bad=true from h1)];rfl
   rw[e]
   conv=>whnf
   refine⟨[0],.d (.int .u64 0),[(r.raw 1).1.kb],rfl,rfl,rfl,?_,_,rfl,rfl,rfl⟩
   repeat'(first|exact ⟨⟩|exact rfl|exact fun _=>Iff.rfl|exact fun _ _=>rfl|exact renM_ent rfl _|apply And.intro)
  ·have hrl:(r.raw ((1:Nat):Int)).2.length=1:=Rdr.raw_len 1 h1
   have e:r.num 1=((r.raw 1).1,jy9 (r.raw ((1:Nat):Int)).2):=by unfold Rdr.num;rw[if_neg (by rw[show(r.raw ((1:Nat):Int)).1.bad=false from h1];simp)];rfl
   rw[e]
   obtain⟨b0,t0,e0,l0⟩:=qf4 hrl
   have e9:=List.length_eq_zero_iff.1 l0
   subst e9
   rw[e0]
   rw[show(r.raw 1).2=[b0] from e0]
   conv=>whnf
   repeat(first|(refine brT rfl ?_;conv=>whnf)|(refine brF rfl ?_;conv=>whnf)|(refine .once ?_;conv=>whnf)|(refine⟨by decide,?_⟩;conv=>whnf)|(refine And.intro (Nat.le_of_ble_eq_true rfl) ?_;conv=>whnf))
   refine⟨[0],.d (.int .u64 (jy9 [b0])),[(r.raw 1).1.kb],rfl,rfl,?_,?_,_,rfl,rfl,rfl⟩
   ·exact congrArg (fun z=>SV.d (DV.int .u64 z)) (acc8 (0) (0) (0) (0) (0) (0) (0) (b0.toNat) (by omega) (by omega) (by omega) (by omega) (by omega) (by omega) (by omega) (UInt8.toNat_lt _))
   ·repeat'(first|exact ⟨⟩|exact rfl|exact fun _=>Iff.rfl|exact fun _ _=>rfl|exact renM_ent rfl _|apply And.intro)
 ·conv=>whnf
  repeat(first|(refine brT rfl ?_;conv=>whnf)|(refine brF rfl ?_;conv=>whnf)|(refine .once ?_;conv=>whnf)|(refine⟨by decide,?_⟩;conv=>whnf)|(refine And.intro (Nat.le_of_ble_eq_true rfl) ?_;conv=>whnf))
  refine .rel _ (qi2 (jb8 r hr 2 (by omega)) [] [] _ rfl rfl) (fun x ks' hR=>?_)
  obtain⟨_,r1,⟨rfl,rfl⟩,rfl,rfl⟩:=hR
  conv=>whnf
  refine⟨fun h1=>?_,fun h1=>?_⟩
  ·have e:r.num 2=((r.raw 2).1,0):=by unfold Rdr.num;rw[if_pos (show(r.raw ((2:Nat):Int)).1.bad=true from h1)];rfl
   rw[e]
   conv=>whnf
   refine⟨[0],.d (.int .u64 0),[(r.raw 2).1.kb],rfl,rfl,rfl,?_,_,rfl,rfl,rfl⟩
   repeat'(first|exact ⟨⟩|exact rfl|exact fun _=>Iff.rfl|exact fun _ _=>rfl|exact renM_ent rfl _|apply And.intro)
  ·have hrl:(r.raw ((2:Nat):Int)).2.length=2:=Rdr.raw_len 2 h1
   have e:r.num 2=((r.raw 2).1,jy9 (r.raw ((2:Nat):Int)).2):=by unfold Rdr.num;rw[if_neg (by rw[show(r.raw ((2:Nat):Int)).1.bad=false from h1];simp)];rfl
   rw[e]
   obtain⟨b0,t0,e0,l0⟩:=qf4 hrl
   obtain⟨b1,t1,e1,l1⟩:=qf4 l0
   subst e1
   have e9:=List.length_eq_zero_iff.1 l1
   subst e9
   rw[e0]
   rw[show(r.raw 2).2=[b0,b1] from e0]
   conv=>whnf
   repeat(first|(refine brT rfl ?_;conv=>whnf)|(refine brF rfl ?_;conv=>whnf)|(refine .once ?_;conv=>whnf)|(refine⟨by decide,?_⟩;conv=>whnf)|(refine And.intro (Nat.le_of_ble_eq_true rfl) ?_;conv=>whnf))
   refine⟨[0],.d (.int .u64 (jy9 [b0,b1])),[(r.raw 2).1.kb],rfl,rfl,?_,?_,_,rfl,rfl,rfl⟩
   ·exact congrArg (fun z=>SV.d (DV.int .u64 z)) (acc8 (0) (0) (0) (0) (0) (0) (b0.toNat) (b1.toNat) (by omega) (by omega) (by omega) (by omega) (by omega) (by omega) (UInt8.toNat_lt _) (UInt8.toNat_lt _))
   ·repeat'(first|exact ⟨⟩|exact rfl|exact fun _=>Iff.rfl|exact fun _ _=>rfl|exact renM_ent rfl _|apply And.intro)
 ·conv=>whnf
  repeat(first|(refine brT rfl ?_;conv=>whnf)|(refine brF rfl ?_;conv=>whnf)|(refine .once ?_;conv=>whnf)|(refine⟨by decide,?_⟩;conv=>whnf)|(refine And.intro (Nat.le_of_ble_eq_true rfl) ?_;conv=>whnf))
  refine .rel _ (qi2 (jb8 r hr 4 (by omega)) [] [] _ rfl rfl) (fun x ks' hR=>?_)
  obtain⟨_,r1,⟨rfl,rfl⟩,rfl,rfl⟩:=hR
  conv=>whnf
  refine⟨fun h1=>?_,fun h1=>?_⟩
  ·have e:r.num 4=((r.raw 4).1,0):=by unfold Rdr.num;rw[if_pos (show(r.raw ((4:Nat):Int)).1.bad=true from h1)];rfl
   rw[e]
   conv=>whnf
   refine⟨[0],.d (.int .u64 0),[(r.raw 4).1.kb],rfl,rfl,rfl,?_,_,rfl,rfl,rfl⟩
   repeat'(first|exact ⟨⟩|exact rfl|exact fun _=>Iff.rfl|exact fun _ _=>rfl|exact renM_ent rfl _|apply And.intro)
  ·have hrl:(r.raw ((4:Nat):Int)).2.length=4:=Rdr.raw_len 4 h1
   have e:r.num 4=((r.raw 4).1,jy9 (r.raw ((4:Nat):Int)).2):=by unfold Rdr.num;rw[if_neg (by rw[show(r.raw ((4:Nat):Int)).1.bad=false from h1];simp)];rfl
   rw[e]
   obtain⟨b0,t0,e0,l0⟩:=qf4 hrl
   obtain⟨b1,t1,e1,l1⟩:=qf4 l0
   obtain⟨b2,t2,e2,l2⟩:=qf4 l1
   obtain⟨b3,t3,e3,l3⟩:=qf4 l2
   subst e1
   subst e2
   subst e3
   have e9:=List.length_eq_zero_iff.1 l3
   subst e9
   rw[e0]
   rw[show(r.raw 4).2=[b0,b1,b2,b3] from e0]
   conv=>whnf
   repeat(first|(refine brT rfl ?_;conv=>whnf)|(refine brF rfl ?_;conv=>whnf)|(refine .once ?_;conv=>whnf)|(refine⟨by decide,?_⟩;conv=>whnf)|(refine And.intro (Nat.le_of_ble_eq_true rfl) ?_;conv=>whnf))
   refine⟨[0],.d (.int .u64 (jy9 [b0,b1,b2,b3])),[(r.raw 4).1.kb],rfl,rfl,?_,?_,_,rfl,rfl,rfl⟩
   ·exact congrArg (fun z=>SV.d (DV.int .u64 z)) (acc8 (0) (0) (0) (0) (b0.toNat) (b1.toNat) (b2.toNat) (b3.toNat) (by omega) (by omega) (by omega) (by omega) (UInt8.toNat_lt _) (UInt8.toNat_lt _) (UInt8.toNat_lt _) (UInt8.toNat_lt _))
   ·repeat'(first|exact ⟨⟩|exact rfl|exact fun _=>Iff.rfl|exact fun _ _=>rfl|exact renM_ent rfl _|apply And.intro)
 ·conv=>whnf
  repeat(first|(refine brT rfl ?_;conv=>whnf)|(refine brF rfl ?_;conv=>whnf)|(refine .once ?_;conv=>whnf)|(refine⟨by decide,?_⟩;conv=>whnf)|(refine And.intro (Nat.le_of_ble_eq_true rfl) ?_;conv=>whnf))
  refine .rel _ (qi2 (jb8 r hr 8 (by omega)) [] [] _ rfl rfl) (fun x ks' hR=>?_)
  obtain⟨_,r1,⟨rfl,rfl⟩,rfl,rfl⟩:=hR
  conv=>whnf
  refine⟨fun h1=>?_,fun h1=>?_⟩
  ·have e:r.num 8=((r.raw 8).1,0):=by unfold Rdr.num;rw[if_pos (show(r.raw ((8:Nat):Int)).1.bad=true from h1)];rfl
   rw[e]
   conv=>whnf
   refine⟨[0],.d (.int .u64 0),[(r.raw 8).1.kb],rfl,rfl,rfl,?_,_,rfl,rfl,rfl⟩
   repeat'(first|exact ⟨⟩|exact rfl|exact fun _=>Iff.rfl|exact fun _ _=>rfl|exact renM_ent rfl _|apply And.intro)
  ·have hrl:(r.raw ((8:Nat):Int)).2.length=8:=Rdr.raw_len 8 h1
   have e:r.num 8=((r.raw 8).1,jy9 (r.raw ((8:Nat):Int)).2):=by unfold Rdr.num;rw[if_neg (by rw[show(r.raw ((8:Nat):Int)).1.bad=false from h1];simp)];rfl
   rw[e]
   obtain⟨b0,t0,e0,l0⟩:=qf4 hrl
   obtain⟨b1,t1,e1,l1⟩:=qf4 l0
   obtain⟨b2,t2,e2,l2⟩:=qf4 l1
   obtain⟨b3,t3,e3,l3⟩:=qf4 l2
   obtain⟨b4,t4,e4,l4⟩:=qf4 l3
   obtain⟨b5,t5,e5,l5⟩:=qf4 l4
   obtain⟨b6,t6,e6,l6⟩:=qf4 l5
   obtain⟨b7,t7,e7,l7⟩:=qf4 l6
   subst e1
   subst e2
   subst e3
   subst e4
   subst e5
   subst e6
   subst e7
   have e9:=List.length_eq_zero_iff.1 l7
   subst e9
   rw[e0]
   rw[show(r.raw 8).2=[b0,b1,b2,b3,b4,b5,b6,b7] from e0]
   conv=>whnf
   repeat(first|(refine brT rfl ?_;conv=>whnf)|(refine brF rfl ?_;conv=>whnf)|(refine .once ?_;conv=>whnf)|(refine⟨by decide,?_⟩;conv=>whnf)|(refine And.intro (Nat.le_of_ble_eq_true rfl) ?_;conv=>whnf))
   refine⟨[0],.d (.int .u64 (jy9 [b0,b1,b2,b3,b4,b5,b6,b7])),[(r.raw 8).1.kb],rfl,rfl,?_,?_,_,rfl,rfl,rfl⟩
   ·exact congrArg (fun z=>SV.d (DV.int .u64 z)) (acc8 (b0.toNat) (b1.toNat) (b2.toNat) (b3.toNat) (b4.toNat) (b5.toNat) (b6.toNat) (b7.toNat) (UInt8.toNat_lt _) (UInt8.toNat_lt _) (UInt8.toNat_lt _) (UInt8.toNat_lt _) (UInt8.toNat_lt _) (UInt8.toNat_lt _) (UInt8.toNat_lt _) (UInt8.toNat_lt _))
   ·repeat'(first|exact ⟨⟩|exact rfl|exact fun _=>Iff.rfl|exact fun _ _=>rfl|exact renM_ent rfl _|apply And.intro)
end Go.Proofs.YtdfdlbnojmlpiaaGreatDoor
namespace Go.Proofs.YtdfdlbnojmlpiaaGreatDoor
open Go Go.Eng
def rnGo(s:List UInt8):Nat→Nat→Nat→Option Nat→List UInt8→List UInt8 × Option Nat
 |0,_,_,bh,nm=>(nm,bh)
 |f+1,begin,at_,bh,nm =>
  if at_<s.length∧nm.length<255 then
   if bt s at_=0 then (nm++[0],some (bh.getD (at_+1)))
   else if bt s at_≤63∧bt s at_<s.length - at_ then rnGo s f begin (at_+1+bt s at_) bh (nm++(s.drop at_).take (1+bt s at_))
   else if 192≤bt s at_∧at_+1<s.length then
    if (bt s at_ - 192) * 256+bt s (at_+1) ≥ begin then (nm,some (bh.getD (at_+2)))
    else rnGo s f ((bt s at_ - 192) * 256+bt s (at_+1)) ((bt s at_ - 192) * 256+bt s (at_+1)) (some (bh.getD (at_+2))) nm
   else (nm,bh)
  else (nm,bh)
def jb4(s:List UInt8)(begin:Nat)(nm:List UInt8):Nat:=(400 - nm.length) * (s.length+1)+begin
def qv5(s:List UInt8)(p:Nat):List UInt8 × Option Nat:=rnGo s (jb4 s p []+1) p p none []
def Rdr.name(r:Rdr):Rdr × List UInt8:=if r.bad then (r,[]) else
 if qb2 (qv5 r.s r.p).1 then ({ r with p:=(qv5 r.s r.p).2.getD 0 },(qv5 r.s r.p).1) else ({ r with bad:=true },[])
theorem Rdr.name_bad{r:Rdr}(h1:r.bad=false){nm:List UInt8}(h:(qv5 r.s r.p).1=nm)(hn:¬ qb2 nm):r.name=({ r with bad:=true },[]):=by
 unfold Rdr.name
 rw[if_neg (by simp[h1]),h,if_neg hn]
theorem Rdr.name_ok{r:Rdr}(h1:r.bad=false){nm:List UInt8}{k:Nat}(h:qv5 r.s r.p=(nm,some k))(hn:qb2 nm):r.name=({ r with p:=k },nm):=by
 unfold Rdr.name
 rw[if_neg (by simp[h1]),h,if_pos hn]
 rfl
theorem bytesOf_cat(a b:List UInt8)(f:Nat→List DV)(hf:∀ i,i<a.length+b.length→f i=qe7 (a++b) i):qe3 (a.length+b.length) f=a++b:=by
 have:=qc3 (a++b)
 rw [List.length_append] at this
 rw[←this]
 unfold qe3
 apply List.map_congr_left
 intro i hi
 rw[hf i (List.mem_range.1 hi)]
theorem ja5(nm:List UInt8)(i:Nat)(h:i<nm.length+1):catF nm.length (qe7 nm) (qh1 [.int .u8 0] 1) i=qe7 (nm++[0]) i:=by
 unfold catF
 split
 ·rename_i hl
  unfold qe7 qc9
  rw[Int.toNat_natCast,List.getElem?_append_left hl]
 ·rename_i hl
  have:i=nm.length:=by omega
  subst this
  rw[Nat.sub_self]
  unfold qe7 qc9
  rw[Int.toNat_natCast,List.getElem?_append_right (Nat.le_refl _),Nat.sub_self]
  rfl
theorem or_i64(a b:Nat)(ha:a<4611686018427387904)(hb:b<4611686018427387904)(hab:a ||| b<9223372036854775808):bits .or .i64 (a:Int) (b:Int)=((a ||| b:Nat):Int):=by
 have h:=u64_or_nat a b (by omega) (by omega)
 unfold bits at h ⊢
 have e:((BitVec.ofInt IntKind.i64.bits (a:Int) ||| BitVec.ofInt IntKind.i64.bits (b:Int)).toNat:Int)=((BitVec.ofInt IntKind.u64.bits (a:Int) ||| BitVec.ofInt IntKind.u64.bits (b:Int)).toNat:Int):=rfl
 show IntKind.i64.wrap ((BitVec.ofInt IntKind.i64.bits (a:Int) ||| BitVec.ofInt IntKind.i64.bits (b:Int)).toNat:Int)=_
 have h:IntKind.u64.wrap ((BitVec.ofInt IntKind.u64.bits (a:Int) ||| BitVec.ofInt IntKind.u64.bits (b:Int)).toNat:Int)=((a ||| b:Nat):Int):=h
 have hlt:=(BitVec.ofInt IntKind.u64.bits (a:Int) ||| BitVec.ofInt IntKind.u64.bits (b:Int)).isLt
 rw [IntKind.wrap_u64] at h
 rw[e]
 generalize (BitVec.ofInt IntKind.u64.bits (a:Int) ||| BitVec.ofInt IntKind.u64.bits (b:Int)).toNat=X at h hlt
 have hlt:X<18446744073709551616:=hlt
 rw[qa4 _ (by omega)]
 omega
def bhI:Option Nat→Int
 |none=>-1
 |some k=>k
structure RnSt where
 b:Nat
 p:Nat
 bh:Option Nat
 nm:List UInt8
 f:Nat
set_option maxRecDepth 100000
set_option maxHeartbeats 8000000 in
theorem rname_ok(r:Rdr)(hr:r.Ok):COk Tryz.prog 81 [.ptr 0 0] [r.kb] (fun s k=>∃ r1,k=[Rdr.kb r1]∧(s = .d (.str r.name.2)∧r1=r.name.1)):=by
 refine qc4 (TT:=TT) (IN:=qc2 [(83,Tryz.f83,1),(149,Tryz.f149,1)]) qc5 (qb8 (qb8 qa1 Tryz.func149 (by kernel_rfl) (by kernel_rfl)) Tryz.func83 (by kernel_rfl) (by kernel_rfl)) mixed 1000 Tryz.func81 rfl (qa8 Tryz.func81 (by kernel_rfl) rfl) 123 (by kernel_rfl) ?_
 have hlen:=hr.len
 have hp:=hr.p
 conv=>whnf
 refine⟨fun h1=>?_,fun h1=>?_⟩
 ·have e:r.name=(r,[]):=by unfold Rdr.name;rw[if_pos h1]
  rw[e]
  conv=>whnf
  refine⟨[0],.d (.str []),[r.kb],rfl,rfl,rfl,?_,_,rfl,rfl,rfl⟩
  repeat'(first|exact ⟨⟩|exact rfl|exact fun _=>Iff.rfl|exact fun _ _=>rfl|exact renM_ent rfl _|apply And.intro)
 conv=>whnf
 refine .nilT 3 5 1 (qe7 []) 0 (fun _=>[]) rfl ?_
 conv=>whnf
 refine .inv RnSt (fun s=>s.p≤r.s.length∧s.b≤r.s.length∧(∀ k,s.bh=some k→k≤r.s.length)∧(∃ ls,(∀ l ∈ ls,okL l)∧s.nm=labs ls)∧s.nm.length≤318∧jb4 r.s s.b s.nm<s.f∧rnGo r.s s.f s.b s.p s.bh s.nm=qv5 r.s r.p) (fun s=>[(3,.all 1),(4,.d (.int .i64 s.b)),(5,.d (.int .i64 s.p)),(6,.d (.int .i64 (bhI s.bh)))]) (fun s=>[(1,.row 5 1 s.nm.length .iff (qe7 s.nm))]) (fun s=>s.f) ⟨⟨r.p,r.p,none,[],jb4 r.s r.p []+1⟩,[0,1],?_,?_⟩ ?_
 ·exact⟨hp,hp,(fun k h=>by cases h),⟨[],(fun l h=>by cases h),rfl⟩,by show 0≤318;omega,Nat.lt_succ_self _,rfl⟩
 ·conv=>whnf
  repeat'(first|exact ⟨⟩|exact rfl|exact fun _=>Iff.rfl|exact fun _ _=>rfl|exact renM_ent rfl _|apply And.intro)
 intro s hs
 obtain⟨hp1,hb1,hbh,⟨ls,hls,hnm⟩,hnl,hf,hgo⟩:=hs
 conv=>whnf
 generalize s.p=p at hp1 hgo ⊢
 generalize s.b=b at hb1 hf hgo ⊢
 generalize s.bh=bh at hbh hgo ⊢
 generalize s.nm=nm at hnm hnl hf hgo ⊢
 generalize s.f=f at hf hgo ⊢
 obtain⟨f',rfl⟩:∃ f',f=f'+1:=⟨f - 1,by omega⟩
 rw [rnGo] at hgo
 have hnn:¬ qb2 nm:=by rw[hnm];exact labs_notName ls hls
 have hbhI:bhI bh = -1∨∃ k:Nat,bh=some k∧bhI bh=(k:Int)∧k≤r.s.length:=by
  cases hb:bh with
  |none=>exact .inl rfl
  |some k=>exact .inr ⟨k,rfl,rfl,hbh k hb⟩
 have hbt:bt r.s p<256:=ji4 _ _
 refine⟨fun c1=>?_,fun c1=>?_⟩
 rotate_left
 ·have c1':¬ p<r.s.length:=by
   have:¬ (p:Int)<r.s.length:=of_decide_eq_false c1
   omega
  rw [if_neg (by omega)] at hgo
  conv=>whnf
  ·have hfin:r.name=({ r with bad:=true },[]):=Rdr.name_bad h1 (show(qv5 r.s r.p).1=nm by rw[←hgo]) hnn
   rw[hfin]
   conv=>whnf
   refine⟨fun i hi=>⟨_,rfl⟩,?_⟩
   conv=>whnf
   rw[qc3]
   refine .one (.data _ (qf2 nm) rfl rfl ?_)
   rw[if_neg hnn]
   conv=>whnf
   repeat(first|(refine brT rfl ?_;conv=>whnf)|(refine brF rfl ?_;conv=>whnf)|(refine .once ?_;conv=>whnf)|(refine⟨by decide,?_⟩;conv=>whnf)|(refine And.intro (Nat.le_of_ble_eq_true rfl) ?_;conv=>whnf))
   refine⟨[0],.d (.str []),[Rdr.kb { r with bad:=true }],rfl,rfl,rfl,?_,_,rfl,rfl,rfl⟩
   repeat'(first|exact ⟨⟩|exact rfl|exact fun _=>Iff.rfl|exact fun _ _=>rfl|exact renM_ent rfl _|apply And.intro)
 have c1':p<r.s.length:=by
  have:(p:Int)<r.s.length:=of_decide_eq_true c1
  omega
 conv=>whnf
 refine⟨fun c2=>?_,fun c2=>?_⟩
 rotate_left
 ·have c2':¬ nm.length<255:=by
   have:¬ (nm.length:Int)<255:=of_decide_eq_false c2
   omega
  rw [if_neg (by omega)] at hgo
  conv=>whnf
  ·have hfin:r.name=({ r with bad:=true },[]):=Rdr.name_bad h1 (show(qv5 r.s r.p).1=nm by rw[←hgo]) hnn
   rw[hfin]
   conv=>whnf
   refine⟨fun i hi=>⟨_,rfl⟩,?_⟩
   conv=>whnf
   rw[qc3]
   refine .one (.data _ (qf2 nm) rfl rfl ?_)
   rw[if_neg hnn]
   conv=>whnf
   repeat(first|(refine brT rfl ?_;conv=>whnf)|(refine brF rfl ?_;conv=>whnf)|(refine .once ?_;conv=>whnf)|(refine⟨by decide,?_⟩;conv=>whnf)|(refine And.intro (Nat.le_of_ble_eq_true rfl) ?_;conv=>whnf))
   refine⟨[0],.d (.str []),[Rdr.kb { r with bad:=true }],rfl,rfl,rfl,?_,_,rfl,rfl,rfl⟩
   repeat'(first|exact ⟨⟩|exact rfl|exact fun _=>Iff.rfl|exact fun _ _=>rfl|exact renM_ent rfl _|apply And.intro)
 have c2':nm.length<255:=by
  have:(nm.length:Int)<255:=of_decide_eq_true c2
  omega
 rw [if_pos ⟨c1',c2'⟩] at hgo
 have hby:qc9 r.s (p:Int)=(bt r.s p:Int):=ql7 _ _
 have hwb:IntKind.i64.wrap (qc9 r.s (p:Int))=(bt r.s p:Int):=by rw[hby,qa4 _ (by omega)]
 conv=>whnf
 refine⟨by omega,?_⟩
 conv=>whnf
 rw[hwb]
 refine⟨fun c3=>?_,fun c3=>?_⟩
 ·have c3':bt r.s p=0:=by
   have:(bt r.s p:Int)=0:=by simpa using c3
   omega
  rw [if_pos c3'] at hgo
  have hz:qe3 (nm.length+1) (catF nm.length (qe7 nm) (qh1 [.int .u8 0] 1))=nm++[0]:=bytesOf_cat nm [0] _ (fun i hi=>ja5 nm i hi)
  have hw1:IntKind.i64.wrap ((p:Int)+1)=((p+1:Nat):Int):=by rw[qa4 _ (by omega)];omega
  conv=>whnf
  refine⟨by omega,?_⟩
  rcases bh with _|k
  ·conv=>whnf
   refine brT rfl ?_
   conv=>whnf
   rw[hw1]
   refine⟨fun i hi=>⟨_,ja5 nm i hi⟩,?_⟩
   rw[hz]
   refine .one (.data _ (qf2 (nm++[0])) rfl rfl ?_)
   by_cases hn:qb2 (nm++[0])
   ·have hfin:r.name=({ r with p:=p+1 },nm++[0]):=Rdr.name_ok h1 hgo.symm hn
    rw[if_pos hn,hfin]
    conv=>whnf
    refine brF rfl ?_
    conv=>whnf
    refine⟨fun i hi=>⟨_,ja5 nm i hi⟩,?_⟩
    rw[hz]
    conv=>whnf
    refine⟨[0],.d (.str (nm++[0])),[Rdr.kb { r with p:=p+1 }],rfl,rfl,rfl,?_,_,rfl,rfl,rfl⟩
    repeat'(first|exact ⟨⟩|exact rfl|exact fun _=>Iff.rfl|exact fun _ _=>rfl|exact renM_ent rfl _|apply And.intro)
   ·have hfin:r.name=({ r with bad:=true },[]):=Rdr.name_bad h1 (show(qv5 r.s r.p).1=nm++[0] by rw[←hgo]) hn
    rw[if_neg hn,hfin]
    conv=>whnf
    repeat(first|(refine brT rfl ?_;conv=>whnf)|(refine brF rfl ?_;conv=>whnf)|(refine .once ?_;conv=>whnf)|(refine⟨by decide,?_⟩;conv=>whnf)|(refine And.intro (Nat.le_of_ble_eq_true rfl) ?_;conv=>whnf))
    refine⟨[0],.d (.str []),[Rdr.kb { r with bad:=true }],rfl,rfl,rfl,?_,_,rfl,rfl,rfl⟩
    repeat'(first|exact ⟨⟩|exact rfl|exact fun _=>Iff.rfl|exact fun _ _=>rfl|exact renM_ent rfl _|apply And.intro)
  ·conv=>whnf
   refine brF (decide_eq_false (by show ¬ ((k:Nat):Int)<0;omega)) ?_
   conv=>whnf
   refine⟨fun i hi=>⟨_,ja5 nm i hi⟩,?_⟩
   rw[hz]
   refine .one (.data _ (qf2 (nm++[0])) rfl rfl ?_)
   by_cases hn:qb2 (nm++[0])
   ·have hfin:r.name=({ r with p:=k },nm++[0]):=Rdr.name_ok h1 hgo.symm hn
    rw[if_pos hn,hfin]
    conv=>whnf
    refine brF rfl ?_
    conv=>whnf
    refine⟨fun i hi=>⟨_,ja5 nm i hi⟩,?_⟩
    rw[hz]
    conv=>whnf
    refine⟨[0],.d (.str (nm++[0])),[Rdr.kb { r with p:=k }],rfl,rfl,rfl,?_,_,rfl,rfl,rfl⟩
    repeat'(first|exact ⟨⟩|exact rfl|exact fun _=>Iff.rfl|exact fun _ _=>rfl|exact renM_ent rfl _|apply And.intro)
   ·have hfin:r.name=({ r with bad:=true },[]):=Rdr.name_bad h1 (show(qv5 r.s r.p).1=nm++[0] by rw[←hgo]) hn
    rw[if_neg hn,hfin]
    conv=>whnf
    repeat(first|(refine brT rfl ?_;conv=>whnf)|(refine brF rfl ?_;conv=>whnf)|(refine .once ?_;conv=>whnf)|(refine⟨by decide,?_⟩;conv=>whnf)|(refine And.intro (Nat.le_of_ble_eq_true rfl) ?_;conv=>whnf))
    refine⟨[0],.d (.str []),[Rdr.kb { r with bad:=true }],rfl,rfl,rfl,?_,_,rfl,rfl,rfl⟩
    repeat'(first|exact ⟨⟩|exact rfl|exact fun _=>Iff.rfl|exact fun _ _=>rfl|exact renM_ent rfl _|apply And.intro)
 have c3':¬ bt r.s p=0:=by
  have:¬ (bt r.s p:Int)=0:=by simpa using c3
  omega
 rw [if_neg c3'] at hgo
 have hwl:IntKind.i64.wrap ((r.s.length:Int) - p)=(r.s.length:Int) - p:=qa4 _ (by omega)
 conv=>whnf
 refine⟨fun c4=>?_,fun c4=>?_⟩
 ·have c4':bt r.s p≤63:=by
   have:(bt r.s p:Int)≤63:=of_decide_eq_true c4
   omega
  conv=>whnf
  rw[hwl]
  refine⟨fun c5=>?_,fun c5=>?_⟩
  ·have c5':bt r.s p<r.s.length - p:=by
    have:(bt r.s p:Int)<(r.s.length:Int) - p:=of_decide_eq_true c5
    omega
   rw [if_pos ⟨c4',c5'⟩] at hgo
   have hw2:IntKind.i64.wrap (IntKind.i64.wrap ((p:Int)+1)+(bt r.s p:Int))=((p+1+bt r.s p:Nat):Int):=by rw[qa4 ((p:Int)+1) (by omega),qa4 _ (by omega)];omega
   have hw3:IntKind.i64.wrap ((p:Int)+IntKind.i64.wrap (1+(bt r.s p:Int)))=((p+1+bt r.s p:Nat):Int):=by rw[qa4 (1+(bt r.s p:Int)) (by omega),qa4 _ (by omega)];omega
   have hsub:sub r.s (p:Int) ((p+1+bt r.s p:Nat):Int)=(r.s.drop p).take (1+bt r.s p):=by
    unfold sub
    rw[Int.toNat_natCast,Int.toNat_natCast,show p+1+bt r.s p - p=1+bt r.s p by omega]
   have hl1:((r.s.drop p).take (1+bt r.s p)).length=1+bt r.s p:=by simp;omega
   have hlab:(r.s.drop p).take (1+bt r.s p)=lab ((r.s.drop (p+1)).take (bt r.s p)):=by
    have h2:((r.s.drop (p+1)).take (bt r.s p)).length=bt r.s p:=by simp;omega
    unfold lab
    rw[h2]
    have h3:r.s.drop p=r.s[p] :: r.s.drop (p+1):=List.drop_eq_getElem_cons c1'
    rw[h3,show 1+bt r.s p=bt r.s p+1 by omega,List.take_succ_cons]
    congr 1
    have:bt r.s p=r.s[p].toNat:=by simp[bt,c1']
    rw[this]
    simp
   conv=>whnf
   rw[hw2]
   refine⟨by omega,?_⟩
   conv=>whnf
   rw[hsub,hl1]
   refine⟨by omega,?_⟩
   conv=>whnf
   rw[hw3]
   refine⟨⟨b,p+1+bt r.s p,bh,nm++(r.s.drop p).take (1+bt r.s p),f'⟩,[0,2],⟨by show p+1+bt r.s p≤r.s.length;omega,hb1,hbh,⟨ls++[(r.s.drop (p+1)).take (bt r.s p)],fun l hl=>?_,by show nm++_=_;rw[qr7,hlab,hnm]⟩,by show(nm++_).length≤318;rw[List.length_append,hl1];omega,?_,hgo⟩,by show f'<f'+1;omega,?_⟩
   ·rcases List.mem_append.1 hl with hl|hl
    ·exact hls l hl
    ·rw[List.mem_singleton.1 hl]
     have h2:((r.s.drop (p+1)).take (bt r.s p)).length=bt r.s p:=by simp;omega
     unfold okL
     omega
   ·show jb4 r.s b (nm++(r.s.drop p).take (1+bt r.s p))<f'
    unfold jb4 at hf ⊢
    rw[List.length_append,hl1]
    have:(400 - (nm.length+(1+bt r.s p)))+1≤400 - nm.length:=by omega
    have:=Nat.mul_le_mul_right (r.s.length+1) this
    rw [Nat.add_mul,Nat.one_mul] at this
    omega
   ·conv=>whnf
    repeat'(first|exact ⟨⟩|exact rfl|exact fun _ _=>rfl|exact(show nm.length+(1+bt r.s p)=(nm++(r.s.drop p).take (1+bt r.s p)).length by rw[List.length_append,hl1])|exact(fun i hi=>qc1 _ _ i (by rw[hl1];exact hi))|apply And.intro)
  ·have c5':¬ bt r.s p<r.s.length - p:=by
    have:¬ (bt r.s p:Int)<(r.s.length:Int) - p:=of_decide_eq_false c5
    omega
   rw [if_neg (by omega),if_neg (by omega)] at hgo
   conv=>whnf
   refine brF (decide_eq_false (by omega)) ?_
   conv=>whnf
   ·have hfin:r.name=({ r with bad:=true },[]):=Rdr.name_bad h1 (show(qv5 r.s r.p).1=nm by rw[←hgo]) hnn
    rw[hfin]
    conv=>whnf
    refine⟨fun i hi=>⟨_,rfl⟩,?_⟩
    conv=>whnf
    rw[qc3]
    refine .one (.data _ (qf2 nm) rfl rfl ?_)
    rw[if_neg hnn]
    conv=>whnf
    repeat(first|(refine brT rfl ?_;conv=>whnf)|(refine brF rfl ?_;conv=>whnf)|(refine .once ?_;conv=>whnf)|(refine⟨by decide,?_⟩;conv=>whnf)|(refine And.intro (Nat.le_of_ble_eq_true rfl) ?_;conv=>whnf))
    refine⟨[0],.d (.str []),[Rdr.kb { r with bad:=true }],rfl,rfl,rfl,?_,_,rfl,rfl,rfl⟩
    repeat'(first|exact ⟨⟩|exact rfl|exact fun _=>Iff.rfl|exact fun _ _=>rfl|exact renM_ent rfl _|apply And.intro)
 ·have c4':¬ bt r.s p≤63:=by
   have:¬ (bt r.s p:Int)≤63:=of_decide_eq_false c4
   omega
  rw [if_neg (by omega)] at hgo
  conv=>whnf
  refine⟨fun c6=>?_,fun c6=>?_⟩
  rotate_left
  ·have c6':¬ 192≤bt r.s p:=by
    have:¬ (bt r.s p:Int) ≥ 192:=of_decide_eq_false c6
    omega
   rw [if_neg (by omega)] at hgo
   conv=>whnf
   ·have hfin:r.name=({ r with bad:=true },[]):=Rdr.name_bad h1 (show(qv5 r.s r.p).1=nm by rw[←hgo]) hnn
    rw[hfin]
    conv=>whnf
    refine⟨fun i hi=>⟨_,rfl⟩,?_⟩
    conv=>whnf
    rw[qc3]
    refine .one (.data _ (qf2 nm) rfl rfl ?_)
    rw[if_neg hnn]
    conv=>whnf
    repeat(first|(refine brT rfl ?_;conv=>whnf)|(refine brF rfl ?_;conv=>whnf)|(refine .once ?_;conv=>whnf)|(refine⟨by decide,?_⟩;conv=>whnf)|(refine And.intro (Nat.le_of_ble_eq_true rfl) ?_;conv=>whnf))
    refine⟨[0],.d (.str []),[Rdr.kb { r with bad:=true }],rfl,rfl,rfl,?_,_,rfl,rfl,rfl⟩
    repeat'(first|exact ⟨⟩|exact rfl|exact fun _=>Iff.rfl|exact fun _ _=>rfl|exact renM_ent rfl _|apply And.intro)
  have c6':192≤bt r.s p:=by
   have:(bt r.s p:Int) ≥ 192:=of_decide_eq_true c6
   omega
  have hw1:IntKind.i64.wrap ((p:Int)+1)=((p+1:Nat):Int):=by rw[qa4 _ (by omega)];omega
  have hw2:IntKind.i64.wrap ((p:Int)+2)=((p+2:Nat):Int):=by rw[qa4 _ (by omega)];omega
  conv=>whnf
  rw[hw1]
  refine⟨fun c7=>?_,fun c7=>?_⟩
  rotate_left
  ·have c7':¬ p+1<r.s.length:=by
    have:¬ ((p+1:Nat):Int)<(r.s.length:Int):=of_decide_eq_false c7
    omega
   rw [if_neg (by omega)] at hgo
   conv=>whnf
   ·have hfin:r.name=({ r with bad:=true },[]):=Rdr.name_bad h1 (show(qv5 r.s r.p).1=nm by rw[←hgo]) hnn
    rw[hfin]
    conv=>whnf
    refine⟨fun i hi=>⟨_,rfl⟩,?_⟩
    conv=>whnf
    rw[qc3]
    refine .one (.data _ (qf2 nm) rfl rfl ?_)
    rw[if_neg hnn]
    conv=>whnf
    repeat(first|(refine brT rfl ?_;conv=>whnf)|(refine brF rfl ?_;conv=>whnf)|(refine .once ?_;conv=>whnf)|(refine⟨by decide,?_⟩;conv=>whnf)|(refine And.intro (Nat.le_of_ble_eq_true rfl) ?_;conv=>whnf))
    refine⟨[0],.d (.str []),[Rdr.kb { r with bad:=true }],rfl,rfl,rfl,?_,_,rfl,rfl,rfl⟩
    repeat'(first|exact ⟨⟩|exact rfl|exact fun _=>Iff.rfl|exact fun _ _=>rfl|exact renM_ent rfl _|apply And.intro)
  have c7':p+1<r.s.length:=by
   have:((p+1:Nat):Int)<(r.s.length:Int):=of_decide_eq_true c7
   omega
  rw [if_pos ⟨c6',c7'⟩] at hgo
  have hb2:=ji4 r.s (p+1)
  have hor:IntKind.i64.wrap (bits .or .i64 (IntKind.i64.wrap ((bt r.s p:Int) * 2 ^ 8)) (IntKind.i64.wrap (qc9 r.s ((p+1:Nat):Int))) - 49152)=(((bt r.s p - 192) * 256+bt r.s (p+1):Nat):Int):=by
   have e1:IntKind.i64.wrap ((bt r.s p:Int) * 2 ^ 8)=((bt r.s p * 256:Nat):Int):=by rw[qa4 _ (by omega)];omega
   have e2:IntKind.i64.wrap (qc9 r.s ((p+1:Nat):Int))=(bt r.s (p+1):Int):=by rw[ql7,qa4 _ (by omega)]
   have e3:bt r.s p * 256 ||| bt r.s (p+1)=bt r.s p * 256+bt r.s (p+1):=by
    have:=Nat.two_pow_add_eq_or_of_lt (i:=8) (show bt r.s (p+1)<2 ^ 8 by omega) (bt r.s p)
    rw[show bt r.s p * 256=2 ^ 8 * bt r.s p by omega,←this]
   rw[e1,e2,or_i64 _ _ (by omega) (by omega) (by rw[e3];omega),e3,qa4 _ (by omega)]
   omega
  obtain⟨to,hto⟩:∃ to,to=(bt r.s p - 192) * 256+bt r.s (p+1):=⟨_,rfl⟩
  rw [←hto] at hor hgo
  conv=>whnf
  refine⟨by decide,?_⟩
  conv=>whnf
  rw[hw1]
  refine⟨by omega,?_⟩
  conv=>whnf
  rw[show IntKind.i64.wrap (bits .or .i64 (IntKind.i64.wrap ((bt r.s p:Int) * 2 ^ (min (Int.toNat 8) IntKind.i64.bits))) (IntKind.i64.wrap (qc9 r.s ((p+1:Nat):Int))) - 49152)=(to:Int) from hor]
  rcases bh with _|k
  ·conv=>whnf
   refine brT rfl ?_
   conv=>whnf
   rw[hw2]
   refine⟨fun c8=>?_,fun c8=>?_⟩
   ·have c8':to ≥ b:=by
     have:(to:Int) ≥ (b:Int):=of_decide_eq_true c8
     omega
    rw [if_pos c8'] at hgo
    conv=>whnf
    have hfin:r.name=({ r with bad:=true },[]):=Rdr.name_bad h1 (show(qv5 r.s r.p).1=nm by rw[←hgo]) hnn
    rw[hfin]
    conv=>whnf
    refine⟨fun i hi=>⟨_,rfl⟩,?_⟩
    conv=>whnf
    rw[qc3]
    refine .one (.data _ (qf2 nm) rfl rfl ?_)
    rw[if_neg hnn]
    conv=>whnf
    repeat(first|(refine brT rfl ?_;conv=>whnf)|(refine brF rfl ?_;conv=>whnf)|(refine .once ?_;conv=>whnf)|(refine⟨by decide,?_⟩;conv=>whnf)|(refine And.intro (Nat.le_of_ble_eq_true rfl) ?_;conv=>whnf))
    refine⟨[0],.d (.str []),[Rdr.kb { r with bad:=true }],rfl,rfl,rfl,?_,_,rfl,rfl,rfl⟩
    repeat'(first|exact ⟨⟩|exact rfl|exact fun _=>Iff.rfl|exact fun _ _=>rfl|exact renM_ent rfl _|apply And.intro)
   ·have c8':¬ to ≥ b:=by
     have:¬ (to:Int) ≥ (b:Int):=of_decide_eq_false c8
     omega
    rw [if_neg c8'] at hgo
    conv=>whnf
    refine⟨⟨to,to,some (p+2),nm,f'⟩,[0,1],⟨by show to≤r.s.length;omega,by show to≤r.s.length;omega,fun k hk=>by cases hk;omega,⟨ls,hls,hnm⟩,hnl,?_,hgo⟩,by show f'<f'+1;omega,?_⟩
    ·show jb4 r.s to nm<f'
     unfold jb4 at hf ⊢
     omega
    ·conv=>whnf
     repeat'(first|exact ⟨⟩|exact rfl|exact fun _=>Iff.rfl|exact fun _ _=>rfl|exact renM_ent rfl _|apply And.intro)
  ·conv=>whnf
   refine brF (decide_eq_false (by show ¬ ((k:Nat):Int)<0;omega)) ?_
   conv=>whnf
   refine⟨fun c8=>?_,fun c8=>?_⟩
   ·have c8':to ≥ b:=by
     have:(to:Int) ≥ (b:Int):=of_decide_eq_true c8
     omega
    rw [if_pos c8'] at hgo
    conv=>whnf
    have hfin:r.name=({ r with bad:=true },[]):=Rdr.name_bad h1 (show(qv5 r.s r.p).1=nm by rw[←hgo]) hnn
    rw[hfin]
    conv=>whnf
    refine⟨fun i hi=>⟨_,rfl⟩,?_⟩
    conv=>whnf
    rw[qc3]
    refine .one (.data _ (qf2 nm) rfl rfl ?_)
    rw[if_neg hnn]
    conv=>whnf
    repeat(first|(refine brT rfl ?_;conv=>whnf)|(refine brF rfl ?_;conv=>whnf)|(refine .once ?_;conv=>whnf)|(refine⟨by decide,?_⟩;conv=>whnf)|(refine And.intro (Nat.le_of_ble_eq_true rfl) ?_;conv=>whnf))
    refine⟨[0],.d (.str []),[Rdr.kb { r with bad:=true }],rfl,rfl,rfl,?_,_,rfl,rfl,rfl⟩
    repeat'(first|exact ⟨⟩|exact rfl|exact fun _=>Iff.rfl|exact fun _ _=>rfl|exact renM_ent rfl _|apply And.intro)
   ·have c8':¬ to ≥ b:=by
     have:¬ (to:Int) ≥ (b:Int):=of_decide_eq_false c8
     omega
    rw [if_neg c8'] at hgo
    have hk2:=hbh k rfl
    conv=>whnf
    refine⟨⟨to,to,some k,nm,f'⟩,[0,1],⟨by show to≤r.s.length;omega,by show to≤r.s.length;omega,fun k hk=>by cases hk;omega,⟨ls,hls,hnm⟩,hnl,?_,hgo⟩,by show f'<f'+1;omega,?_⟩
    ·show jb4 r.s to nm<f'
     unfold jb4 at hf ⊢
     omega
    ·conv=>whnf
     repeat'(first|exact ⟨⟩|exact rfl|exact fun _=>Iff.rfl|exact fun _ _=>rfl|exact renM_ent rfl _|apply And.intro)
end Go.Proofs.YtdfdlbnojmlpiaaGreatDoor
namespace Go.Proofs.YtdfdlbnojmlpiaaGreatDoor
open Go Go.Eng
def Rdr.part(r:Rdr)(n:Int):Rdr × Rdr:=((r.raw n).1,if (r.raw n).1.bad then ⟨[],0,true⟩ else ⟨r.s.take (r.raw n).1.p,if r.bad then 0 else r.p,false⟩)
set_option maxRecDepth 100000
set_option maxHeartbeats 4000000 in
theorem part_ok(r:Rdr)(hr:r.Ok)(n:Int)(hn : -9223372036854775808≤n∧n≤9223372036854775807):COk Tryz.prog 151 [.ptr 0 0,.d (.int .i64 n)] [r.kb] (fun s k=>s = .ptr 1 0∧k=[(r.part n).1.kb,(r.part n).2.kb]):=by
 refine qc4 (TT:=TT) (IN:=qc2 [(187,Tryz.f187,1),(83,Tryz.f83,1)]) qc5 (qb8 (qb8 qa1 Tryz.func83 (by kernel_rfl) (by kernel_rfl)) Tryz.func187 (by kernel_rfl) (by kernel_rfl)) mixed 1000 Tryz.func151 rfl (qa8 Tryz.func151 (by kernel_rfl) rfl) 25 (by kernel_rfl) ?_
 have hro:=hr.raw n
 conv=>whnf
 refine⟨fun h1=>?_,fun h1=>?_⟩
 ·have e:r.raw n=(r,[]):=by unfold Rdr.raw;rw[if_pos h1]
  have e2:r.part n=(r,⟨[],0,true⟩):=by unfold Rdr.part;rw[e,if_pos h1]
  rw[e2]
  conv=>whnf
  refine .rel _ (qi2 (jb8 r hr n hn) [] [] _ rfl rfl) (fun x ks' hR=>?_)
  obtain⟨_,r1,⟨rfl,rfl⟩,rfl,rfl⟩:=hR
  rw[e]
  conv=>whnf
  refine brT h1 ?_
  conv=>whnf
  refine⟨[0,1],.ptr 1 0,_,rfl,rfl,rfl,?_,rfl,rfl⟩
  repeat'(first|exact ⟨⟩|exact rfl|exact fun _=>Iff.rfl|exact fun _ _=>rfl|exact renM_ent rfl _|apply And.intro)
 ·conv=>whnf
  refine .rel _ (qi2 (jb8 r hr n hn) [] [] _ rfl rfl) (fun x ks' hR=>?_)
  obtain⟨_,r1,⟨rfl,rfl⟩,rfl,rfl⟩:=hR
  conv=>whnf
  refine⟨fun h2=>?_,fun h2=>?_⟩
  ·have e2:r.part n=((r.raw n).1,⟨[],0,true⟩):=by unfold Rdr.part;rw[if_pos h2]
   rw[e2]
   conv=>whnf
   refine⟨[0,1],.ptr 1 0,_,rfl,rfl,rfl,?_,rfl,rfl⟩
   repeat'(first|exact ⟨⟩|exact rfl|exact fun _=>Iff.rfl|exact fun _ _=>rfl|exact renM_ent rfl _|apply And.intro)
  ·have e2:r.part n=((r.raw n).1,⟨r.s.take (r.raw n).1.p,r.p,false⟩):=by unfold Rdr.part;rw[if_neg (by simp[h2]),if_neg (by simp[h1])]
   have hs:(r.raw n).1.s=r.s:=by unfold Rdr.raw;split <;> (try rfl);split <;> rfl
   have hp:=hro.p
   have hsub:sub (r.raw n).1.s 0 ((r.raw n).1.p:Int)=r.s.take (r.raw n).1.p:=by
    unfold sub
    rw[hs]
    simp
   rw[e2]
   conv=>whnf
   refine⟨by omega,?_⟩
   conv=>whnf
   rw[hsub]
   conv=>whnf
   refine⟨[0,1],.ptr 1 0,_,rfl,rfl,rfl,?_,rfl,rfl⟩
   repeat'(first|exact ⟨⟩|exact rfl|exact fun _=>Iff.rfl|exact fun _ _=>rfl|exact renM_ent rfl _|apply And.intro)
def Wr.copies(width:Nat):Nat→Wr→Rdr→Wr × Rdr
 |0,w,r=>(w,r)
 |m+1,w,r=>Wr.copies width m (w.num width (r.num width).2) (r.num width).1
theorem Rdr.Ok.num{r:Rdr}(h:r.Ok)(width:Nat):(r.num width).1.Ok:=h.raw width
theorem Wr.Ok.num{w:Wr}(h:w.Ok)(width:Nat)(n:Int):(w.num width n).Ok:=h.piece _
structure CpSt where
 w:Wr
 r:Rdr
 i:Nat
set_option maxHeartbeats 4000000 in
theorem copies_ok(w:Wr)(hw:w.Ok)(width:Nat)(hd:wideN width)(many:Nat)(hm:many≤1000)(s:List UInt8)(hs:s.length<4611686018427387904) :
 COk Tryz.prog 147 [.ptr 0 0,.d (.int .i64 width),.d (.int .i64 many),.d (.str s)] [pk w.fl] (fun r k=>∃ w1,k=[pk (Wr.fl w1)]∧(r = .tup []∧w1=(w.copies width many ⟨s,0,false⟩).1)):=by
 refine qc4 (TT:=TT) (IN:=qc2 [(33,Tryz.f33,1)]) qc5 (qb8 qa1 Tryz.func33 (by kernel_rfl) (by kernel_rfl)) mixed 1000 Tryz.func147 rfl (qa8 Tryz.func147 (by kernel_rfl) rfl) 17 (by kernel_rfl) ?_
 conv=>whnf
 refine .inv CpSt (fun s'=>s'.w.Ok∧s'.r.Ok∧s'.i≤many∧(s'.w.copies width (many - s'.i) s'.r).1=(w.copies width many ⟨s,0,false⟩).1) (fun s'=>[(12,.d (.int .i64 s'.i))]) (fun s'=>[(0,pk s'.w.fl),(1,s'.r.kb)]) (fun s'=>many - s'.i) ⟨⟨w,⟨s,0,false⟩,0⟩,[0,1],⟨hw,⟨hs,Nat.zero_le _⟩,Nat.zero_le _,rfl⟩,?_⟩ ?_
 ·conv=>whnf
  repeat'(first|exact ⟨⟩|exact rfl|exact(fun _ _ _ _ h=>⟨qa5 _,h⟩)|apply And.intro)
 intro s' hs'
 obtain⟨hw1,hr1,hi,hgo⟩:=hs'
 conv=>whnf
 generalize s'.w=w1 at hw1 hgo ⊢
 generalize s'.r=r1 at hr1 hgo ⊢
 generalize s'.i=i at hi hgo ⊢
 refine⟨fun c1=>?_,fun c1=>?_⟩
 ·have c1':i<many:=by
   have:(i:Int)<many:=of_decide_eq_true c1
   omega
  obtain⟨m,hm1⟩:∃ m,many - i=m+1:=⟨many - i - 1,by omega⟩
  have hi1:IntKind.i64.wrap ((i:Int)+1)=((i+1:Nat):Int):=by rw[qa4 _ (by omega)];omega
  conv=>whnf
  refine .rel _ (qi2 (jm3 r1 hr1 width hd) [_] [] _ rfl rfl) (fun x ks' hR=>?_)
  obtain⟨_,r2,⟨rfl,rfl⟩,rfl,rfl⟩:=hR
  conv=>whnf
  refine .rel _ (COk.thing Wr.fl (ju2 w1 hw1 width hd (r1.num width).2) [] [_] _ rfl rfl) (fun x ks' hR=>?_)
  obtain⟨_,w2,⟨rfl,rfl⟩,rfl,rfl⟩:=hR
  conv=>whnf
  refine⟨⟨w1.num width (r1.num width).2,(r1.num width).1,i+1⟩,[0,1],⟨hw1.num _ _,hr1.num _,by show i+1≤many;omega,?_⟩,by show many - (i+1)<many - i;omega,?_⟩
  ·rw[←hgo,hm1,show many - (i+1)=m by omega]
   rfl
  ·conv=>whnf
   rw[hi1]
   repeat'(first|exact ⟨⟩|exact rfl|exact(fun _ _ _ _ h=>⟨qa5 _,h⟩)|apply And.intro)
 ·have c1':¬ i<many:=by
   have:¬ (i:Int)<many:=of_decide_eq_false c1
   omega
  rw [show many - i=0 by omega] at hgo
  conv=>whnf
  refine⟨[0],.tup [],[pk w1.fl],rfl,rfl,rfl,⟨fun _ _ _ _ h=>⟨qa5 _,h⟩,True.intro⟩,_,rfl,rfl,hgo⟩
end Go.Proofs.YtdfdlbnojmlpiaaGreatDoor
namespace Go.Proofs.YtdfdlbnojmlpiaaGreatDoor
open Go Go.Eng
theorem Wr.Ok.nameGo{p:Bool}:∀ (m:Nat) {w:Wr} (_:w.Ok) (n:List UInt8),(Wr.nameGo p m w n).Ok
 |0,w,h,n=>h.piece n
 |m+1,w,h,n=>by
  unfold Wr.nameGo
  have hp:=h.piece (n.take (1+bt n 0))
  split
  ·split
   ·split
    ·exact h.piece _
    ·split
     ·exact Wr.Ok.nameGo m hp _
     ·exact hp
   ·split
    ·refine Wr.Ok.nameGo m ?_ _
     split
     ·rename_i hl
      refine⟨hp.lo,hp.hi,hp.len,fun e he=>?_⟩
      rcases List.mem_append.1 he with he|he
      ·exact h.pl e he
      ·rw[List.mem_singleton.1 he]
       show 0≤(w.buf.length:Int)∧(w.buf.length:Int)<16384
       omega
     ·exact hp
    ·exact hp
  ·exact h.piece n
theorem Wr.Ok.name{w:Wr}(h:w.Ok)(n:List UInt8)(p:Bool):(w.name n p).Ok:=by
 unfold Wr.name
 split
 ·exact h
 ·exact Wr.Ok.nameGo _ h n
theorem Wr.Ok.copies{width:Nat}:∀ (m:Nat) {w:Wr} (_:w.Ok) (r:Rdr),(w.copies width m r).1.Ok
 |0,_,h,_=>h
 |m+1,_,h,r=>Wr.Ok.copies m (h.num width _) _
def Wr.names(w:Wr)(p:Bool)(l:List (List UInt8)):Wr:=l.foldl (fun w n=>w.name n p) w
theorem Wr.Ok.names{w:Wr}(h:w.Ok)(p:Bool)(l:List (List UInt8)):(w.names p l).Ok:=by
 induction l generalizing w with
 |nil=>exact h
 |cons a l ih=>exact ih (h.name a p)
def Wr.rdata(w:Wr)(t:Int)(s:List UInt8):Wr × Bool:=if qc8 t s then
 (match qn0 t s with
 |none=>w.piece s
 |some (p,x,l,r)=>(((w.copies 2 p.1 ⟨x,0,false⟩).1.names (t != 33) l).copies 4 p.2.2 ⟨r,0,false⟩).1,true)
 else (w,false)
set_option maxRecDepth 100000
set_option maxHeartbeats 4000000 in
theorem wraw_ok(w:Wr)(hw:w.Ok)(s:List UInt8)(hs:s.length<4611686018427387904):COk Tryz.prog 146 [.ptr 0 0,.d (.str s)] [pk w.fl] (fun r k=>∃ w1,k=[pk (Wr.fl w1)]∧(r = .tup []∧w1=w.piece s)):=by
 refine qc4 (TT:=TT) (IN:=qc2 []) qc5 qa1 mixed 1000 Tryz.func146 rfl (qa8 Tryz.func146 (by kernel_rfl) rfl) 5 (by kernel_rfl) ?_
 conv=>whnf
 refine .rel _ (COk.thing Wr.fl (qx7 w hw s hs) [] [] _ rfl rfl) (fun x ks' hR=>?_)
 obtain⟨_,w2,⟨rfl,rfl⟩,rfl,rfl⟩:=hR
 conv=>whnf
 refine⟨[0],.tup [],[pk (w.piece s).fl],rfl,rfl,rfl,⟨fun _ _ _ _ h=>⟨qa5 _,h⟩,True.intro⟩,_,rfl,rfl,rfl⟩
set_option maxHeartbeats 4000000 in
theorem wname_ok(w:Wr)(hw:w.Ok)(n:List UInt8):COk Tryz.prog 77 [.ptr 0 0,.d (.str n)] [pk w.fl] (fun r k=>∃ w1,k=[pk (Wr.fl w1)]∧(r = .tup []∧w1=w.name n true)):=by
 refine qc4 (TT:=TT) (IN:=qc2 []) qc5 qa1 mixed 1000 Tryz.func77 rfl (qa8 Tryz.func77 (by kernel_rfl) rfl) 5 (by kernel_rfl) ?_
 conv=>whnf
 refine .rel _ (COk.thing Wr.fl ((name_ok w hw n true).convA (args':=[.ptr 0 0,.d (.str n),.d .tt]) ⟨.refl _,.refl _,.d .tb,True.intro⟩) [] [] _ rfl rfl) (fun x ks' hR=>?_)
 obtain⟨_,w2,⟨rfl,rfl⟩,rfl,rfl⟩:=hR
 conv=>whnf
 refine⟨[0],.tup [],[pk (w.name n true).fl],rfl,rfl,rfl,⟨fun _ _ _ _ h=>⟨qa5 _,h⟩,True.intro⟩,_,rfl,rfl,rfl⟩
set_option maxHeartbeats 4000000 in
theorem wfull_ok(w:Wr)(hw:w.Ok)(n:List UInt8):COk Tryz.prog 148 [.ptr 0 0,.d (.str n)] [pk w.fl] (fun r k=>∃ w1,k=[pk (Wr.fl w1)]∧(r = .tup []∧w1=w.name n false)):=by
 refine qc4 (TT:=TT) (IN:=qc2 []) qc5 qa1 mixed 1000 Tryz.func148 rfl (qa8 Tryz.func148 (by kernel_rfl) rfl) 5 (by kernel_rfl) ?_
 conv=>whnf
 refine .rel _ (COk.thing Wr.fl ((name_ok w hw n false).convA (args':=[.ptr 0 0,.d (.str n),.d .ff]) ⟨.refl _,.refl _,.d .fb,True.intro⟩) [] [] _ rfl rfl) (fun x ks' hR=>?_)
 obtain⟨_,w2,⟨rfl,rfl⟩,rfl,rfl⟩:=hR
 conv=>whnf
 refine⟨[0],.tup [],[pk (w.name n false).fl],rfl,rfl,rfl,⟨fun _ _ _ _ h=>⟨qa5 _,h⟩,True.intro⟩,_,rfl,rfl,rfl⟩
theorem lookF_le{t:Int}{s:List UInt8}{p:Nat × Nat × Nat}{x r:List UInt8}{l:List (List UInt8)}(h:qn0 t s=some (p,x,l,r)) :
 s.length≤4096∧qd7 t=some p∧x=s.take (2 * p.1)∧2 * p.1≤s.length∧qm6 p.2.1 (s.drop (2 * p.1))=some (l,r)∧r.length=4 * p.2.2:=by
 unfold qn0 at h
 split at h
 ·rename_i hs
  obtain⟨q,hq,h2⟩:=Option.bind_eq_some_iff.1 h
  obtain⟨z,hz,h3⟩:=Option.map_eq_some_iff.1 h2
  obtain⟨rfl,rfl⟩:=Prod.mk.inj h3
  unfold cutF at hz
  split at hz
  ·cases hz
  ·rename_i hl
   obtain⟨y,hy,h4⟩:=Option.bind_eq_some_iff.1 hz
   split at h4
   ·rename_i h5
    cases h4
    exact⟨hs,hq,rfl,by omega,hy,h5⟩
   ·cases h4
 ·cases h
structure WnSt where
 w:Wr
 i:Nat
set_option maxHeartbeats 8000000 in
theorem wrdata_ok(w:Wr)(hw:w.Ok)(t:Int)(s:List UInt8):COk Tryz.prog 79 [.ptr 0 0,.d (.int .u16 t),.d (.str s)] [pk w.fl] (fun r k=>∃ w1,k=[pk (Wr.fl w1)]∧(r = .d (.int .i64 (ya9 (w.rdata t s).2))∧w1=(w.rdata t s).1)):=by
 refine qc4 (TT:=TT) (IN:=qc2 []) qc5 qa1 mixed 1000 Tryz.func79 rfl (qa8 Tryz.func79 (by kernel_rfl) rfl) 53 (by kernel_rfl) ?_
 conv=>whnf
 refine .one (.data _ (jb7 t s) rfl rfl ?_)
 cases hc:qc8 t s
 ·have e:w.rdata t s=(w,false):=by unfold Wr.rdata;rw[if_neg (by simp[hc])]
  rw[e]
  conv=>whnf
  refine brT rfl ?_
  conv=>whnf
  refine⟨[0],.d (.int .i64 2),[pk w.fl],rfl,rfl,rfl,⟨fun _ _ _ _ h=>⟨qa5 _,h⟩,True.intro⟩,_,rfl,rfl,rfl⟩
 have hlen:s.length≤4096:=by
  simp only [qc8,Bool.and_eq_true,decide_eq_true_eq] at hc
  exact hc.1
 conv=>whnf
 refine brF rfl ?_
 conv=>whnf
 refine .one (.data _ (look_ok t s) rfl ?_ ?_)
 ·cases qn0 t s <;> rfl
 rcases hl:qn0 t s with _|⟨p,x,l,r⟩
 ·have e:w.rdata t s=(w.piece s,true):=by unfold Wr.rdata;rw[if_pos hc,hl]
  rw[e]
  conv=>whnf
  repeat(first|(refine brT rfl ?_;conv=>whnf)|(refine brF rfl ?_;conv=>whnf)|(refine .once ?_;conv=>whnf)|(refine⟨by decide,?_⟩;conv=>whnf)|(refine And.intro (Nat.le_of_ble_eq_true rfl) ?_;conv=>whnf))
  refine .rel _ (COk.thing Wr.fl (wraw_ok w hw s (by omega)) [] [_,_] _ rfl rfl) (fun x ks' hR=>?_)
  obtain⟨_,w2,⟨rfl,rfl⟩,rfl,rfl⟩:=hR
  conv=>whnf
  refine⟨[0],.d (.int .i64 0),[pk (w.piece s).fl],rfl,rfl,rfl,⟨fun _ _ _ _ h=>⟨qa5 _,h⟩,True.intro⟩,_,rfl,rfl,rfl⟩
 ·have e:w.rdata t s=((((w.copies 2 p.1 ⟨x,0,false⟩).1.names (t != 33) l).copies 4 p.2.2 ⟨r,0,false⟩).1,true):=by unfold Wr.rdata;rw[if_pos hc,hl]
  obtain⟨_,hf,hx,hp1,hnm,hr⟩:=lookF_le hl
  obtain⟨hp2,_,hp3⟩:=qm2 hf
  have hll:=(jf2 _ _ _ _ hnm).1
  have hln:l.length≤100:=by have:=(qm2 hf).2.1;omega
  have hxl:x.length<4611686018427387904:=by rw[hx,List.length_take];omega
  rw[e]
  conv=>whnf
  repeat(first|(refine brT rfl ?_;conv=>whnf)|(refine brF rfl ?_;conv=>whnf)|(refine .once ?_;conv=>whnf)|(refine⟨by decide,?_⟩;conv=>whnf)|(refine And.intro (Nat.le_of_ble_eq_true rfl) ?_;conv=>whnf))
  refine .rel _ (COk.thing Wr.fl (copies_ok w hw 2 (.inr (.inl rfl)) p.1 (by omega) x hxl) [] [_,_] _ rfl rfl) (fun x ks' hR=>?_)
  obtain⟨_,w2,⟨rfl,rfl⟩,rfl,rfl⟩:=hR
  have hw2:(w.copies 2 p.1 ⟨x,0,false⟩).1.Ok:=hw.copies _ _
  generalize (w.copies 2 p.1 ⟨x,0,false⟩).1=w2 at hw2 ⊢
  conv=>whnf
  refine .inv WnSt (fun s'=>s'.w.Ok∧s'.i≤l.length∧s'.w.names (t != 33) (l.drop s'.i)=w2.names (t != 33) l) (fun s'=>[(37,.d (.int .i64 s'.i))]) (fun s'=>[(0,pk s'.w.fl)]) (fun s'=>l.length - s'.i) ⟨⟨w2,0⟩,[0,1,2],⟨hw2,Nat.zero_le _,rfl⟩,?_⟩ ?_
  ·conv=>whnf
   repeat'(first|exact ⟨⟩|exact rfl|exact(fun _ _ _ _ h=>⟨qa5 _,h⟩)|apply And.intro)
  intro s' hs'
  obtain⟨hw1,hi,hgo⟩:=hs'
  conv=>whnf
  generalize s'.w=w1 at hw1 hgo ⊢
  generalize s'.i=i at hi hgo ⊢
  refine⟨fun c1=>?_,fun c1=>?_⟩
  ·have c1':i<l.length:=by
    have:(i:Int)<l.length:=of_decide_eq_true c1
    omega
   obtain⟨n,hn⟩:∃ n,l[i]?.getD []=n:=⟨_,rfl⟩
   have hdr:l.drop i=n :: l.drop (i+1):=by rw[←hn,List.drop_eq_getElem_cons c1',List.getElem?_eq_getElem c1'];rfl
   have hi1:IntKind.i64.wrap ((i:Int)+1)=((i+1:Nat):Int):=by rw[qa4 _ (by omega)];omega
   rw [hdr] at hgo
   conv=>whnf
   refine⟨by omega,?_⟩
   conv=>whnf
   rw[Int.toNat_natCast,hn]
   refine⟨fun c2=>?_,fun c2=>?_⟩
   ·have ht:(t != 33)=false:=by
     have:t=33:=by simpa using c2
     simp[this]
    rw [ht] at hgo ⊢
    conv=>whnf
    refine .rel _ (COk.thing Wr.fl (wfull_ok w1 hw1 n) [] [_,_] _ rfl rfl) (fun x ks' hR=>?_)
    obtain⟨_,w3,⟨rfl,rfl⟩,rfl,rfl⟩:=hR
    conv=>whnf
    refine⟨⟨w1.name n false,i+1⟩,[0,1,2],⟨hw1.name _ _,by show i+1≤l.length;omega,hgo⟩,by show l.length - (i+1)<l.length - i;omega,?_⟩
    conv=>whnf
    rw[hi1]
    repeat'(first|exact ⟨⟩|exact rfl|exact(fun _ _ _ _ h=>⟨qa5 _,h⟩)|apply And.intro)
   ·have ht:(t != 33)=true:=by
     have:¬ t=33:=by simpa using c2
     simp[this]
    rw [ht] at hgo ⊢
    conv=>whnf
    refine .rel _ (COk.thing Wr.fl (wname_ok w1 hw1 n) [] [_,_] _ rfl rfl) (fun x ks' hR=>?_)
    obtain⟨_,w3,⟨rfl,rfl⟩,rfl,rfl⟩:=hR
    conv=>whnf
    refine⟨⟨w1.name n true,i+1⟩,[0,1,2],⟨hw1.name _ _,by show i+1≤l.length;omega,hgo⟩,by show l.length - (i+1)<l.length - i;omega,?_⟩
    conv=>whnf
    rw[hi1]
    repeat'(first|exact ⟨⟩|exact rfl|exact(fun _ _ _ _ h=>⟨qa5 _,h⟩)|apply And.intro)
  ·have c1':¬ i<l.length:=by
    have:¬ (i:Int)<l.length:=of_decide_eq_false c1
    omega
   rw [List.drop_of_length_le (by omega)] at hgo
   have hgo:w1=w2.names (t != 33) l:=hgo
   rw[←hgo]
   conv=>whnf
   refine .rel _ (COk.thing Wr.fl (copies_ok w1 hw1 4 (.inr (.inr (.inl rfl))) p.2.2 (by omega) r (by omega)) [] [_,_] _ rfl rfl) (fun x ks' hR=>?_)
   obtain⟨_,w3,⟨rfl,rfl⟩,rfl,rfl⟩:=hR
   conv=>whnf
   refine⟨[0],.d (.int .i64 0),[pk (w1.copies 4 p.2.2 ⟨r,0,false⟩).1.fl],rfl,rfl,rfl,⟨fun _ _ _ _ h=>⟨qa5 _,h⟩,True.intro⟩,_,rfl,rfl,rfl⟩
end Go.Proofs.YtdfdlbnojmlpiaaGreatDoor
namespace Go.Proofs.YtdfdlbnojmlpiaaGreatDoor
open Go Go.Eng
set_option maxRecDepth 100000
theorem Wr.Ok.rdata{w:Wr}(h:w.Ok)(t:Int)(s:List UInt8):(w.rdata t s).1.Ok:=by
 unfold Wr.rdata
 split
 ·show(match qn0 t s with
   |none=>w.piece s
   |some (p,x,l,r)=>(((w.copies 2 p.1 ⟨x,0,false⟩).1.names (t != 33) l).copies 4 p.2.2 ⟨r,0,false⟩).1).Ok
  split
  ·exact h.piece s
  ·exact Wr.Ok.copies _ ((h.copies _ _).names _ _) _
 ·exact h
theorem Wr.Ok.set{w:Wr}(h:w.Ok)(a n:Int):(w.set a n).Ok:=by
 unfold Wr.set
 split
 ·exact h
 ·rename_i hc
  refine⟨h.lo,h.hi,?_,h.pl⟩
  show(two w.buf a.toNat _ _).length=0∨((two w.buf a.toNat _ _).length:Int)≤w.limit
  rw[two_len _ _ _ _ (by omega)]
  exact h.len
def Wr.record(w:Wr)(r:RR):Wr × Bool:=if r.check then
 (
  let w1:=(((w.name r.nm true).num 2 r.ty).num 2 r.cl).num 4 r.ttl
  let w2:=w1.num 2 0
  let w3:=w2.rdata r.ty r.d
  (w3.1.set w1.buf.length (IntKind.u16.wrap ((w3.1.buf.length:Int) - w2.buf.length)),w3.2))
 else (w,false)
set_option maxHeartbeats 8000000 in
theorem wrec_ok(w:Wr)(hw:w.Ok)(r:RR)(h1:0≤r.ty∧r.ty≤65535)(h2:0≤r.cl∧r.cl≤65535)(h3:0≤r.ttl∧r.ttl≤4294967295):COk Tryz.prog 30 [.ptr 0 0,r.V] [pk w.fl] (fun s k=>∃ w1,k=[pk (Wr.fl w1)]∧(s = .d (.int .i64 (ya9 (w.record r).2))∧w1=(w.record r).1)):=by
 refine qc4 (TT:=TT) (IN:=qc2 []) qc5 qa1 mixed 1000 Tryz.func30 rfl (qa8 Tryz.func30 (by kernel_rfl) rfl) 49 (by kernel_rfl) ?_
 conv=>whnf
 refine .one (.data _ (qh6 r) rfl rfl ?_)
 cases hc:r.check
 ·have e:w.record r=(w,false):=by unfold Wr.record;rw[if_neg (by simp[hc])]
  rw[e]
  conv=>whnf
  refine brT rfl ?_
  conv=>whnf
  refine⟨[0],.d (.int .i64 2),[pk w.fl],rfl,rfl,rfl,⟨fun _ _ _ _ h=>⟨qa5 _,h⟩,True.intro⟩,_,rfl,rfl,rfl⟩
 conv=>whnf
 refine brF rfl ?_
 conv=>whnf
 have hu:∀ x:Int,0≤x∧x<18446744073709551616→IntKind.u64.wrap x=x:=fun x hx=>by rw[IntKind.wrap_u64];omega
 refine .rel _ (COk.thing Wr.fl (wname_ok w hw r.nm) [] [_] _ rfl rfl) (fun x ks' hR=>?_)
 obtain⟨_,wq,⟨rfl,rfl⟩,rfl,rfl⟩:=hR
 have ha:=hw.name r.nm true
 generalize hwa:w.name r.nm true=wa at ha ⊢
 conv=>whnf
 rw[hu r.ty (by omega)]
 refine .rel _ (COk.thing Wr.fl (ju2 wa ha 2 (.inr (.inl rfl)) r.ty) [] [_] _ rfl rfl) (fun x ks' hR=>?_)
 obtain⟨_,wq,⟨rfl,rfl⟩,rfl,rfl⟩:=hR
 have hb:=ha.num 2 r.ty
 generalize hwb:wa.num 2 r.ty=wb at hb ⊢
 conv=>whnf
 rw[hu r.cl (by omega)]
 refine .rel _ (COk.thing Wr.fl (ju2 wb hb 2 (.inr (.inl rfl)) r.cl) [] [_] _ rfl rfl) (fun x ks' hR=>?_)
 obtain⟨_,wq,⟨rfl,rfl⟩,rfl,rfl⟩:=hR
 have hcc:=hb.num 2 r.cl
 generalize hwc:wb.num 2 r.cl=wc at hcc ⊢
 conv=>whnf
 rw[hu r.ttl (by omega)]
 refine .rel _ (COk.thing Wr.fl (ju2 wc hcc 4 (.inr (.inr (.inl rfl))) r.ttl) [] [_] _ rfl rfl) (fun x ks' hR=>?_)
 obtain⟨_,wq,⟨rfl,rfl⟩,rfl,rfl⟩:=hR
 have hd:=hcc.num 4 r.ttl
 generalize hwd:wc.num 4 r.ttl=wd at hd ⊢
 conv=>whnf
 refine .rel _ (COk.thing Wr.fl (wlen_ok wd) [] [_] _ rfl rfl) (fun x ks' hR=>?_)
 obtain⟨_,wq,⟨rfl,hq⟩,rfl,rfl⟩:=hR
 rw[hq]
 clear hq
 conv=>whnf
 refine .rel _ (COk.thing Wr.fl (ju2 wd hd 2 (.inr (.inl rfl)) 0) [] [_] _ rfl rfl) (fun x ks' hR=>?_)
 obtain⟨_,wq,⟨rfl,rfl⟩,rfl,rfl⟩:=hR
 have he:=hd.num 2 0
 generalize hwe:wd.num 2 0=we at he ⊢
 conv=>whnf
 refine .rel _ (COk.thing Wr.fl (wlen_ok we) [] [_] _ rfl rfl) (fun x ks' hR=>?_)
 obtain⟨_,wq,⟨rfl,hq⟩,rfl,rfl⟩:=hR
 rw[hq]
 clear hq
 conv=>whnf
 refine .rel _ (COk.thing Wr.fl (wrdata_ok we he r.ty r.d) [] [_] _ rfl rfl) (fun x ks' hR=>?_)
 obtain⟨_,wq,⟨rfl,rfl⟩,rfl,rfl⟩:=hR
 have hf:=he.rdata r.ty r.d
 generalize hwf:we.rdata r.ty r.d=wf at hf ⊢
 conv=>whnf
 refine .rel _ (COk.thing Wr.fl (wlen_ok wf.1) [] [_] _ rfl rfl) (fun x ks' hR=>?_)
 obtain⟨_,wq,⟨rfl,hq⟩,rfl,rfl⟩:=hR
 rw[hq]
 clear hq
 have hsub:IntKind.i64.wrap ((wf.1.buf.length:Int) - we.buf.length)=(wf.1.buf.length:Int) - we.buf.length:=by
  have h1:=hf.len
  have h2:=hf.hi
  have h3:=he.len
  have h4:=he.hi
  exact qa4 _ (by omega)
 conv=>whnf
 rw[hsub]
 refine .rel _ (COk.thing Wr.fl (wset_ok wf.1 hf wd.buf.length (IntKind.u16.wrap ((wf.1.buf.length:Int) - we.buf.length))) [] [_] _ rfl rfl) (fun x ks' hR=>?_)
 obtain⟨_,wq,⟨rfl,rfl⟩,rfl,rfl⟩:=hR
 have e:w.record r=(wf.1.set wd.buf.length (IntKind.u16.wrap ((wf.1.buf.length:Int) - we.buf.length)),wf.2):=by
  unfold Wr.record
  rw[if_pos hc]
  simp only[hwa,hwb,hwc,hwd,hwe,hwf]
 rw[e]
 conv=>whnf
 refine⟨[0],.d (.int .i64 (ya9 wf.2)),[pk (wf.1.set wd.buf.length (IntKind.u16.wrap ((wf.1.buf.length:Int) - we.buf.length))).fl],rfl,rfl,rfl,⟨fun _ _ _ _ h=>⟨qa5 _,h⟩,True.intro⟩,_,rfl,rfl,rfl⟩
theorem Wr.Ok.record{w:Wr}(h:w.Ok)(r:RR):(w.record r).1.Ok:=by
 unfold Wr.record
 split
 ·exact Wr.Ok.set (Wr.Ok.rdata (((((h.name _ _).num _ _).num _ _).num _ _).num _ _) _ _) _ _
 ·exact h
end Go.Proofs.YtdfdlbnojmlpiaaGreatDoor
namespace Go.Proofs.YtdfdlbnojmlpiaaGreatDoor
open Go Go.Eng
theorem rnGo_end(s:List UInt8):∀ f begin at_ bh nm,(∀ b,bh=some b→b≤s.length)→∀ e,(rnGo s f begin at_ bh nm).2=some e→e≤s.length:=by
 intro f
 induction f with
 |zero=>intro begin at_ bh nm hb e he;exact hb e he
 |succ f ih =>
  intro begin at_ bh nm hb e he
  have hg:∀ k,k≤s.length→∀ e,some (bh.getD k)=some e→e≤s.length:=fun k hk e he=>by
   cases bh with
   |none=>cases he;exact hk
   |some b=>cases he;exact hb b rfl
  unfold rnGo at he
  split at he
  ·rename_i h1
   split at he
   ·exact hg _ (by omega) e he
   ·split at he
    ·exact ih _ _ _ _ hb e he
    ·split at he
     ·rename_i h2
      split at he
      ·exact hg _ (by omega) e he
      ·exact ih _ _ _ _ (fun b hb=>hg _ (by omega) b hb) e he
     ·exact hb e he
  ·exact hb e he
theorem Rdr.Ok.name{r:Rdr}(h:r.Ok):r.name.1.Ok:=by
 unfold Rdr.name
 split
 ·exact h
 ·split
  ·refine⟨h.len,?_⟩
   show(qv5 r.s r.p).2.getD 0≤r.s.length
   cases he:(qv5 r.s r.p).2 with
   |none=>exact Nat.zero_le _
   |some e=>exact rnGo_end r.s _ _ _ _ _ (fun b hb=>by cases hb) e he
  ·exact⟨h.len,h.p⟩
theorem Rdr.name_s(r:Rdr):r.name.1.s=r.s:=by
 unfold Rdr.name
 repeat' split
 all_goals rfl
theorem Rdr.raw_s(r:Rdr)(n:Int):(r.raw n).1.s=r.s:=by
 unfold Rdr.raw
 repeat' split
 all_goals rfl
theorem Rdr.name_le(r:Rdr):r.name.2.length≤255:=by
 unfold Rdr.name
 split
 ·exact Nat.zero_le _
 ·split
  ·rename_i h;exact h.2.1
  ·exact Nat.zero_le _
theorem Rdr.raw_le(r:Rdr)(n:Int):(r.raw n).2.length≤r.s.length:=by
 unfold Rdr.raw
 split
 ·exact Nat.zero_le _
 ·split
  ·exact Nat.zero_le _
  ·show((r.s.drop r.p).take n.toNat).length≤_
   simp
   omega
theorem Rdr.raw_p(r:Rdr)(n:Int):r.p≤(r.raw n).1.p:=by
 unfold Rdr.raw
 repeat' split
 ·exact Nat.le_refl _
 ·exact Nat.le_refl _
 ·exact Nat.le_add_right _ _
theorem Rdr.Ok.part{r:Rdr}(h:r.Ok)(n:Int):(r.part n).2.Ok:=by
 have h1:=h.raw n
 have h2:=h1.p
 rw [Rdr.raw_s] at h2
 have h3:=r.raw_p n
 have h4:=h.len
 unfold Rdr.part
 split
 ·exact⟨by simp,Nat.le_refl _⟩
 ·refine⟨by simp;omega,?_⟩
  show(if r.bad then 0 else r.p)≤(r.s.take (r.raw n).1.p).length
  simp
  split <;> omega
theorem Rdr.part_s(r:Rdr)(n:Int):(r.part n).2.s.length≤r.s.length:=by
 unfold Rdr.part
 split
 ·exact Nat.zero_le _
 ·simp
  omega
def Rdr.names:Nat→Rdr→List UInt8→Rdr × List UInt8
 |0,r,b=>(r,b)
 |k+1,r,b=>Rdr.names k r.name.1 (b++r.name.2)
def Rdr.body(r:Rdr)(t:Int)(width:Int):Rdr × List UInt8:=match qd7 t with
 |none=>r.raw width
 |some f =>
  let a:=r.raw (2 * f.1)
  let b:=Rdr.names f.2.1 a.1 a.2
  let c:=b.1.raw (4 * f.2.2)
  (c.1,b.2++c.2)
def Rdr.rdata(r:Rdr)(t:Int)(width:Int):List UInt8 × Int :=
 if (r.part width).2.bad then ([],5) else
 let q:=(r.part width).2.body t width
 if q.1.bad || decide (0<q.1.s.length - q.1.p) || !qc8 t q.2 then ([],6) else (q.2,0)
theorem bw0_among(pre:List KB)(s:List UInt8)(hs:s.length≤70368744177664):COk Tryz.prog 132 [.ptr pre.length 0,.d (.str s)] (pre++[.cells 92 [.v (.pointer none),nilS]]) (fun r k=>r = .tup [.d (.int .i64 s.length),.v .nilIface]∧k=pre++[pk (Bst.fl (.live s))]):=by
 have:=(packIn (bw0_ok s hs)).among pre [] (fun s k ⟨b1,hk,_⟩=>by rw[hk];exact Nat.le_refl _) rfl
 refine COk.imp (this:COk _ _ [.ptr pre.length 0,.d (.str s)] (pre++[.cells 92 [.v (.pointer none),nilS]]) _) fun s k ⟨s0,k1,⟨b1,hk1,hr,hb1⟩,hs,hk⟩=>?_
 subst hr hk1 hb1
 exact⟨by rw[hs];rfl,by rw[hk];rfl⟩
structure RdSt where
 p:Rdr
 b:List UInt8
 i:Nat
set_option maxRecDepth 100000 in
set_option maxHeartbeats 8000000 in
theorem rrdata_ok(r:Rdr)(hr:r.Ok)(hs:r.s.length<1099511627776)(t:Int)(width:Int)(hn : -9223372036854775808≤width∧width≤9223372036854775807) :
 COk Tryz.prog 84 [.ptr 0 0,.d (.int .u16 t),.d (.int .i64 width)] [r.kb] (fun s k=>∃ r1,k=[Rdr.kb r1]∧(s = .tup [.d (.str (r.rdata t width).1),.d (.int .i64 (r.rdata t width).2)]∧r1=(r.part width).1)):=by
 refine qc4 (TT:=TT) (IN:=qc2 [(83,Tryz.f83,1),(35,Tryz.f35,1)]) qc5 (qb8 (qb8 qa1 Tryz.func35 (by kernel_rfl) (by kernel_rfl)) Tryz.func83 (by kernel_rfl) (by kernel_rfl)) mixed 1000 Tryz.func84 rfl (qa8 Tryz.func84 (by kernel_rfl) rfl) 59 (by kernel_rfl) ?_
 conv=>whnf
 refine .rel _ (part_ok r hr width hn) (fun x ks' hR=>?_)
 obtain⟨rfl,rfl⟩:=hR
 have hp:=hr.part width
 have hps:=r.part_s width
 conv=>whnf
 refine⟨fun h1=>?_,fun h1=>?_⟩
 ·have e:r.rdata t width=([],5):=by unfold Rdr.rdata;rw[if_pos h1]
  conv=>whnf
  refine⟨[0],.tup [.d (.str []),.d (.int .i64 5)],[(r.part width).1.kb],rfl,rfl,rfl,?_,_,rfl,by rw[e],rfl⟩
  repeat'(first|exact ⟨⟩|exact rfl|exact fun _=>Iff.rfl|exact fun _ _=>rfl|exact renM_ent rfl _|apply And.intro)
 have e:r.rdata t width=(let q:=(r.part width).2.body t width;if q.1.bad || decide (0<q.1.s.length - q.1.p) || !qc8 t q.2 then ([],6) else (q.2,0)):=by unfold Rdr.rdata;rw[if_neg (by simp[h1])]
 rw[e]
 clear e
 generalize (r.part width).2=p at hp hps h1 ⊢
 generalize (r.part width).1=r1
 conv=>whnf
 have hfo:=jo4 t
 cases hf:qd7 t with
 |none =>
  rw [hf] at hfo
  refine .one (.data _ hfo rfl rfl ?_)
  conv=>whnf
  refine .rel _ (qi2 (jb8 p hp width hn) [_] [_] _ rfl rfl) (fun x ks' hR=>?_)
  obtain⟨_,q,⟨rfl,rfl⟩,rfl,rfl⟩:=hR
  have hb:p.body t width=p.raw width:=by unfold Rdr.body;rw[hf]
  rw[hb]
  have hq:=hp.raw width
  generalize p.raw width=q at hq ⊢
  conv=>whnf
  have hql:=hq.len
  have hqp:=hq.p
  have hsub:IntKind.i64.wrap ((q.1.s.length:Int) - q.1.p)=(q.1.s.length:Int) - q.1.p:=qa4 _ (by omega)
  refine⟨fun h2=>?_,fun h2=>?_⟩
  ·conv=>whnf
   refine⟨[0],.tup [.d (.str []),.d (.int .i64 6)],[r1.kb],rfl,rfl,rfl,?_,_,rfl,by simp[h2],rfl⟩
   repeat'(first|exact ⟨⟩|exact rfl|exact fun _=>Iff.rfl|exact fun _ _=>rfl|exact renM_ent rfl _|apply And.intro)
  conv=>whnf
  refine brF h2 ?_
  conv=>whnf
  rw[hsub]
  refine⟨fun h3=>?_,fun h3=>?_⟩
  ·have h3':0<q.1.s.length - q.1.p:=by
    have h:((q.1.s.length:Int) - q.1.p) > 0:=of_decide_eq_true h3
    omega
   conv=>whnf
   refine⟨[0],.tup [.d (.str []),.d (.int .i64 6)],[r1.kb],rfl,rfl,rfl,?_,_,rfl,by simp[h3'],rfl⟩
   repeat'(first|exact ⟨⟩|exact rfl|exact fun _=>Iff.rfl|exact fun _ _=>rfl|exact renM_ent rfl _|apply And.intro)
  have h3':¬ 0<q.1.s.length - q.1.p:=by
   have h:¬ ((q.1.s.length:Int) - q.1.p) > 0:=of_decide_eq_false h3
   omega
  conv=>whnf
  refine .one (.data _ (jb7 t q.2) rfl rfl ?_)
  cases hc:qc8 t q.2
  ·conv=>whnf
   refine brT rfl ?_
   conv=>whnf
   refine⟨[0],.tup [.d (.str []),.d (.int .i64 6)],[r1.kb],rfl,rfl,rfl,?_,_,rfl,by simp[hc],rfl⟩
   repeat'(first|exact ⟨⟩|exact rfl|exact fun _=>Iff.rfl|exact fun _ _=>rfl|exact renM_ent rfl _|apply And.intro)
  ·conv=>whnf
   refine brF rfl ?_
   conv=>whnf
   refine⟨[0],.tup [.d (.str q.2),.d (.int .i64 0)],[r1.kb],rfl,rfl,rfl,?_,_,rfl,by simp[hc,h2,h3'],rfl⟩
   repeat'(first|exact ⟨⟩|exact rfl|exact fun _=>Iff.rfl|exact fun _ _=>rfl|exact renM_ent rfl _|apply And.intro)
 |some f =>
  have hfl:=qm2 hf
  rw [hf] at hfo
  refine .one (.data _ hfo rfl rfl ?_)
  conv=>whnf
  have hw2:IntKind.i64.wrap (2 * (f.1:Int))=2 * (f.1:Int):=qa4 _ (by omega)
  have hw4:IntKind.i64.wrap (4 * (f.2.2:Int))=4 * (f.2.2:Int):=qa4 _ (by omega)
  rw[hw2]
  refine .rel _ (qi2 (jb8 p hp (2 * f.1) (by omega)) [_] [_,_] _ rfl rfl) (fun x ks' hR=>?_)
  obtain⟨_,q,⟨rfl,rfl⟩,rfl,rfl⟩:=hR
  conv=>whnf
  refine .rel _ (bw0_among [_,_,_] (p.raw (2 * f.1)).2 (by have:=p.raw_le (2 * f.1);omega)) (fun x ks' hR=>?_)
  obtain⟨rfl,rfl⟩:=hR
  have hb:p.body t width=(((Rdr.names f.2.1 (p.raw (2 * f.1)).1 (p.raw (2 * f.1)).2).1.raw (4 * f.2.2)).1,(Rdr.names f.2.1 (p.raw (2 * f.1)).1 (p.raw (2 * f.1)).2).2++((Rdr.names f.2.1 (p.raw (2 * f.1)).1 (p.raw (2 * f.1)).2).1.raw (4 * f.2.2)).2):=by unfold Rdr.body;rw[hf]
  rw[hb]
  clear hb
  have hq:=hp.raw (2 * f.1)
  have hqs:=p.raw_s (2 * f.1)
  have hql:=p.raw_le (2 * f.1)
  generalize p.raw (2 * f.1)=a at hq hqs hql ⊢
  obtain⟨p0,b0⟩:=a
  simp only at hq hqs hql
  have hps0:p0.s.length<1099511627776:=by rw[hqs];omega
  have hb0:b0.length<1099511627776:=by omega
  clear hqs hql
  conv=>whnf
  refine .inv RdSt (fun s=>s.p.Ok∧s.p.s.length<1099511627776∧s.i≤f.2.1∧s.b.length<1099511627776+s.i * 1000∧Rdr.names (f.2.1 - s.i) s.p s.b=Rdr.names f.2.1 p0 b0) (fun s=>[(32,.d (.int .i64 s.i))]) (fun s=>[(1,s.p.kb),(3,pk (Bst.fl (.live s.b)))]) (fun s=>f.2.1 - s.i) ⟨⟨p0,b0,0⟩,[0,1,2,3],⟨hq,hps0,Nat.zero_le _,by simpa using hb0,rfl⟩,?_⟩ ?_
  ·conv=>whnf
   repeat'(first|exact ⟨⟩|exact rfl|exact(fun _ _ _ _ h=>⟨qa5 _,h⟩)|exact fun _=>Iff.rfl|exact fun _ _=>rfl|apply And.intro)
  clear hq hps0 hb0
  intro s hs
  obtain⟨hq,hps0,hi,hb0,hrest⟩:=hs
  conv=>whnf
  generalize s.p=pc at hq hps0 hrest ⊢
  generalize s.b=bc at hb0 hrest ⊢
  generalize s.i=i at hi hb0 hrest ⊢
  refine⟨fun c5=>?_,fun c5=>?_⟩
  ·have c5':i<f.2.1:=(by have h:(i:Int)<f.2.1:=of_decide_eq_true c5;omega)
   conv=>whnf
   refine .rel _ (qi2 (rname_ok pc hq) [_] [_,_] _ rfl rfl) (fun x ks' hR=>?_)
   obtain⟨_,q,⟨rfl,rfl⟩,rfl,rfl⟩:=hR
   have hnl:=pc.name_le
   conv=>whnf
   refine .rel _ (COk.thing Bst.fl (bw1_ok bc pc.name.2 (by omega)) [_,_,_] [] _ rfl rfl) (fun x ks' hR=>?_)
   obtain⟨_,q,⟨rfl,rfl⟩,rfl,rfl⟩:=hR
   conv=>whnf
   have hw1:IntKind.i64.wrap ((i:Int)+1)=((i+1:Nat):Int):=by rw[qa4 _ (by omega)];omega
   refine⟨⟨pc.name.1,bc++pc.name.2,i+1⟩,[0,1,2,3],⟨hq.name,by show pc.name.1.s.length<_;rw[Rdr.name_s];exact hps0,c5',by show(bc++pc.name.2).length<1099511627776+(i+1) * 1000;rw[List.length_append];omega,?_⟩,by show f.2.1 - (i+1)<f.2.1 - i;omega,?_⟩
   ·rw[←hrest]
    have:f.2.1 - i=(f.2.1 - (i+1))+1:=by omega
    rw[this]
    rfl
   conv=>whnf
   rw[hw1]
   repeat'(first|exact ⟨⟩|exact rfl|exact(fun _ _ _ _ h=>⟨qa5 _,h⟩)|exact fun _=>Iff.rfl|exact fun _ _=>rfl|apply And.intro)
  have hia:i=f.2.1:=(by have h:¬ (i:Int)<f.2.1:=of_decide_eq_false c5;omega)
  rw [hia,Nat.sub_self] at hrest
  have hz:Rdr.names 0 pc bc=(pc,bc):=rfl
  have hrest':Rdr.names f.2.1 ((p0,b0):Rdr × List UInt8).1 ((p0,b0):Rdr × List UInt8).2=(pc,bc):=by rw[←hz];exact hrest.symm
  rw[hrest']
  have hrl:=pc.raw_le (4 * f.2.2)
  have hrq:=hq.raw (4 * f.2.2)
  conv=>whnf
  rw[hw4]
  refine .rel _ (qi2 (jb8 pc hq (4 * f.2.2) (by omega)) [_] [_,_] _ rfl rfl) (fun x ks' hR=>?_)
  obtain⟨_,q,⟨rfl,rfl⟩,rfl,rfl⟩:=hR
  conv=>whnf
  refine .rel _ (COk.thing Bst.fl (bw1_ok bc (pc.raw (4 * f.2.2)).2 (by omega)) [_,_,_] [] _ rfl rfl) (fun x ks' hR=>?_)
  obtain⟨_,q,⟨rfl,rfl⟩,rfl,rfl⟩:=hR
  conv=>whnf
  refine .rel _ (COk.thing Bst.fl (bs_ok (bc++(pc.raw (4 * f.2.2)).2) (by rw[List.length_append];omega)) [_,_,_] [] _ rfl rfl) (fun x ks' hR=>?_)
  obtain⟨_,q,⟨rfl,rfl⟩,rfl,rfl⟩:=hR
  generalize hqq:(((pc.raw (4 * f.2.2)).1,bc++(pc.raw (4 * f.2.2)).2):Rdr × List UInt8)=q
  have e1:(pc.raw (4 * f.2.2)).1=q.1:=by rw[←hqq]
  have e2:bc++(pc.raw (4 * f.2.2)).2=q.2:=by rw[←hqq]
  rw [e1] at hrq ⊢
  rw[e2]
  have hq:=hrq
  conv=>whnf
  have hql:=hq.len
  have hqp:=hq.p
  have hsub:IntKind.i64.wrap ((q.1.s.length:Int) - q.1.p)=(q.1.s.length:Int) - q.1.p:=qa4 _ (by omega)
  refine⟨fun h2=>?_,fun h2=>?_⟩
  ·conv=>whnf
   refine⟨[0],.tup [.d (.str []),.d (.int .i64 6)],[r1.kb],rfl,rfl,rfl,?_,_,rfl,by simp[h2],rfl⟩
   repeat'(first|exact ⟨⟩|exact rfl|exact fun _=>Iff.rfl|exact fun _ _=>rfl|exact renM_ent rfl _|apply And.intro)
  conv=>whnf
  refine brF h2 ?_
  conv=>whnf
  rw[hsub]
  refine⟨fun h3=>?_,fun h3=>?_⟩
  ·have h3':0<q.1.s.length - q.1.p:=by
    have h:((q.1.s.length:Int) - q.1.p) > 0:=of_decide_eq_true h3
    omega
   conv=>whnf
   refine⟨[0],.tup [.d (.str []),.d (.int .i64 6)],[r1.kb],rfl,rfl,rfl,?_,_,rfl,by simp[h3'],rfl⟩
   repeat'(first|exact ⟨⟩|exact rfl|exact fun _=>Iff.rfl|exact fun _ _=>rfl|exact renM_ent rfl _|apply And.intro)
  have h3':¬ 0<q.1.s.length - q.1.p:=by
   have h:¬ ((q.1.s.length:Int) - q.1.p) > 0:=of_decide_eq_false h3
   omega
  conv=>whnf
  refine .one (.data _ (jb7 t q.2) rfl rfl ?_)
  cases hc:qc8 t q.2
  ·conv=>whnf
   refine brT rfl ?_
   conv=>whnf
   refine⟨[0],.tup [.d (.str []),.d (.int .i64 6)],[r1.kb],rfl,rfl,rfl,?_,_,rfl,by simp[hc],rfl⟩
   repeat'(first|exact ⟨⟩|exact rfl|exact fun _=>Iff.rfl|exact fun _ _=>rfl|exact renM_ent rfl _|apply And.intro)
  ·conv=>whnf
   refine brF rfl ?_
   conv=>whnf
   refine⟨[0],.tup [.d (.str q.2),.d (.int .i64 0)],[r1.kb],rfl,rfl,rfl,?_,_,rfl,by simp[hc,h2,h3'],rfl⟩
   repeat'(first|exact ⟨⟩|exact rfl|exact fun _=>Iff.rfl|exact fun _ _=>rfl|exact renM_ent rfl _|apply And.intro)
end Go.Proofs.YtdfdlbnojmlpiaaGreatDoor
namespace Go.Proofs.YtdfdlbnojmlpiaaGreatDoor
open Go Go.Eng
def rr0:RR:=⟨[],0,0,0,[]⟩
def Rdr.recd(r:Rdr):Rdr × RR × Int :=
 let a:=r.name
 let b:=a.1.num 2
 let c:=b.1.num 2
 let d:=c.1.num 4
 let e:=d.1.num 2
 if e.1.bad then (e.1,rr0,5) else
 let x:=e.1.rdata (IntKind.u16.wrap b.2) (IntKind.i64.wrap e.2)
 if x.2≠0 then ((e.1.part (IntKind.i64.wrap e.2)).1,rr0,x.2) else
 ((e.1.part (IntKind.i64.wrap e.2)).1,⟨a.2,IntKind.u16.wrap b.2,IntKind.u16.wrap c.2,if IntKind.u32.wrap d.2 > 2147483647∧IntKind.u16.wrap b.2≠41 then 0 else IntKind.u32.wrap d.2,x.1⟩,0)
theorem Rdr.num_s(r:Rdr)(n:Nat):(r.num n).1.s=r.s:=r.raw_s n
set_option maxRecDepth 100000 in
set_option maxHeartbeats 8000000 in
theorem rrec_ok(r:Rdr)(hr:r.Ok)(hs:r.s.length<1099511627776) :
 COk Tryz.prog 34 [.ptr 0 0] [r.kb] (fun s k=>∃ r1,k=[Rdr.kb r1]∧(s = .tup [r.recd.2.1.V,.d (.int .i64 r.recd.2.2)]∧r1=r.recd.1)):=by
 refine qc4 (TT:=TT) (IN:=qc2 [(83,Tryz.f83,1)]) qc5 (qb8 qa1 Tryz.func83 (by kernel_rfl) (by kernel_rfl)) mixed 1000 Tryz.func34 rfl (qa8 Tryz.func34 (by kernel_rfl) rfl) 52 (by kernel_rfl) ?_
 have hrec:r.recd=r.recd:=rfl
 conv at hrec=>rhs;unfold Rdr.recd
 dsimp only at hrec
 conv=>whnf
 refine .rel _ (qi2 (rname_ok r hr) [] [_,_] _ rfl rfl) (fun x ks' hR=>?_)
 obtain⟨_,q,⟨rfl,rfl⟩,rfl,rfl⟩:=hR
 have ha:=hr.name
 have hsa:=r.name_s
 generalize r.name=a at ha hsa hrec ⊢
 conv=>whnf
 refine .rel _ (qi2 (jm3 a.1 ha 2 (.inr (.inl rfl))) [] [_,_] _ rfl rfl) (fun x ks' hR=>?_)
 obtain⟨_,q,⟨rfl,rfl⟩,rfl,rfl⟩:=hR
 have hb:=ha.num 2
 have hsb:=a.1.num_s 2
 generalize a.1.num 2=b at hb hsb hrec ⊢
 conv=>whnf
 refine .rel _ (qi2 (jm3 b.1 hb 2 (.inr (.inl rfl))) [] [_,_] _ rfl rfl) (fun x ks' hR=>?_)
 obtain⟨_,q,⟨rfl,rfl⟩,rfl,rfl⟩:=hR
 have hc:=hb.num 2
 have hsc:=b.1.num_s 2
 generalize b.1.num 2=c at hc hsc hrec ⊢
 conv=>whnf
 refine .rel _ (qi2 (jm3 c.1 hc 4 (.inr (.inr (.inl rfl)))) [] [_,_] _ rfl rfl) (fun x ks' hR=>?_)
 obtain⟨_,q,⟨rfl,rfl⟩,rfl,rfl⟩:=hR
 have hd:=hc.num 4
 have hsd:=c.1.num_s 4
 generalize c.1.num 4=d at hd hsd hrec ⊢
 conv=>whnf
 refine .rel _ (qi2 (jm3 d.1 hd 2 (.inr (.inl rfl))) [] [_,_] _ rfl rfl) (fun x ks' hR=>?_)
 obtain⟨_,q,⟨rfl,rfl⟩,rfl,rfl⟩:=hR
 have he:=hd.num 2
 have hse:=d.1.num_s 2
 generalize d.1.num 2=e at he hse hrec ⊢
 have hes:e.1.s.length<1099511627776:=by rw[hse,hsd,hsc,hsb,hsa];exact hs
 conv=>whnf
 refine⟨fun h1=>?_,fun h1=>?_⟩
 ·rw [if_pos h1] at hrec
  conv=>whnf
  refine⟨[0],.tup [rr0.V,.d (.int .i64 5)],[e.1.kb],rfl,rfl,rfl,?_,_,rfl,by rw[hrec],by rw[hrec]⟩
  repeat'(first|exact ⟨⟩|exact rfl|exact fun _=>Iff.rfl|exact fun _ _=>rfl|exact renM_ent rfl _|apply And.intro)
 rw [if_neg (by simp [h1])] at hrec
 have hwr:=IntKind.wrap_i64 (e.2:Int)
 have hwb : -9223372036854775808≤IntKind.i64.wrap (e.2:Int)∧IntKind.i64.wrap (e.2:Int)≤9223372036854775807:=by rw[hwr];omega
 conv=>whnf
 refine .rel _ (qi2 (rrdata_ok e.1 he hes (IntKind.u16.wrap b.2) (IntKind.i64.wrap e.2) hwb) [] [_,_] _ rfl rfl) (fun x ks' hR=>?_)
 obtain⟨_,q,⟨rfl,rfl⟩,rfl,rfl⟩:=hR
 generalize e.1.rdata (IntKind.u16.wrap b.2) (IntKind.i64.wrap e.2)=x at hrec ⊢
 generalize (e.1.part (IntKind.i64.wrap e.2)).1=r1 at hrec ⊢
 conv=>whnf
 refine⟨fun h2=>?_,fun h2=>?_⟩
 ·have h2':x.2≠0:=by simpa using h2
  rw [if_pos h2'] at hrec
  conv=>whnf
  refine⟨[0],.tup [rr0.V,.d (.int .i64 x.2)],[r1.kb],rfl,rfl,rfl,?_,_,rfl,by rw[hrec],by rw[hrec]⟩
  repeat'(first|exact ⟨⟩|exact rfl|exact fun _=>Iff.rfl|exact fun _ _=>rfl|exact renM_ent rfl _|apply And.intro)
 have h2':¬ x.2≠0:=by simpa using h2
 rw [if_neg h2'] at hrec
 conv=>whnf
 refine⟨fun h3=>?_,fun h3=>?_⟩
 ·have h3':IntKind.u32.wrap (d.2:Int) > 2147483647:=of_decide_eq_true h3
  conv=>whnf
  refine⟨fun h4=>?_,fun h4=>?_⟩
  ·have h4':IntKind.u16.wrap (b.2:Int)≠41:=by simpa using h4
   rw [if_pos ⟨h3',h4'⟩] at hrec
   conv=>whnf
   refine⟨[0],.tup [(RR.V ⟨a.2,IntKind.u16.wrap b.2,IntKind.u16.wrap c.2,0,x.1⟩),.d (.int .i64 0)],[r1.kb],rfl,rfl,rfl,?_,_,rfl,by rw[hrec],by rw[hrec]⟩
   repeat'(first|exact ⟨⟩|exact rfl|exact fun _=>Iff.rfl|exact fun _ _=>rfl|exact renM_ent rfl _|apply And.intro)
  ·have h4':¬ IntKind.u16.wrap (b.2:Int)≠41:=by simpa using h4
   rw [if_neg (fun h=>h4' h.2)] at hrec
   conv=>whnf
   refine⟨[0],.tup [(RR.V ⟨a.2,IntKind.u16.wrap b.2,IntKind.u16.wrap c.2,IntKind.u32.wrap d.2,x.1⟩),.d (.int .i64 0)],[r1.kb],rfl,rfl,rfl,?_,_,rfl,by rw[hrec],by rw[hrec]⟩
   repeat'(first|exact ⟨⟩|exact rfl|exact fun _=>Iff.rfl|exact fun _ _=>rfl|exact renM_ent rfl _|apply And.intro)
 ·have h3':¬ IntKind.u32.wrap (d.2:Int) > 2147483647:=of_decide_eq_false h3
  rw [if_neg (fun h=>h3' h.1)] at hrec
  conv=>whnf
  refine⟨[0],.tup [(RR.V ⟨a.2,IntKind.u16.wrap b.2,IntKind.u16.wrap c.2,IntKind.u32.wrap d.2,x.1⟩),.d (.int .i64 0)],[r1.kb],rfl,rfl,rfl,?_,_,rfl,by rw[hrec],by rw[hrec]⟩
  repeat'(first|exact ⟨⟩|exact rfl|exact fun _=>Iff.rfl|exact fun _ _=>rfl|exact renM_ent rfl _|apply And.intro)
theorem Rdr.Ok.recd{r:Rdr}(h:r.Ok):r.recd.1.Ok:=by
 have h1:=((((h.name.num 2).num 2).num 4).num 2)
 unfold Rdr.recd
 dsimp only
 split
 ·exact h1
 ·split
  ·exact h1.raw _
  ·exact h1.raw _
end Go.Proofs.YtdfdlbnojmlpiaaGreatDoor
namespace Go.Proofs.YtdfdlbnojmlpiaaGreatDoor
open Go Go.Eng
inductive NA (s:List UInt8):Nat→Nat→List (List UInt8)→Nat→Prop
 |done {b p:Nat}:p<s.length→bt s p=0→NA s b p [] (p+1)
 |lab {b p:Nat} {l:List UInt8} {ls:List (List UInt8)} {e:Nat}:okL l→(s.drop p).take (1+l.length)=lab l→NA s b (p+1+l.length) ls e→NA s b p (l :: ls) e
 |ptr {b p t:Nat} {ls:List (List UInt8)} {e:Nat}:p+1<s.length→192≤bt s p→t=(bt s p - 192) * 256+bt s (p+1)→t<b→NA s t t ls e→NA s b p ls (p+2)
theorem bt_app(s t:List UInt8)(p:Nat)(h:p<s.length):bt (s++t) p=bt s p:=by
 unfold bt
 rw[List.getElem?_append_left h]
theorem take_lab_len{s l:List UInt8}{p:Nat}(h:(s.drop p).take (1+l.length)=lab l):p+1+l.length≤s.length:=by
 have:=congrArg List.length h
 rw [qj8,List.length_take,List.length_drop] at this
 omega
theorem NA.app{s:List UInt8}(t:List UInt8){b p:Nat}{ls:List (List UInt8)}{e:Nat}(h:NA s b p ls e):NA (s++t) b p ls e:=by
 induction h with
 |done h1 h2=>exact .done (by rw[List.length_append];omega) (by rw[bt_app _ _ _ h1];exact h2)
 |lab h1 h2 _ ih =>
  have h3:=take_lab_len h2
  refine .lab h1 ?_ ih
  rw[List.drop_append_of_le_length (by omega),List.take_append_of_le_length (by rw[List.length_drop];omega)]
  exact h2
 |ptr h1 h2 h3 h4 _ ih =>
  refine .ptr (by rw[List.length_append];omega) (by rw[bt_app _ _ _ (by omega)];exact h2) ?_ h4 ih
  rw[bt_app _ _ _ (by omega),bt_app _ _ _ h1]
  exact h3
def RO(w:Wr):Prop:=∀ x ∈ w.rests,∃ ls k e,(∀ l ∈ ls,okL l)∧x.1=mk ls∧x.2=((k:Nat):Int)∧k<16384∧k<w.buf.length∧NA w.buf k k ls e
theorem RO.more{w w':Wr}(h:RO w){d:List UInt8}(hb:w'.buf=w.buf++d)(hr:w'.rests=w.rests):RO w':=by
 intro x hx
 rw [hr] at hx
 obtain⟨ls,k,e,h1,h2,h3,h4,h5,h6⟩:=h x hx
 refine⟨ls,k,e,h1,h2,h3,h4,by rw[hb,List.length_append];omega,?_⟩
 rw[hb]
 exact h6.app d
theorem NA.fin(s:List UInt8)(b:Nat):NA (s++[0]) b s.length [] (s.length+1):=by
 refine .done (by simp) ?_
 unfold bt
 rw[List.getElem?_append_right (Nat.le_refl _),Nat.sub_self]
 rfl
end Go.Proofs.YtdfdlbnojmlpiaaGreatDoor
namespace Go.Proofs.YtdfdlbnojmlpiaaGreatDoor
open Go Go.Eng
def Wr.re(w:Wr)(b:List UInt8):Wr:={ w with buf:=b }
structure WOp(f:Wr→Wr):Prop where
 blind:∀ w,∃ d,(f w).buf=w.buf++d∧∀ b,b.length=w.buf.length→f (w.re b)=(f w).re (b++d)
 full:∀ w,(f w).full=false→w.full=false
 lim:∀ w,(f w).limit=w.limit
theorem WOp.id:WOp (fun w=>w):=⟨fun w=>⟨[],(List.append_nil _).symm,fun b _=>by rw[List.append_nil]⟩,fun _ h=>h,fun _=>rfl⟩
theorem WOp.of{f:Wr→Wr}(h:∀ w,∃ g,WOp g∧f w=g w∧∀ b,b.length=w.buf.length→f (w.re b)=g (w.re b)):WOp f:=by
 refine⟨fun w=>?_,fun w=>?_,fun w=>?_⟩ <;> obtain⟨g,hg,h1,h2⟩:=h w
 ·obtain⟨d,a1,a2⟩:=hg.blind w
  refine⟨d,by rw[h1,a1],fun b hb=>?_⟩
  rw[h2 b hb,h1]
  exact a2 b hb
 ·rw[h1]
  exact hg.full w
 ·rw[h1]
  exact hg.lim w
theorem WOp.pre{f:Wr→Wr}(h:WOp f)(w:Wr):w.buf <+: (f w).buf:=by
 obtain⟨d,h1,_⟩:=h.blind w
 exact⟨d,h1.symm⟩
end Go.Proofs.YtdfdlbnojmlpiaaGreatDoor
namespace Go.Proofs.YtdfdlbnojmlpiaaGreatDoor
open Go Go.Eng
theorem new_among{P:Program}{f:FuncId}{al:List SV}{K:KB}(hK:∀ σ,mapK σ K=K)(h:COk P f al [] (fun r k=>r = .ptr 0 0∧k=[K]))(pre:List KB)(ha:∀ σ,mapL σ al=al):COk P f al pre (fun r k=>r = .ptr pre.length 0∧k=pre++[K]):=by
 have:=h.among pre [] (fun s k _=>Nat.zero_le _) rfl
 rw [ha] at this
 have e:pre++(mapB (sig (List.range' pre.length ([]:List KB).length) (pre.length+(([]:List KB).length+([]:List KB).length))) []++[])=pre:=by simp[mapB]
 rw [e] at this
 refine this.imp fun s k ⟨s0,k1,⟨hr,hk1⟩,hs,hk⟩=>?_
 subst hr hk1
 refine⟨by rw[hs];rfl,?_⟩
 rw[hk]
 show pre++([]++([]++[mapK _ K]))=_
 rw[hK]
 rfl
end Go.Proofs.YtdfdlbnojmlpiaaGreatDoor
