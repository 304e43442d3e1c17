/-
  rdata.look, rdata.Fold, sets.Check. No conditions. pack.Writer over known blocks: New, piece, Num, name, Set, Len, Out. Conditions: the limit is no more than a million. pack.Writer: New, Set, Len, Out. Conditions: as in Pack. pack.Reader over known blocks: Open, Bad, fail, Raw, Num, At, Left, Part. Conditions: the bytes are fewer than 2 to the 62. pack.Reader.Name. Conditions: the bytes are fewer than 2 to the 62. pack.Reader: Part; rdata.copies, rdata.Write. Conditions: as in Pack and Read. rdata.Write, record.Check, record.Write. Conditions: as in Pack and Read. record.Check, record.Write. Conditions: as in Pack and Read. rdata.Read. Conditions: the bytes are fewer than 2 to the 40. record.Read. Conditions: as in RRdata. What is written is read again: numbers and names. Plain lemmas. What is written is read again: data and records. Plain lemmas. A thing that is made behind other blocks. Plain.
-/
import Derived.Laws.BitsAllLaws
import Derived.Test.YtdfdlbnojmlpiaaGreatDoorB1
import Derived.Test.YtdfdlbnojmlpiaaGreatDoorM4
set_option linter.unusedVariables false
set_option linter.unusedSimpArgs false
namespace Go.Proofs.YtdfdlbnojmlpiaaGreatDoor
open Go Go.Eng
def lookF(t:Int)(s:List UInt8):Option ((Nat × Nat × Nat) × (List UInt8 × List (List UInt8) × List UInt8)) :=
 if s.length≤4096 then (formOf t).bind fun p=>(cutF p.1 p.2.1 p.2.2 s).map fun q=>(p,q) else none
def lookR:Option ((Nat × Nat × Nat) × (List UInt8 × List (List UInt8) × List UInt8))→SV
 |none=>.tup [.agg [.any,.any,.any],noParts,.d .ff]
 |some (p,x,l,r)=>.tup [formV p,partsV x l r,.d .tt]
set_option maxRecDepth 100000
set_option maxHeartbeats 4000000 in
theorem look_ok(t:Int)(s:List UInt8):FnOk Tryz.prog 145 [.d (.int .u16 t),.d (.str s)] (lookR (lookF t s)):=by
 refine fnOk_of_run (TT:=TT) (IN:=lookI []) TT_ok INok_nil mixed 1000 Tryz.func145 rfl (enters Tryz.func145 (by kernel_rfl) rfl) rfl 32 (by kernel_rfl) ?_
 conv=>whnf
 refine .one (.data _ (formOf_ok t) rfl ?_ ?_)
 ·cases formOf t <;> rfl
 cases hf:formOf t with
 |none =>
  have e:lookF t s=none:=by unfold lookF;rw[hf];split <;> rfl
  rw[e]
  conv=>whnf
  repeat'(first|exact ⟨⟩|exact rfl|exact Or.inl rfl|exact Or.inr rfl|exact fun _ _=>rfl|apply And.intro)
 |some p =>
  obtain⟨f1,f2,f3⟩:=formOf_le hf
  conv=>whnf
  refine⟨fun hgt=>?_,fun hle=>?_⟩
  ·have e:lookF t s=none:=by unfold lookF;rw [if_neg (by simp at hgt;omega)]
   rw[e]
   conv=>whnf
   repeat'(first|exact ⟨⟩|exact rfl|exact Or.inl rfl|exact Or.inr rfl|exact fun _ _=>rfl|apply And.intro)
  ·have e:lookF t s=(cutF p.1 p.2.1 p.2.2 s).map fun q=>(p,q):=by unfold lookF;rw [if_pos (by simp at hle;omega),hf];rfl
   rw[e]
   conv=>whnf
   refine .one (.data _ (cut_ok p.1 p.2.1 p.2.2 f1 f2 f3 s) rfl ?_ ?_)
   ·cases cutF p.1 p.2.1 p.2.2 s <;> rfl
   cases hc:cutF p.1 p.2.1 p.2.2 s with
   |none =>
    conv=>whnf
    (apply Exists.intro;apply Exists.intro;apply And.intro;focus ((conv=>whnf);repeat'(first|exact ⟨⟩|exact rfl|apply And.intro)))
    conv=>whnf
    repeat'(first|exact ⟨⟩|exact rfl|exact Or.inl rfl|exact Or.inr rfl|exact fun _ _=>rfl|apply And.intro)
   |some q =>
    conv=>whnf
    (apply Exists.intro;apply Exists.intro;apply And.intro;focus ((conv=>whnf);repeat'(first|exact ⟨⟩|exact rfl|apply And.intro)))
    conv=>whnf
    repeat'(first|exact ⟨⟩|exact rfl|exact Or.inl rfl|exact Or.inr rfl|exact fun _ _=>rfl|apply And.intro)
theorem namesF_len:∀ (n:Nat) (s:List UInt8) (l:List (List UInt8)) (r:List UInt8),namesF n s=some (l,r)→l.length=n∧l.flatten.length+r.length=s.length:=by
 intro n
 induction n with
 |zero=>intro s l r h;simp only [namesF,Option.some.injEq,Prod.mk.injEq] at h;obtain ⟨rfl,rfl⟩:=h;simp
 |succ n ih =>
  intro s l r h
  simp only [namesF] at h
  split at h
  ·cases h
  ·cases hn:namesF n (s.drop (firstN s)) with
   |none=>rw [hn] at h;cases h
   |some p =>
    rw [hn] at h
    simp only [Option.map_some,Option.some.injEq,Prod.mk.injEq] at h
    obtain⟨rfl,rfl⟩:=h
    obtain⟨h1,h2⟩:=ih _ p.1 p.2 hn
    have:=firstN_le s
    refine⟨by simp[h1],?_⟩
    simp only [List.flatten_cons,List.length_append,List.length_take,List.length_drop] at h2 ⊢
    omega
end Go.Proofs.YtdfdlbnojmlpiaaGreatDoor
namespace Go.Proofs.YtdfdlbnojmlpiaaGreatDoor
open Go Go.Eng
set_option maxRecDepth 100000
structure Wr where
 buf:List UInt8
 limit:Int
 full:Bool
 rests:List (List UInt8 × Int)
def Wr.fl(w:Wr):List KB:=[.cells 141 [.all 2,.d (.int .i64 w.limit),.d (.bool w.full),.map 1],.map [EK.str] false false (restsM w.rests),.row 5 1 w.buf.length .iff (bytesF w.buf)]
structure Wr.Ok(w:Wr):Prop where
 lo : -9223372036854775808≤w.limit
 hi:w.limit≤1048576
 len:w.buf.length=0∨(w.buf.length:Int)≤w.limit
 pl:∀ e ∈ w.rests,0≤e.2∧e.2<16384
def Wr.fits(w:Wr)(s:List UInt8):Bool:=!w.full && (decide (s.length=0) || decide ((s.length:Int)≤w.limit - w.buf.length))
def Wr.piece(w:Wr)(s:List UInt8):Wr:=if w.fits s then { w with buf:=w.buf++s } else { w with full:=true }
theorem Wr.Ok.piece{w:Wr}(h:w.Ok)(s:List UInt8):(w.piece s).Ok:=by
 unfold Wr.piece
 split
 ·rename_i hf
  refine⟨h.lo,h.hi,?_,h.pl⟩
  simp only [Wr.fits,Bool.and_eq_true,Bool.or_eq_true,decide_eq_true_eq] at hf
  have:=h.len
  show(w.buf++s).length=0∨_
  rw[List.length_append]
  rcases hf.2 with h0|h1
  ·rcases this with h2|h2
   ·exact .inl (by omega)
   ·exact .inr (by show(w.buf.length+s.length:Nat)≤w.limit;omega)
  ·exact .inr (by show((w.buf.length+s.length:Nat):Int)≤w.limit;omega)
 ·exact⟨h.lo,h.hi,h.len,h.pl⟩
def fndS{α:Type}:List (List UInt8 × α)→List UInt8→Option α
 |[],_=>none
 |e :: l,a=>if a=e.1 then some e.2 else fndS l a
theorem fndS_mem{α:Type}{l:List (List UInt8 × α)}{a:List UInt8}{x:α}(h:fndS l a=some x):(a,x) ∈ l:=by
 induction l with
 |nil=>cases h
 |cons e l ih =>
  simp only [fndS] at h
  split at h
  ·rename_i e1
   cases h
   subst e1
   exact List.mem_cons_self ..
  ·exact List.mem_cons_of_mem _ (ih h)
theorem find_rests(l:List (List UInt8 × Int))(a:List UInt8):findM (restsM l) [.str a]=(fndS l a).map (fun x=>[.d (.int .i64 x)]):=by
 induction l with
 |nil=>rfl
 |cons e l ih =>
  show(if keyEq [.str a] [.str e.1] then some [.d (.int .i64 e.2)] else findM (restsM l) [.str a])=_
  have:keyEq [.str a] [.str e.1]=decide (a=e.1):=by
   rw[Bool.eq_iff_iff]
   simp[keyEq,dEq]
  rw[this,ih,fndS]
  by_cases h:a=e.1 <;> simp[h]
theorem put_rests(l:List (List UInt8 × Int))(a:List UInt8)(x:Int)(h:fndS l a=none):putM (restsM l) [.str a] [.d (.int .i64 x)]=restsM (l++[(a,x)]):=by
 induction l with
 |nil=>rfl
 |cons e l ih =>
  show(if keyEq [.str a] [.str e.1] then _ else ([.str e.1],[.d (.int .i64 e.2)]) :: putM (restsM l) [.str a] [.d (.int .i64 x)])=_
  simp only [fndS] at h
  split at h
  ·cases h
  ·rename_i hne
   have:keyEq [.str a] [.str e.1]=decide (a=e.1):=by
    rw[Bool.eq_iff_iff]
    simp[keyEq,dEq]
   rw[this,ih h]
   simp[hne,restsM]
set_option maxHeartbeats 4000000 in
theorem piece_ok(w:Wr)(hw:w.Ok)(s:List UInt8)(hs:s.length<4611686018427387904):COk Tryz.prog 144 [.ptr 0 0,.d (.str s)] [pk w.fl] (fun r k=>∃ w1,k=[pk (Wr.fl w1)]∧(r=boolD (w.fits s)∧w1=w.piece s)):=by
 refine COk.toThing Wr.fl (pOk_of_run (TT:=TT) (IN:=lookI []) TT_ok INok_nil mixed 1000 Tryz.func144 rfl (enters Tryz.func144 (by kernel_rfl) rfl) 41 (by kernel_rfl) rfl ?_ ?_)
 ·rintro r l ⟨w1,_,rfl,_⟩
  cases w.fits s <;> rfl
 have hlen:=hw.len
 have hhi:=hw.hi
 have hlo:=hw.lo
 conv=>whnf
 refine⟨fun h1=>?_,fun h1=>?_⟩
 ·have hf:w.fits s=false:=by simp[Wr.fits,h1]
  conv=>whnf
  refine⟨[0,1,2],.d .ff,w.fl,rfl,rfl,rfl,?_,_,rfl,by rw[hf];rfl,?_⟩
  ·repeat'(first|exact ⟨⟩|exact rfl|exact fun _=>Iff.rfl|exact fun _ _=>rfl|exact renM_rests _ _|exact(List.length_append ..).symm|exact byteAt_cat _ _|apply And.intro)
  ·unfold Wr.piece
   rw[hf]
   show w=Wr.mk w.buf w.limit true w.rests
   rw[←h1]
 have hwr:IntKind.i64.wrap (w.limit - w.buf.length)=w.limit - w.buf.length:=w64_in _ (by omega)
 have good:(s.length=0∨(s.length:Int)≤w.limit - w.buf.length)→w.fits s=true:=fun h=>by
  simp only[Wr.fits,h1,Bool.not_false,Bool.true_and,Bool.or_eq_true,decide_eq_true_eq]
  exact h
 conv=>whnf
 refine⟨fun h2=>?_,fun h2=>?_⟩
 ·have h2':0<s.length:=by
   have:(s.length:Int) > 0:=of_decide_eq_true h2
   omega
  conv=>whnf
  rw[hwr]
  refine⟨fun h3=>?_,fun h3=>?_⟩
  ·have h3':(s.length:Int) > w.limit - w.buf.length:=of_decide_eq_true h3
   have hf:w.fits s=false:=by
    simp only[Wr.fits,h1,Bool.not_false,Bool.true_and,Bool.or_eq_false_iff,decide_eq_false_iff_not]
    omega
   conv=>whnf
   refine⟨[0,1,2],.d .ff,(w.piece s).fl,rfl,rfl,rfl,?_,_,rfl,by rw[hf];rfl,rfl⟩
   unfold Wr.piece
   rw[hf]
   repeat'(first|exact ⟨⟩|exact rfl|exact fun _=>Iff.rfl|exact fun _ _=>rfl|exact renM_rests _ _|exact(List.length_append ..).symm|exact byteAt_cat _ _|apply And.intro)
  ·have h3':¬ (s.length:Int) > w.limit - w.buf.length:=of_decide_eq_false h3
   have hf:=good (.inr (by omega))
   conv=>whnf
   refine⟨by omega,?_⟩
   conv=>whnf
   refine⟨[0,1,3],.d .tt,(w.piece s).fl,rfl,rfl,rfl,?_,_,rfl,by rw[hf];rfl,rfl⟩
   unfold Wr.piece
   rw[hf]
   repeat'(first|exact ⟨⟩|exact rfl|exact fun _=>Iff.rfl|exact fun _ _=>rfl|exact renM_rests _ _|exact(List.length_append ..).symm|exact byteAt_cat _ _|apply And.intro)
 ·have h2':s.length=0:=by
   have:¬ ((s.length:Int) > 0):=of_decide_eq_false h2
   omega
  have hf:=good (.inl h2')
  conv=>whnf
  refine⟨by omega,?_⟩
  conv=>whnf
  refine⟨[0,1,3],.d .tt,(w.piece s).fl,rfl,rfl,rfl,?_,_,rfl,by rw[hf];rfl,rfl⟩
  unfold Wr.piece
  rw[hf]
  repeat'(first|exact ⟨⟩|exact rfl|exact fun _=>Iff.rfl|exact fun _ _=>rfl|exact renM_rests _ _|exact(List.length_append ..).symm|exact byteAt_cat _ _|apply And.intro)
def be8(n:Int):List Int:=[n.fdiv (2 ^ 56),n.fdiv (2 ^ 48),n.fdiv (2 ^ 40),n.fdiv (2 ^ 32),n.fdiv (2 ^ 24),n.fdiv (2 ^ 16),n.fdiv (2 ^ 8),n.fdiv (2 ^ 0)].map IntKind.u8.wrap
def be(width:Nat)(n:Int):List UInt8:=toBytes ((be8 n).drop (8 - width))
def Wr.num(w:Wr)(width:Nat)(n:Int):Wr:=w.piece (be width n)
set_option maxHeartbeats 4000000 in
theorem num_ok(w:Wr)(hw:w.Ok)(width:Nat)(hd:width=1∨width=2∨width=4∨width=8)(n:Int):COk Tryz.prog 78 [.ptr 0 0,.d (.int .i64 width),.d (.int .u64 n)] [pk w.fl] (fun r k=>∃ w1,k=[pk (Wr.fl w1)]∧(r = .tup []∧w1=w.num width n)):=by
 refine cOk_of_run (TT:=TT) (IN:=lookI [(143,Tryz.f143,1)]) TT_ok (INok_cons INok_nil Tryz.func143 (by kernel_rfl) (by kernel_rfl)) mixed 1000 Tryz.func78 rfl (enters Tryz.func78 (by kernel_rfl) rfl) 26 (by kernel_rfl) ?_
 rcases hd with rfl|rfl|rfl|rfl
 ·conv=>whnf
  repeat(first|(refine brT rfl ?_;conv=>whnf)|(refine brF rfl ?_;conv=>whnf)|(refine .once ?_;conv=>whnf)|(refine⟨by decide,?_⟩;conv=>whnf)|(refine And.intro (Nat.le_of_ble_eq_true rfl) ?_;conv=>whnf))
  refine .rel _ (COk.thing Wr.fl (piece_ok w hw (be 1 n) (by show(1:Nat)<_;omega)) [] [_] _ rfl rfl) (fun r ks' hR=>?_)
  obtain⟨_,w1,⟨rfl,rfl⟩,rfl,rfl⟩:=hR
  conv=>whnf
  exact⟨[0],.tup [],[pk (w.num 1 n).fl],rfl,rfl,rfl,⟨fun _ _ _ _ h=>⟨packed_stable _,h⟩,True.intro⟩,_,rfl,rfl,rfl⟩
 ·conv=>whnf
  repeat(first|(refine brT rfl ?_;conv=>whnf)|(refine brF rfl ?_;conv=>whnf)|(refine .once ?_;conv=>whnf)|(refine⟨by decide,?_⟩;conv=>whnf)|(refine And.intro (Nat.le_of_ble_eq_true rfl) ?_;conv=>whnf))
  refine .rel _ (COk.thing Wr.fl (piece_ok w hw (be 2 n) (by show(2:Nat)<_;omega)) [] [_] _ rfl rfl) (fun r ks' hR=>?_)
  obtain⟨_,w1,⟨rfl,rfl⟩,rfl,rfl⟩:=hR
  conv=>whnf
  exact⟨[0],.tup [],[pk (w.num 2 n).fl],rfl,rfl,rfl,⟨fun _ _ _ _ h=>⟨packed_stable _,h⟩,True.intro⟩,_,rfl,rfl,rfl⟩
 ·conv=>whnf
  repeat(first|(refine brT rfl ?_;conv=>whnf)|(refine brF rfl ?_;conv=>whnf)|(refine .once ?_;conv=>whnf)|(refine⟨by decide,?_⟩;conv=>whnf)|(refine And.intro (Nat.le_of_ble_eq_true rfl) ?_;conv=>whnf))
  refine .rel _ (COk.thing Wr.fl (piece_ok w hw (be 4 n) (by show(4:Nat)<_;omega)) [] [_] _ rfl rfl) (fun r ks' hR=>?_)
  obtain⟨_,w1,⟨rfl,rfl⟩,rfl,rfl⟩:=hR
  conv=>whnf
  exact⟨[0],.tup [],[pk (w.num 4 n).fl],rfl,rfl,rfl,⟨fun _ _ _ _ h=>⟨packed_stable _,h⟩,True.intro⟩,_,rfl,rfl,rfl⟩
 ·conv=>whnf
  repeat(first|(refine brT rfl ?_;conv=>whnf)|(refine brF rfl ?_;conv=>whnf)|(refine .once ?_;conv=>whnf)|(refine⟨by decide,?_⟩;conv=>whnf)|(refine And.intro (Nat.le_of_ble_eq_true rfl) ?_;conv=>whnf))
  refine .rel _ (COk.thing Wr.fl (piece_ok w hw (be 8 n) (by show(8:Nat)<_;omega)) [] [_] _ rfl rfl) (fun r ks' hR=>?_)
  obtain⟨_,w1,⟨rfl,rfl⟩,rfl,rfl⟩:=hR
  conv=>whnf
  exact⟨[0],.tup [],[pk (w.num 8 n).fl],rfl,rfl,rfl,⟨fun _ _ _ _ h=>⟨packed_stable _,h⟩,True.intro⟩,_,rfl,rfl,rfl⟩
def Wr.nameGo(p:Bool):Nat→Wr→List UInt8→Wr
 |0,w,n=>w.piece n
 |m+1,w,n=>if 1<n.length then
  match fndS w.rests n with
  |some a=>if p then w.num 2 (49152+a) else
   if w.fits (n.take (1+bt n 0)) then nameGo p m (w.piece (n.take (1+bt n 0))) (n.drop (1+bt n 0)) else w.piece (n.take (1+bt n 0))
  |none =>
   if w.fits (n.take (1+bt n 0)) then nameGo p m (if w.buf.length<16384 then { w.piece (n.take (1+bt n 0)) with rests:=w.rests++[(n,(w.buf.length:Int))] } else w.piece (n.take (1+bt n 0))) (n.drop (1+bt n 0))
   else w.piece (n.take (1+bt n 0))
  else w.piece n
def Wr.name(w:Wr)(n:List UInt8)(p:Bool):Wr:=if w.full=true∨¬ isName n then w else Wr.nameGo p n.length w n
def Wr.flL(w:Wr):List (Nat × KB):=[(0,.cells 141 [.all 2,.d (.int .i64 w.limit),.d (.bool w.full),.map 1]),(1,.map [EK.str] false false (restsM w.rests)),(2,.row 5 1 w.buf.length .iff (bytesF w.buf))]
structure NmSt where
 w:Wr
 n:List UInt8
 m:Nat
theorem mapM_rests(σ:Nat→Nat)(l:List (List UInt8 × Int)):mapM σ (restsM l)=restsM l:=by
 induction l with
 |nil=>rfl
 |cons e l ih=>simp[restsM,mapM,mapL,mapV,ih]
def Wr.fx(w:Wr):List KB:=[.cells 141 [.all 4,.d (.int .i64 w.limit),.d (.bool w.full),.map 3],.gone,.gone,.map [EK.str] false false (restsM w.rests),.row 5 1 w.buf.length .iff (bytesF w.buf)]
theorem expl_wr(w:Wr):expl 3 w.fl=w.fx:=by
 show[KB.cells 141 [.all 4,.d (.int .i64 w.limit),.d (.bool w.full),.map 3],.gone,.gone,.map [EK.str] false false (mapM (expS 3) (restsM w.rests)),.row 5 1 w.buf.length .iff (bytesF w.buf)]=_
 rw[mapM_rests]
 rfl
theorem piece_x(w:Wr)(hw:w.Ok)(s:List UInt8)(hs:s.length<4611686018427387904):COk Tryz.prog 144 [.ptr 0 0,.d (.str s)] w.fl (fun r k=>r=boolD (w.fits s)∧k=(w.piece s).fx) :=
 ((
  (piece_ok w hw s hs).imp (R':=fun r l=>∃ k1,l=[pk k1]∧(r=boolD (w.fits s)∧k1=(w.piece s).fl)) (fun r k ⟨w1,h1,h2,h3⟩=>⟨_,h1,h2,by rw[h3]⟩)).explode (by show 0<3;omega) rfl (fun r l ⟨h,_⟩=>by rw[h];cases w.fits s <;> rfl)).imp
  fun r k ⟨k1,⟨h1,h2⟩,h3⟩=>⟨h1,by rw[h3,h2];exact expl_wr _⟩
theorem num_x(w:Wr)(hw:w.Ok)(width:Nat)(hd:width=1∨width=2∨width=4∨width=8)(n:Int):COk Tryz.prog 78 [.ptr 0 0,.d (.int .i64 width),.d (.int .u64 n)] w.fl (fun r k=>r = .tup []∧k=(w.num width n).fx) :=
 ((
  (num_ok w hw width hd n).imp (R':=fun r l=>∃ k1,l=[pk k1]∧(r = .tup []∧k1=(w.num width n).fl)) (fun r k ⟨w1,h1,h2,h3⟩=>⟨_,h1,h2,by rw[h3]⟩)).explode (by show 0<3;omega) rfl (fun r l ⟨h,_⟩=>by rw[h];rfl)).imp
  fun r k ⟨k1,⟨h1,h2⟩,h3⟩=>⟨h1,by rw[h3,h2];exact expl_wr _⟩
set_option maxHeartbeats 8000000 in
theorem name_ok(w:Wr)(hw:w.Ok)(n:List UInt8)(p:Bool):COk Tryz.prog 142 [.ptr 0 0,.d (.str n),.d (.bool p)] [pk w.fl] (fun r k=>∃ w1,k=[pk (Wr.fl w1)]∧(r = .tup []∧w1=w.name n p)):=by
 refine COk.toThing Wr.fl (pOk_of_run (TT:=TT) (IN:=lookI []) TT_ok INok_nil mixed 1000 Tryz.func142 rfl (enters Tryz.func142 (by kernel_rfl) rfl) 74 (by kernel_rfl) rfl ?_ ?_)
 ·rintro r l ⟨w1,_,rfl,_⟩
  rfl
 conv=>whnf
 refine⟨fun h1=>?_,fun h1=>?_⟩
 ·have hf:w.name n p=w:=by simp[Wr.name,h1]
  conv=>whnf
  refine⟨[0,1,2],.tup [],w.fl,rfl,rfl,rfl,?_,_,rfl,rfl,hf.symm⟩
  repeat'(first|exact ⟨⟩|exact rfl|exact fun _=>Iff.rfl|exact fun _ _=>rfl|exact renM_rests _ _|exact(List.length_append ..).symm|exact byteAt_cat _ _|apply And.intro)
 conv=>whnf
 refine .one (.data _ (check_ok n) rfl rfl ?_)
 by_cases hn:isName n
 rotate_left
 ·rw[if_neg hn]
  have hf:w.name n p=w:=by simp[Wr.name,hn]
  conv=>whnf
  refine brT rfl ?_
  conv=>whnf
  refine⟨[0,1,2],.tup [],w.fl,rfl,rfl,rfl,?_,_,rfl,rfl,hf.symm⟩
  repeat'(first|exact ⟨⟩|exact rfl|exact fun _=>Iff.rfl|exact fun _ _=>rfl|exact renM_rests _ _|exact(List.length_append ..).symm|exact byteAt_cat _ _|apply And.intro)
 rw[if_pos hn]
 have hgo0:w.name n p=Wr.nameGo p n.length w n:=by simp[Wr.name,h1,hn]
 obtain⟨hlen0,ls0,hls0,hn0⟩:=(isName_iff n).1 hn
 conv=>whnf
 refine brF rfl ?_
 conv=>whnf
 refine .inv NmSt (fun s=>s.w.Ok∧s.w.full=false∧(∃ ls,(∀ l ∈ ls,okL l)∧s.n=mk ls∧s.n.length≤s.m)∧s.n.length≤255∧Wr.nameGo p s.m s.w s.n=w.name n p) (fun s=>[(1,.d (.str s.n))]) (fun s=>s.w.flL) (fun s=>s.m) ⟨⟨w,n,n.length⟩,[0,1,2],⟨hw,h1,⟨ls0,hls0,hn0,Nat.le_refl _⟩,hlen0,hgo0.symm⟩,?_⟩ ?_
 ·conv=>whnf
  repeat'(first|exact ⟨⟩|exact rfl|exact fun _=>Iff.rfl|exact fun _ _=>rfl|exact renM_rests _ _|exact(List.length_append ..).symm|exact byteAt_cat _ _|apply And.intro)
 clear hgo0 hn0 hls0 hlen0
 intro s hs
 obtain⟨hw,hfull,⟨ls,hls,hsn,hm⟩,hlen,hgo⟩:=hs
 conv=>whnf
 generalize s.w=w1 at hw hfull hgo ⊢
 generalize s.n=n1 at hsn hlen hgo hm ⊢
 generalize s.m=m1 at hm hgo ⊢
 refine⟨fun k1=>?_,fun k1=>?_⟩
 ·have k1':1<n1.length:=by
   have:(n1.length:Int) > 1:=of_decide_eq_true k1
   omega
  conv=>whnf
  refine⟨_,find_rests w1.rests n1,?_⟩
  obtain⟨l,ls',rfl⟩:∃ l ls',ls=l :: ls':=by
   cases ls with
   |nil=>rw [hsn] at k1';simp [mk] at k1'
   |cons l ls'=>exact⟨l,ls',rfl⟩
  have hl:=hls l (List.mem_cons_self ..)
  have hls':∀ x ∈ ls',okL x:=fun x hx=>hls x (List.mem_cons_of_mem _ hx)
  have hb:bt n1 0=l.length:=by rw[hsn];exact bt_lab l (mk ls') hl
  have htk:n1.take (1+l.length)=lab l:=by rw[hsn];exact take_lab l (mk ls')
  have hdr:n1.drop (1+l.length)=mk ls':=by rw[hsn];exact drop_lab l (mk ls')
  have hnl:n1.length=1+l.length+(mk ls').length:=by rw[hsn,mk,List.length_append,lab_len]
  have hby:byteAt n1 0=(l.length:Int):=by rw[show(0:Int)=((0:Nat):Int) from rfl,bt_eq,hb]
  have hl2:=hl.2
  have hsz:IntKind.i64.wrap (1+IntKind.i64.wrap (byteAt n1 0))=((1+l.length:Nat):Int):=by
   rw[hby,w64_in (l.length:Int) (by omega),w64_in _ (by omega)]
   omega
  have hs1:sub n1 0 ((1+l.length:Nat):Int)=lab l:=by
   unfold sub
   rw[Int.toNat_natCast]
   simpa using htk
  have hs2:sub n1 ((1+l.length:Nat):Int) (n1.length:Int)=mk ls':=by
   unfold sub
   rw[Int.toNat_natCast,Int.toNat_natCast,hdr,List.take_of_length_le (by omega)]
  obtain⟨m2,rfl⟩:∃ m2,m1=m2+1:=⟨m1 - 1,by omega⟩
  have hpo:=hw.piece (lab l)
  have hll:(lab l).length<4611686018427387904:=by rw[lab_len];omega
  rcases hq:fndS w1.rests n1 with _|a
  ·have hgo2:(if w1.fits (lab l) then Wr.nameGo p m2 (if w1.buf.length<16384 then { w1.piece (lab l) with rests:=w1.rests++[(n1,(w1.buf.length:Int))] } else w1.piece (lab l)) (mk ls') else w1.piece (lab l))=w.name n p:=by
    rw[←hgo,Wr.nameGo,if_pos k1',hq,hb,htk,hdr]
   conv=>whnf
   refine⟨by omega,?_⟩
   conv=>whnf
   rw[hsz]
   refine⟨by omega,?_⟩
   conv=>whnf
   rw[hs1]
   refine .rel _ (piece_x w1 hw (lab l) hll) (fun r ks' hR=>?_)
   obtain⟨rfl,rfl⟩:=hR
   cases hf:w1.fits (lab l)
   ·rw [hf] at hgo2
    conv=>whnf
    refine⟨[0,3,4],.tup [],(w1.piece (lab l)).fl,rfl,rfl,rfl,?_,_,rfl,rfl,hgo2⟩
    repeat'(first|exact ⟨⟩|exact rfl|exact fun _=>Iff.rfl|exact fun _ _=>rfl|exact renM_rests _ _|exact(List.length_append ..).symm|exact byteAt_cat _ _|apply And.intro)
   ·rw [hf] at hgo2
    have hfull2:(w1.piece (lab l)).full=false:=by unfold Wr.piece;rw[if_pos hf];exact hfull
    conv=>whnf
    have hrs:(w1.piece (lab l)).rests=w1.rests:=by unfold Wr.piece;split <;> rfl
    refine⟨fun k2=>?_,fun k2=>?_⟩
    ·have k2':w1.buf.length<16384:=by
      have:(w1.buf.length:Int)<16384:=of_decide_eq_true k2
      omega
     rw [if_pos rfl,if_pos k2'] at hgo2
     conv=>whnf
     rw[hrs]
     refine⟨_,put_rests w1.rests n1 _ hq,?_⟩
     conv=>whnf
     refine⟨by omega,?_⟩
     conv=>whnf
     rw[hs2]
     refine⟨⟨{ w1.piece (lab l) with rests:=w1.rests++[(n1,(w1.buf.length:Int))] },mk ls',m2⟩,[0,3,4],⟨⟨hpo.lo,hpo.hi,hpo.len,fun e he=>?_⟩,hfull2,⟨ls',hls',rfl,by show(mk ls').length≤m2;omega⟩,by show(mk ls').length≤255;omega,hgo2⟩,by show m2<m2+1;omega,?_⟩
     rotate_left
     ·conv=>whnf
      repeat'(first|exact ⟨⟩|exact rfl|exact fun _=>Iff.rfl|exact fun _ _=>rfl|exact renM_rests _ _|exact(List.length_append ..).symm|exact byteAt_cat _ _|apply And.intro)
     rcases List.mem_append.1 he with he|he
     ·exact hw.pl e he
     ·rw[List.mem_singleton.1 he]
      show 0≤(w1.buf.length:Int)∧(w1.buf.length:Int)<16384
      omega
    ·have k2':¬ w1.buf.length<16384:=by
      have:¬ (w1.buf.length:Int)<16384:=of_decide_eq_false k2
      omega
     rw [if_pos rfl,if_neg k2'] at hgo2
     conv=>whnf
     refine⟨by omega,?_⟩
     conv=>whnf
     rw[hs2]
     refine⟨⟨w1.piece (lab l),mk ls',m2⟩,[0,3,4],⟨hpo,hfull2,⟨ls',hls',rfl,by show(mk ls').length≤m2;omega⟩,by show(mk ls').length≤255;omega,hgo2⟩,by show m2<m2+1;omega,?_⟩
     conv=>whnf
     repeat'(first|exact ⟨⟩|exact rfl|exact fun _=>Iff.rfl|exact fun _ _=>rfl|exact renM_rests _ _|exact(List.length_append ..).symm|exact byteAt_cat _ _|apply And.intro)
  ·have hpl:=hw.pl _ (fndS_mem hq)
   have hor:bits .or .u64 49152 (IntKind.u64.wrap a)=49152+a:=by
    obtain ⟨a',rfl⟩:∃ a':Nat,a=(a':Int):=⟨a.toNat,by have:=hpl.1;simp only at this;omega⟩
    have h1:a'<16384:=by have:=hpl.2;simp only at this;omega
    rw[IntKind.wrap_u64,show((a':Int) % 18446744073709551616)=(a':Int) by omega]
    have:=u64_or_nat 49152 a' (by omega) (by omega)
    rw [show ((49152:Nat):Int)=49152 from rfl] at this
    rw[this,←Nat.two_pow_add_eq_or_of_lt (i:=14) (show a'<2 ^ 14 by omega) 3]
    omega
   conv=>whnf
   refine⟨fun kp=>?_,fun kp=>?_⟩
   ·have hfin:w1.num 2 (49152+a)=w.name n p:=by rw[←hgo,Wr.nameGo,if_pos k1',hq,kp];rfl
    conv=>whnf
    rw[hor]
    refine .rel _ (num_x w1 hw 2 (.inr (.inl rfl)) (49152+a)) (fun r ks' hR=>?_)
    obtain⟨rfl,rfl⟩:=hR
    conv=>whnf
    refine⟨[0,3,4],.tup [],(w1.num 2 (49152+a)).fl,rfl,rfl,rfl,?_,_,rfl,rfl,hfin⟩
    repeat'(first|exact ⟨⟩|exact rfl|exact fun _=>Iff.rfl|exact fun _ _=>rfl|exact renM_rests _ _|exact(List.length_append ..).symm|exact byteAt_cat _ _|apply And.intro)
   ·have hgo2:(if w1.fits (lab l) then Wr.nameGo p m2 (w1.piece (lab l)) (mk ls') else w1.piece (lab l))=w.name n p:=by
     rw[←hgo,Wr.nameGo,if_pos k1',hq,kp,hb,htk,hdr]
     rfl
    conv=>whnf
    refine⟨by omega,?_⟩
    conv=>whnf
    rw[hsz]
    refine⟨by omega,?_⟩
    conv=>whnf
    rw[hs1]
    refine .rel _ (piece_x w1 hw (lab l) hll) (fun r ks' hR=>?_)
    obtain⟨rfl,rfl⟩:=hR
    cases hf:w1.fits (lab l)
    ·rw [hf] at hgo2
     conv=>whnf
     refine⟨[0,3,4],.tup [],(w1.piece (lab l)).fl,rfl,rfl,rfl,?_,_,rfl,rfl,hgo2⟩
     repeat'(first|exact ⟨⟩|exact rfl|exact fun _=>Iff.rfl|exact fun _ _=>rfl|exact renM_rests _ _|exact(List.length_append ..).symm|exact byteAt_cat _ _|apply And.intro)
    ·rw [hf] at hgo2
     have hfull2:(w1.piece (lab l)).full=false:=by unfold Wr.piece;rw[if_pos hf];exact hfull
     conv=>whnf
     refine⟨by omega,?_⟩
     conv=>whnf
     rw[hs2]
     refine⟨⟨w1.piece (lab l),mk ls',m2⟩,[0,3,4],⟨hpo,hfull2,⟨ls',hls',rfl,by show(mk ls').length≤m2;omega⟩,by show(mk ls').length≤255;omega,hgo2⟩,by show m2<m2+1;omega,?_⟩
     conv=>whnf
     repeat'(first|exact ⟨⟩|exact rfl|exact fun _=>Iff.rfl|exact fun _ _=>rfl|exact renM_rests _ _|exact(List.length_append ..).symm|exact byteAt_cat _ _|apply And.intro)
 ·have k1':n1.length=1:=by
   have:¬ (n1.length:Int) > 1:=of_decide_eq_false k1
   have:=mk_pos ls
   rw [←hsn] at this
   omega
  conv=>whnf
  refine .rel _ (piece_x w1 hw n1 (by omega)) (fun r ks' hR=>?_)
  obtain⟨rfl,rfl⟩:=hR
  have hfin:w1.piece n1=w.name n p:=by
   rw[←hgo]
   cases m1 with
   |zero=>rfl
   |succ m=>rw[Wr.nameGo,if_neg (by omega)]
  conv=>whnf
  refine⟨[0,3,4],.tup [],(w1.piece n1).fl,rfl,rfl,rfl,?_,_,rfl,rfl,hfin⟩
  repeat'(first|exact ⟨⟩|exact rfl|exact fun _=>Iff.rfl|exact fun _ _=>rfl|exact renM_rests _ _|exact(List.length_append ..).symm|exact byteAt_cat _ _|apply And.intro)
end Go.Proofs.YtdfdlbnojmlpiaaGreatDoor
namespace Go.Proofs.YtdfdlbnojmlpiaaGreatDoor
open Go Go.Eng
set_option maxRecDepth 100000
set_option maxHeartbeats 4000000 in
theorem wlen_ok(w:Wr):COk Tryz.prog 31 [.ptr 0 0] [pk w.fl] (fun r k=>∃ w1,k=[pk (Wr.fl w1)]∧(r = .d (.int .i64 w.buf.length)∧w1=w)):=by
 refine COk.toThing Wr.fl (pOk_of_run (TT:=TT) (IN:=lookI []) TT_ok INok_nil mixed 1000 Tryz.func31 rfl (enters Tryz.func31 (by kernel_rfl) rfl) 9 (by kernel_rfl) rfl ?_ ?_)
 ·rintro r l ⟨w1,_,rfl,_⟩
  rfl
 conv=>whnf
 refine⟨[0,1,2],.d (.int .i64 w.buf.length),w.fl,rfl,rfl,rfl,?_,_,rfl,rfl,rfl⟩
 repeat'(first|exact ⟨⟩|exact rfl|exact fun _=>Iff.rfl|exact fun _ _=>rfl|exact renM_rests _ _|exact(List.length_append ..).symm|exact byteAt_cat _ _|apply And.intro)
set_option maxHeartbeats 4000000 in
theorem out_ok(w:Wr):COk Tryz.prog 32 [.ptr 0 0] [pk w.fl] (fun r k=>∃ w1,k=[pk (Wr.fl w1)]∧(r=(if w.full then .tup [.d (.str []),.d (.int .i64 7)] else .tup [.d (.str w.buf),.d (.int .i64 0)])∧w1=w)):=by
 refine COk.toThing Wr.fl (pOk_of_run (TT:=TT) (IN:=lookI []) TT_ok INok_nil mixed 1000 Tryz.func32 rfl (enters Tryz.func32 (by kernel_rfl) rfl) 14 (by kernel_rfl) rfl ?_ ?_)
 ·rintro r l ⟨w1,_,rfl,_⟩
  split <;> rfl
 conv=>whnf
 refine⟨fun h1=>?_,fun h1=>?_⟩
 ·conv=>whnf
  rw[h1]
  refine⟨[0,1,2],.tup [.d (.str []),.d (.int .i64 7)],w.fl,rfl,rfl,rfl,?_,_,rfl,rfl,rfl⟩
  repeat'(first|exact ⟨⟩|exact rfl|exact fun _=>Iff.rfl|exact fun _ _=>rfl|exact renM_rests _ _|exact(List.length_append ..).symm|exact byteAt_cat _ _|apply And.intro)
 ·conv=>whnf
  refine⟨fun i _=>⟨_,rfl⟩,?_⟩
  conv=>whnf
  rw[h1,bytesOf_bytesF]
  refine⟨[0,1,2],.tup [.d (.str w.buf),.d (.int .i64 0)],w.fl,rfl,rfl,rfl,?_,_,rfl,rfl,rfl⟩
  repeat'(first|exact ⟨⟩|exact rfl|exact fun _=>Iff.rfl|exact fun _ _=>rfl|exact renM_rests _ _|exact(List.length_append ..).symm|exact byteAt_cat _ _|apply And.intro)
set_option maxHeartbeats 4000000 in
theorem wnew_ok(limit:Int):COk Tryz.prog 29 [.d (.int .i64 limit)] [] (fun r k=>r = .ptr 0 0∧k=[pk (Wr.fl ⟨[],limit,false,[]⟩)]):=by
 have h:COk Tryz.prog 29 [.d (.int .i64 limit)] [] (fun r k=>r = .ptr 0 0∧k=[.cells 141 [nilS,.d (.int .i64 limit),.d (.bool false),.map 1],.map [EK.str] false false []]):=by
  refine cOk_of_run (TT:=TT) (IN:=lookI []) TT_ok INok_nil mixed 1000 Tryz.func29 rfl (enters Tryz.func29 (by kernel_rfl) rfl) 6 (by kernel_rfl) ?_
  conv=>whnf
  refine⟨[1,0],.ptr 0 0,_,rfl,rfl,rfl,?_,rfl,rfl⟩
  repeat'(first|exact ⟨⟩|exact rfl|exact fun _=>Iff.rfl|exact fun _ _=>rfl|exact renM_ent rfl _|apply And.intro)
 refine((h.nilCell (R':=fun r k=>r = .ptr 0 0∧k=Wr.fl ⟨[],limit,false,[]⟩) 5 1 (fun s k hh=>by obtain⟨rfl,rfl⟩:=hh;exact .inr ⟨0,0,_,_,_,_,bytesF [],rfl,rfl,rfl,rfl⟩)).packNew (fun s k ⟨h1,_⟩=>by rw[h1];rfl)).imp (fun s k ⟨k1,h1,h2,h3⟩=>⟨h2,by rw[h1,h3]⟩)
theorem u8_byte(n:Int):((UInt8.ofNat (IntKind.u8.wrap n).toNat).toNat:Int)=IntKind.u8.wrap n:=by
 have h:0≤IntKind.u8.wrap n∧IntKind.u8.wrap n<256:=by rw[IntKind.wrap_u8];omega
 rw[toNat_ofNat (by omega)]
 omega
def two(s:List UInt8)(k:Nat)(a b:UInt8):List UInt8:=s.take k++(a :: b :: s.drop (k+2))
theorem two_len(s:List UInt8)(k:Nat)(a b:UInt8)(h:k+2≤s.length):(two s k a b).length=s.length:=by
 simp[two];omega
theorem two_row(s:List UInt8)(k:Nat)(x y:Int)(h:k+2≤s.length)(i:Nat)(hi:i<s.length) :
 midF k 2 (bytesF s) (chunk [.int .u8 (IntKind.u8.wrap x),.int .u8 (IntKind.u8.wrap y)] 1) i=bytesF (two s k (UInt8.ofNat (IntKind.u8.wrap x).toNat) (UInt8.ofNat (IntKind.u8.wrap y).toNat)) i:=by
 have hk:(s.take k).length=k:=by simp;omega
 unfold midF
 split
 ·rename_i hc
  have:i=k∨i=k+1:=by omega
  rcases this with rfl|rfl
  ·rw[Nat.sub_self]
   show[DV.int .u8 (IntKind.u8.wrap x)]=_
   unfold bytesF byteAt two
   rw[Int.toNat_natCast,List.getElem?_append_right (by omega),hk,Nat.sub_self]
   simp only[List.getElem?_cons_zero,Option.getD_some]
   rw[u8_byte]
  ·rw[show k+1 - k=1 by omega]
   show[DV.int .u8 (IntKind.u8.wrap y)]=_
   unfold bytesF byteAt two
   rw[Int.toNat_natCast,List.getElem?_append_right (by omega),hk,show k+1 - k=1 by omega]
   simp only[List.getElem?_cons_succ,List.getElem?_cons_zero,Option.getD_some]
   rw[u8_byte]
 ·rename_i hc
  unfold bytesF byteAt two
  rw[Int.toNat_natCast]
  congr 3
  by_cases hik:i<k
  ·rw[List.getElem?_append_left (by omega),List.getElem?_take,if_pos hik]
  ·rw[List.getElem?_append_right (by omega),hk]
   obtain⟨j,rfl⟩:∃ j,i=k+2+j:=⟨i - (k+2),by omega⟩
   rw[show k+2+j - k=j+1+1 by omega]
   simp only[List.getElem?_cons_succ,List.getElem?_drop]
def Wr.set(w:Wr)(at_ n:Int):Wr:=if at_<0∨at_ > w.buf.length - 2 then w else { w with buf:=two w.buf at_.toNat (UInt8.ofNat (IntKind.u8.wrap (n.fdiv 256)).toNat) (UInt8.ofNat (IntKind.u8.wrap n).toNat) }
set_option maxHeartbeats 4000000 in
theorem wset_ok(w:Wr)(hw:w.Ok)(at_ n:Int):COk Tryz.prog 80 [.ptr 0 0,.d (.int .i64 at_),.d (.int .u16 n)] [pk w.fl] (fun r k=>∃ w1,k=[pk (Wr.fl w1)]∧(r = .tup []∧w1=w.set at_ n)):=by
 refine COk.toThing Wr.fl (pOk_of_run (TT:=TT) (IN:=lookI []) TT_ok INok_nil mixed 1000 Tryz.func80 rfl (enters Tryz.func80 (by kernel_rfl) rfl) 34 (by kernel_rfl) rfl ?_ ?_)
 ·rintro r l ⟨w1,_,rfl,_⟩
  rfl
 conv=>whnf
 refine⟨fun h1=>?_,fun h1=>?_⟩
 ·conv=>whnf
  have h1':at_<0:=of_decide_eq_true h1
  refine⟨[0,1,2],.tup [],w.fl,rfl,rfl,rfl,?_,_,rfl,rfl,by unfold Wr.set;rw[if_pos (.inl h1')]⟩
  repeat'(first|exact ⟨⟩|exact rfl|exact fun _=>Iff.rfl|exact fun _ _=>rfl|exact renM_rests _ _|exact(List.length_append ..).symm|exact byteAt_cat _ _|apply And.intro)
 have h1':¬ at_<0:=of_decide_eq_false h1
 have hlen:=hw.len
 have hhi:=hw.hi
 have hwr:IntKind.i64.wrap ((w.buf.length:Int) - 2)=w.buf.length - 2:=w64_in _ (by omega)
 conv=>whnf
 rw[hwr]
 refine⟨fun h2=>?_,fun h2=>?_⟩
 ·have h2':at_ > w.buf.length - 2:=of_decide_eq_true h2
  conv=>whnf
  refine⟨[0,1,2],.tup [],w.fl,rfl,rfl,rfl,?_,_,rfl,rfl,by unfold Wr.set;rw[if_pos (.inr h2')]⟩
  repeat'(first|exact ⟨⟩|exact rfl|exact fun _=>Iff.rfl|exact fun _ _=>rfl|exact renM_rests _ _|exact(List.length_append ..).symm|exact byteAt_cat _ _|apply And.intro)
 ·have h2':¬ at_ > w.buf.length - 2:=of_decide_eq_false h2
  conv=>whnf
  refine⟨by decide,?_⟩
  conv=>whnf
  refine⟨by omega,?_⟩
  conv=>whnf
  refine⟨by decide,?_⟩
  conv=>whnf
  refine⟨⟨by show 2≤_;omega,by omega⟩,?_⟩
  have h3:at_.toNat+2≤w.buf.length:=by omega
  conv=>whnf
  refine⟨[0,1,2],.tup [],(w.set at_ n).fl,rfl,rfl,rfl,?_,_,rfl,rfl,rfl⟩
  unfold Wr.set
  rw[if_neg (by omega)]
  repeat'(first|exact ⟨⟩|exact rfl|exact renM_rests _ _|exact(two_len _ _ _ _ h3).symm|exact two_row _ _ _ _ h3|apply And.intro)
end Go.Proofs.YtdfdlbnojmlpiaaGreatDoor
namespace Go.Proofs.YtdfdlbnojmlpiaaGreatDoor
open Go Go.Eng
structure Rdr where
 s:List UInt8
 p:Nat
 bad:Bool
def Rdr.kb(r:Rdr):KB:=.cells 147 [.d (.str r.s),.d (.int .i64 r.p),.d (.bool r.bad)]
structure Rdr.Ok(r:Rdr):Prop where
 len:r.s.length<4611686018427387904
 p:r.p≤r.s.length
def Rdr.raw(r:Rdr)(n:Int):Rdr × List UInt8:=if r.bad then (r,[]) else if n<0∨n > r.s.length - r.p then ({ r with bad:=true },[]) else ({ r with p:=r.p+n.toNat },(r.s.drop r.p).take n.toNat)
theorem Rdr.Ok.raw{r:Rdr}(h:r.Ok)(n:Int):(r.raw n).1.Ok:=by
 unfold Rdr.raw
 split
 ·exact h
 ·split
  ·exact⟨h.len,h.p⟩
  ·refine⟨h.len,?_⟩
   show r.p+n.toNat≤r.s.length
   omega
set_option maxRecDepth 100000
set_option maxHeartbeats 4000000 in
theorem open_ok(s:List UInt8):COk Tryz.prog 33 [.d (.str s)] [] (fun r k=>r = .ptr 0 0∧k=[Rdr.kb ⟨s,0,false⟩]):=by
 refine cOk_of_run (TT:=TT) (IN:=lookI []) TT_ok INok_nil mixed 1000 Tryz.func33 rfl (enters Tryz.func33 (by kernel_rfl) rfl) 5 (by kernel_rfl) ?_
 conv=>whnf
 refine⟨[0],.ptr 0 0,_,rfl,rfl,rfl,?_,rfl,rfl⟩
 repeat'(first|exact ⟨⟩|exact rfl|exact fun _=>Iff.rfl|exact fun _ _=>rfl|exact renM_ent rfl _|apply And.intro)
set_option maxHeartbeats 4000000 in
theorem raw_ok(r:Rdr)(hr:r.Ok)(n:Int)(hn : -9223372036854775808≤n∧n≤9223372036854775807):COk Tryz.prog 150 [.ptr 0 0,.d (.int .i64 n)] [r.kb] (fun s k=>∃ r1,k=[Rdr.kb r1]∧(s = .d (.str (r.raw n).2)∧r1=(r.raw n).1)):=by
 refine cOk_of_run (TT:=TT) (IN:=lookI [(83,Tryz.f83,1),(149,Tryz.f149,1)]) TT_ok (INok_cons (INok_cons INok_nil Tryz.func149 (by kernel_rfl) (by kernel_rfl)) Tryz.func83 (by kernel_rfl) (by kernel_rfl)) mixed 1000 Tryz.func150 rfl (enters Tryz.func150 (by kernel_rfl) rfl) 46 (by kernel_rfl) ?_
 have hlen:=hr.len
 have hp:=hr.p
 have hwr:IntKind.i64.wrap ((r.s.length:Int) - r.p)=(r.s.length:Int) - r.p:=w64_in _ (by omega)
 conv=>whnf
 refine⟨fun h1=>?_,fun h1=>?_⟩
 ·have e:r.raw n=(r,[]):=by unfold Rdr.raw;rw[if_pos h1]
  rw[e]
  conv=>whnf
  refine⟨[0],.d (.str []),[r.kb],rfl,rfl,rfl,?_,_,rfl,rfl,rfl⟩
  repeat'(first|exact ⟨⟩|exact rfl|exact fun _=>Iff.rfl|exact fun _ _=>rfl|exact renM_ent rfl _|apply And.intro)
 conv=>whnf
 refine⟨fun h2=>?_,fun h2=>?_⟩
 ·have h2':n<0:=of_decide_eq_true h2
  have e:r.raw n=({ r with bad:=true },[]):=by unfold Rdr.raw;rw[if_neg (by simp[h1]),if_pos (.inl h2')]
  rw[e]
  conv=>whnf
  repeat(first|(refine brT rfl ?_;conv=>whnf)|(refine brF rfl ?_;conv=>whnf)|(refine .once ?_;conv=>whnf)|(refine⟨by decide,?_⟩;conv=>whnf)|(refine And.intro (Nat.le_of_ble_eq_true rfl) ?_;conv=>whnf))
  refine⟨[0],.d (.str []),[Rdr.kb { r with bad:=true }],rfl,rfl,rfl,?_,_,rfl,rfl,rfl⟩
  repeat'(first|exact ⟨⟩|exact rfl|exact fun _=>Iff.rfl|exact fun _ _=>rfl|exact renM_ent rfl _|apply And.intro)
 have h2':¬ n<0:=of_decide_eq_false h2
 conv=>whnf
 rw[hwr]
 refine⟨fun h3=>?_,fun h3=>?_⟩
 ·have h3':n > (r.s.length:Int) - r.p:=of_decide_eq_true h3
  have e:r.raw n=({ r with bad:=true },[]):=by unfold Rdr.raw;rw[if_neg (by simp[h1]),if_pos (.inr h3')]
  rw[e]
  conv=>whnf
  repeat(first|(refine brT rfl ?_;conv=>whnf)|(refine brF rfl ?_;conv=>whnf)|(refine .once ?_;conv=>whnf)|(refine⟨by decide,?_⟩;conv=>whnf)|(refine And.intro (Nat.le_of_ble_eq_true rfl) ?_;conv=>whnf))
  refine⟨[0],.d (.str []),[Rdr.kb { r with bad:=true }],rfl,rfl,rfl,?_,_,rfl,rfl,rfl⟩
  repeat'(first|exact ⟨⟩|exact rfl|exact fun _=>Iff.rfl|exact fun _ _=>rfl|exact renM_ent rfl _|apply And.intro)
 ·have h3':¬ n > (r.s.length:Int) - r.p:=of_decide_eq_false h3
  have e:r.raw n=({ r with p:=r.p+n.toNat },(r.s.drop r.p).take n.toNat):=by unfold Rdr.raw;rw[if_neg (by simp[h1]),if_neg (by omega)]
  have e1:IntKind.i64.wrap ((r.p:Int)+n)=((r.p+n.toNat:Nat):Int):=by rw[w64_in _ (by omega)];omega
  have e2:IntKind.i64.wrap (((r.p+n.toNat:Nat):Int) - n)=(r.p:Int):=by rw[w64_in _ (by omega)];omega
  have e3:sub r.s (r.p:Int) ((r.p+n.toNat:Nat):Int)=(r.s.drop r.p).take n.toNat:=by
   unfold sub
   rw[Int.toNat_natCast,Int.toNat_natCast,show r.p+n.toNat - r.p=n.toNat by omega]
  rw[e]
  conv=>whnf
  rw[e1,e2]
  refine⟨by omega,?_⟩
  rw[e3]
  conv=>whnf
  refine⟨[0],.d (.str ((r.s.drop r.p).take n.toNat)),[Rdr.kb { r with p:=r.p+n.toNat }],rfl,rfl,rfl,?_,_,rfl,rfl,rfl⟩
  repeat'(first|exact ⟨⟩|exact rfl|exact fun _=>Iff.rfl|exact fun _ _=>rfl|exact renM_ent rfl _|apply And.intro)
theorem rdr_fam{P:Program}{f:FuncId}{al al':List SV}{a:Rdr}{Q:SV→Rdr→Prop}(h:COk P f al [a.kb] (fun s k=>∃ a1,k=[Rdr.kb a1]∧Q s a1))(pre rest:List KB)(σ:Nat→Nat)(hσ:σ=sig (List.range' pre.length 1) (pre.length+(1+rest.length)))(ha:mapL σ al=al') :
 COk P f al' (pre++(a.kb :: rest)) (fun s k=>∃ s0 a1,Q s0 a1∧s=mapV σ s0∧k=pre++(Rdr.kb a1 :: rest)) :=
 COk.fam (fun a _=>[Rdr.kb a]) 1 (fun _ _=>rfl) (fun _ _ _ _=>rfl) h pre rest σ hσ ha
theorem Rdr.raw_len{r:Rdr}(n:Nat)(h:(r.raw n).1.bad=false):(r.raw n).2.length=n:=by
 unfold Rdr.raw at h ⊢
 split
 ·rename_i hb;rw [if_pos hb] at h;rw [hb] at h;cases h
 ·rename_i hb
  rw [if_neg hb] at h
  split
  ·rename_i hc;rw [if_pos hc] at h;cases h
  ·simp
   omega
theorem acc1(x y:Nat)(hx:x<72057594037927936)(hy:y<256):bits .or .u64 (IntKind.u64.wrap ((x:Int) * 2 ^ 8)) (IntKind.u64.wrap (y:Int))=((x * 256+y:Nat):Int):=by
 have e1:IntKind.u64.wrap ((x:Int) * 2 ^ 8)=((x * 256:Nat):Int):=by rw[IntKind.wrap_u64];omega
 have e2:IntKind.u64.wrap (y:Int)=(y:Int):=by rw[IntKind.wrap_u64];omega
 rw[e1,e2,u64_or_nat _ _ (by omega) (by omega)]
 have:=Nat.two_pow_add_eq_or_of_lt (i:=8) (show y<2 ^ 8 by omega) x
 rw[show x * 256=2 ^ 8 * x by omega,←this]
theorem acc8(y0 y1 y2 y3 y4 y5 y6 y7:Nat)(h0:y0<256)(h1:y1<256)(h2:y2<256)(h3:y3<256)(h4:y4<256)(h5:y5<256)(h6:y6<256)(h7:y7<256) :
 bits .or .u64 (IntKind.u64.wrap (bits .or .u64 (IntKind.u64.wrap (bits .or .u64 (IntKind.u64.wrap (bits .or .u64 (IntKind.u64.wrap (bits .or .u64 (IntKind.u64.wrap (bits .or .u64 (IntKind.u64.wrap (bits .or .u64 (IntKind.u64.wrap (bits .or .u64 (IntKind.u64.wrap (0 * 2 ^ 8)) (IntKind.u64.wrap (y0:Int)) * 2 ^ 8)) (IntKind.u64.wrap (y1:Int)) * 2 ^ 8)) (IntKind.u64.wrap (y2:Int)) * 2 ^ 8)) (IntKind.u64.wrap (y3:Int)) * 2 ^ 8)) (IntKind.u64.wrap (y4:Int)) * 2 ^ 8)) (IntKind.u64.wrap (y5:Int)) * 2 ^ 8)) (IntKind.u64.wrap (y6:Int)) * 2 ^ 8)) (IntKind.u64.wrap (y7:Int)) =
 ((((((((((0 * 256+y0) * 256+y1) * 256+y2) * 256+y3) * 256+y4) * 256+y5) * 256+y6) * 256+y7:Nat)):Int):=by
 have e0:=acc1 0 y0 (by omega) h0
 rw [show ((0:Nat):Int)=0 from rfl] at e0
 rw[e0,acc1 _ y1 (by omega) h1,acc1 _ y2 (by omega) h2,acc1 _ y3 (by omega) h3,acc1 _ y4 (by omega) h4,acc1 _ y5 (by omega) h5,acc1 _ y6 (by omega) h6,acc1 _ y7 (by omega) h7]
theorem len_cases{α:Type}{l:List α}{n:Nat}(h:l.length=n+1):∃ a t,l=a :: t∧t.length=n:=by
 cases l with
 |nil=>simp at h
 |cons a t=>exact⟨a,t,rfl,by simpa using h⟩
def numOf(s:List UInt8):Nat:=s.foldl (fun n b=>n * 256+b.toNat) 0
def wideN(n:Nat):Prop:=n=1∨n=2∨n=4∨n=8
def Rdr.num(r:Rdr)(width:Nat):Rdr × Nat:=((r.raw width).1,if (r.raw width).1.bad then 0 else numOf (r.raw width).2)
set_option maxHeartbeats 4000000 in
theorem rnum_ok(r:Rdr)(hr:r.Ok)(width:Nat)(hw:wideN width):COk Tryz.prog 82 [.ptr 0 0,.d (.int .i64 width)] [r.kb] (fun s k=>∃ r1,k=[Rdr.kb r1]∧(s = .d (.int .u64 (r.num width).2)∧r1=(r.num width).1)):=by
 refine cOk_of_run (TT:=TT) (IN:=lookI [(143,Tryz.f143,1),(83,Tryz.f83,1)]) TT_ok (INok_cons (INok_cons INok_nil Tryz.func83 (by kernel_rfl) (by kernel_rfl)) Tryz.func143 (by kernel_rfl) (by kernel_rfl)) mixed 1000 Tryz.func82 rfl (enters Tryz.func82 (by kernel_rfl) rfl) 34 (by kernel_rfl) ?_
 rcases hw with rfl|rfl|rfl|rfl
 ·conv=>whnf
  repeat(first|(refine brT rfl ?_;conv=>whnf)|(refine brF rfl ?_;conv=>whnf)|(refine .once ?_;conv=>whnf)|(refine⟨by decide,?_⟩;conv=>whnf)|(refine And.intro (Nat.le_of_ble_eq_true rfl) ?_;conv=>whnf))
  refine .rel _ (rdr_fam (raw_ok r hr 1 (by omega)) [] [] _ rfl rfl) (fun x ks' hR=>?_)
  obtain⟨_,r1,⟨rfl,rfl⟩,rfl,rfl⟩:=hR
  conv=>whnf
  refine⟨fun h1=>?_,fun h1=>?_⟩
  ·have e:r.num 1=((r.raw 1).1,0):=by unfold Rdr.num;rw[if_pos (show(r.raw ((1:Nat):Int)).1.bad=true from h1)];rfl
   rw[e]
   conv=>whnf
   refine⟨[0],.d (.int .u64 0),[(r.raw 1).1.kb],rfl,rfl,rfl,?_,_,rfl,rfl,rfl⟩
   repeat'(first|exact ⟨⟩|exact rfl|exact fun _=>Iff.rfl|exact fun _ _=>rfl|exact renM_ent rfl _|apply And.intro)
  ·have hrl:(r.raw ((1:Nat):Int)).2.length=1:=Rdr.raw_len 1 h1
   have e:r.num 1=((r.raw 1).1,numOf (r.raw ((1:Nat):Int)).2):=by unfold Rdr.num;rw[if_neg (by rw[show(r.raw ((1:Nat):Int)).1.bad=false from h1];simp)];rfl
   rw[e]
   obtain⟨b0,t0,e0,l0⟩:=len_cases hrl
   have e9:=List.length_eq_zero_iff.1 l0
   subst e9
   rw[e0]
   rw[show(r.raw 1).2=[b0] from e0]
   conv=>whnf
   repeat(first|(refine brT rfl ?_;conv=>whnf)|(refine brF rfl ?_;conv=>whnf)|(refine .once ?_;conv=>whnf)|(refine⟨by decide,?_⟩;conv=>whnf)|(refine And.intro (Nat.le_of_ble_eq_true rfl) ?_;conv=>whnf))
   refine⟨[0],.d (.int .u64 (numOf [b0])),[(r.raw 1).1.kb],rfl,rfl,?_,?_,_,rfl,rfl,rfl⟩
   ·exact congrArg (fun z=>SV.d (DV.int .u64 z)) (acc8 (0) (0) (0) (0) (0) (0) (0) (b0.toNat) (by omega) (by omega) (by omega) (by omega) (by omega) (by omega) (by omega) (UInt8.toNat_lt _))
   ·repeat'(first|exact ⟨⟩|exact rfl|exact fun _=>Iff.rfl|exact fun _ _=>rfl|exact renM_ent rfl _|apply And.intro)
 ·conv=>whnf
  repeat(first|(refine brT rfl ?_;conv=>whnf)|(refine brF rfl ?_;conv=>whnf)|(refine .once ?_;conv=>whnf)|(refine⟨by decide,?_⟩;conv=>whnf)|(refine And.intro (Nat.le_of_ble_eq_true rfl) ?_;conv=>whnf))
  refine .rel _ (rdr_fam (raw_ok r hr 2 (by omega)) [] [] _ rfl rfl) (fun x ks' hR=>?_)
  obtain⟨_,r1,⟨rfl,rfl⟩,rfl,rfl⟩:=hR
  conv=>whnf
  refine⟨fun h1=>?_,fun h1=>?_⟩
  ·have e:r.num 2=((r.raw 2).1,0):=by unfold Rdr.num;rw[if_pos (show(r.raw ((2:Nat):Int)).1.bad=true from h1)];rfl
   rw[e]
   conv=>whnf
   refine⟨[0],.d (.int .u64 0),[(r.raw 2).1.kb],rfl,rfl,rfl,?_,_,rfl,rfl,rfl⟩
   repeat'(first|exact ⟨⟩|exact rfl|exact fun _=>Iff.rfl|exact fun _ _=>rfl|exact renM_ent rfl _|apply And.intro)
  ·have hrl:(r.raw ((2:Nat):Int)).2.length=2:=Rdr.raw_len 2 h1
   have e:r.num 2=((r.raw 2).1,numOf (r.raw ((2:Nat):Int)).2):=by unfold Rdr.num;rw[if_neg (by rw[show(r.raw ((2:Nat):Int)).1.bad=false from h1];simp)];rfl
   rw[e]
   obtain⟨b0,t0,e0,l0⟩:=len_cases hrl
   obtain⟨b1,t1,e1,l1⟩:=len_cases l0
   subst e1
   have e9:=List.length_eq_zero_iff.1 l1
   subst e9
   rw[e0]
   rw[show(r.raw 2).2=[b0,b1] from e0]
   conv=>whnf
   repeat(first|(refine brT rfl ?_;conv=>whnf)|(refine brF rfl ?_;conv=>whnf)|(refine .once ?_;conv=>whnf)|(refine⟨by decide,?_⟩;conv=>whnf)|(refine And.intro (Nat.le_of_ble_eq_true rfl) ?_;conv=>whnf))
   refine⟨[0],.d (.int .u64 (numOf [b0,b1])),[(r.raw 2).1.kb],rfl,rfl,?_,?_,_,rfl,rfl,rfl⟩
   ·exact congrArg (fun z=>SV.d (DV.int .u64 z)) (acc8 (0) (0) (0) (0) (0) (0) (b0.toNat) (b1.toNat) (by omega) (by omega) (by omega) (by omega) (by omega) (by omega) (UInt8.toNat_lt _) (UInt8.toNat_lt _))
   ·repeat'(first|exact ⟨⟩|exact rfl|exact fun _=>Iff.rfl|exact fun _ _=>rfl|exact renM_ent rfl _|apply And.intro)
 ·conv=>whnf
  repeat(first|(refine brT rfl ?_;conv=>whnf)|(refine brF rfl ?_;conv=>whnf)|(refine .once ?_;conv=>whnf)|(refine⟨by decide,?_⟩;conv=>whnf)|(refine And.intro (Nat.le_of_ble_eq_true rfl) ?_;conv=>whnf))
  refine .rel _ (rdr_fam (raw_ok r hr 4 (by omega)) [] [] _ rfl rfl) (fun x ks' hR=>?_)
  obtain⟨_,r1,⟨rfl,rfl⟩,rfl,rfl⟩:=hR
  conv=>whnf
  refine⟨fun h1=>?_,fun h1=>?_⟩
  ·have e:r.num 4=((r.raw 4).1,0):=by unfold Rdr.num;rw[if_pos (show(r.raw ((4:Nat):Int)).1.bad=true from h1)];rfl
   rw[e]
   conv=>whnf
   refine⟨[0],.d (.int .u64 0),[(r.raw 4).1.kb],rfl,rfl,rfl,?_,_,rfl,rfl,rfl⟩
   repeat'(first|exact ⟨⟩|exact rfl|exact fun _=>Iff.rfl|exact fun _ _=>rfl|exact renM_ent rfl _|apply And.intro)
  ·have hrl:(r.raw ((4:Nat):Int)).2.length=4:=Rdr.raw_len 4 h1
   have e:r.num 4=((r.raw 4).1,numOf (r.raw ((4:Nat):Int)).2):=by unfold Rdr.num;rw[if_neg (by rw[show(r.raw ((4:Nat):Int)).1.bad=false from h1];simp)];rfl
   rw[e]
   obtain⟨b0,t0,e0,l0⟩:=len_cases hrl
   obtain⟨b1,t1,e1,l1⟩:=len_cases l0
   obtain⟨b2,t2,e2,l2⟩:=len_cases l1
   obtain⟨b3,t3,e3,l3⟩:=len_cases l2
   subst e1
   subst e2
   subst e3
   have e9:=List.length_eq_zero_iff.1 l3
   subst e9
   rw[e0]
   rw[show(r.raw 4).2=[b0,b1,b2,b3] from e0]
   conv=>whnf
   repeat(first|(refine brT rfl ?_;conv=>whnf)|(refine brF rfl ?_;conv=>whnf)|(refine .once ?_;conv=>whnf)|(refine⟨by decide,?_⟩;conv=>whnf)|(refine And.intro (Nat.le_of_ble_eq_true rfl) ?_;conv=>whnf))
   refine⟨[0],.d (.int .u64 (numOf [b0,b1,b2,b3])),[(r.raw 4).1.kb],rfl,rfl,?_,?_,_,rfl,rfl,rfl⟩
   ·exact congrArg (fun z=>SV.d (DV.int .u64 z)) (acc8 (0) (0) (0) (0) (b0.toNat) (b1.toNat) (b2.toNat) (b3.toNat) (by omega) (by omega) (by omega) (by omega) (UInt8.toNat_lt _) (UInt8.toNat_lt _) (UInt8.toNat_lt _) (UInt8.toNat_lt _))
   ·repeat'(first|exact ⟨⟩|exact rfl|exact fun _=>Iff.rfl|exact fun _ _=>rfl|exact renM_ent rfl _|apply And.intro)
 ·conv=>whnf
  repeat(first|(refine brT rfl ?_;conv=>whnf)|(refine brF rfl ?_;conv=>whnf)|(refine .once ?_;conv=>whnf)|(refine⟨by decide,?_⟩;conv=>whnf)|(refine And.intro (Nat.le_of_ble_eq_true rfl) ?_;conv=>whnf))
  refine .rel _ (rdr_fam (raw_ok r hr 8 (by omega)) [] [] _ rfl rfl) (fun x ks' hR=>?_)
  obtain⟨_,r1,⟨rfl,rfl⟩,rfl,rfl⟩:=hR
  conv=>whnf
  refine⟨fun h1=>?_,fun h1=>?_⟩
  ·have e:r.num 8=((r.raw 8).1,0):=by unfold Rdr.num;rw[if_pos (show(r.raw ((8:Nat):Int)).1.bad=true from h1)];rfl
   rw[e]
   conv=>whnf
   refine⟨[0],.d (.int .u64 0),[(r.raw 8).1.kb],rfl,rfl,rfl,?_,_,rfl,rfl,rfl⟩
   repeat'(first|exact ⟨⟩|exact rfl|exact fun _=>Iff.rfl|exact fun _ _=>rfl|exact renM_ent rfl _|apply And.intro)
  ·have hrl:(r.raw ((8:Nat):Int)).2.length=8:=Rdr.raw_len 8 h1
   have e:r.num 8=((r.raw 8).1,numOf (r.raw ((8:Nat):Int)).2):=by unfold Rdr.num;rw[if_neg (by rw[show(r.raw ((8:Nat):Int)).1.bad=false from h1];simp)];rfl
   rw[e]
   obtain⟨b0,t0,e0,l0⟩:=len_cases hrl
   obtain⟨b1,t1,e1,l1⟩:=len_cases l0
   obtain⟨b2,t2,e2,l2⟩:=len_cases l1
   obtain⟨b3,t3,e3,l3⟩:=len_cases l2
   obtain⟨b4,t4,e4,l4⟩:=len_cases l3
   obtain⟨b5,t5,e5,l5⟩:=len_cases l4
   obtain⟨b6,t6,e6,l6⟩:=len_cases l5
   obtain⟨b7,t7,e7,l7⟩:=len_cases l6
   subst e1
   subst e2
   subst e3
   subst e4
   subst e5
   subst e6
   subst e7
   have e9:=List.length_eq_zero_iff.1 l7
   subst e9
   rw[e0]
   rw[show(r.raw 8).2=[b0,b1,b2,b3,b4,b5,b6,b7] from e0]
   conv=>whnf
   repeat(first|(refine brT rfl ?_;conv=>whnf)|(refine brF rfl ?_;conv=>whnf)|(refine .once ?_;conv=>whnf)|(refine⟨by decide,?_⟩;conv=>whnf)|(refine And.intro (Nat.le_of_ble_eq_true rfl) ?_;conv=>whnf))
   refine⟨[0],.d (.int .u64 (numOf [b0,b1,b2,b3,b4,b5,b6,b7])),[(r.raw 8).1.kb],rfl,rfl,?_,?_,_,rfl,rfl,rfl⟩
   ·exact congrArg (fun z=>SV.d (DV.int .u64 z)) (acc8 (b0.toNat) (b1.toNat) (b2.toNat) (b3.toNat) (b4.toNat) (b5.toNat) (b6.toNat) (b7.toNat) (UInt8.toNat_lt _) (UInt8.toNat_lt _) (UInt8.toNat_lt _) (UInt8.toNat_lt _) (UInt8.toNat_lt _) (UInt8.toNat_lt _) (UInt8.toNat_lt _) (UInt8.toNat_lt _))
   ·repeat'(first|exact ⟨⟩|exact rfl|exact fun _=>Iff.rfl|exact fun _ _=>rfl|exact renM_ent rfl _|apply And.intro)
end Go.Proofs.YtdfdlbnojmlpiaaGreatDoor
namespace Go.Proofs.YtdfdlbnojmlpiaaGreatDoor
open Go Go.Eng
def rnGo(s:List UInt8):Nat→Nat→Nat→Option Nat→List UInt8→List UInt8 × Option Nat
 |0,_,_,bh,nm=>(nm,bh)
 |f+1,begin,at_,bh,nm =>
  if at_<s.length∧nm.length<255 then
   if bt s at_=0 then (nm++[0],some (bh.getD (at_+1)))
   else if bt s at_≤63∧bt s at_<s.length - at_ then rnGo s f begin (at_+1+bt s at_) bh (nm++(s.drop at_).take (1+bt s at_))
   else if 192≤bt s at_∧at_+1<s.length then
    if (bt s at_ - 192) * 256+bt s (at_+1) ≥ begin then (nm,some (bh.getD (at_+2)))
    else rnGo s f ((bt s at_ - 192) * 256+bt s (at_+1)) ((bt s at_ - 192) * 256+bt s (at_+1)) (some (bh.getD (at_+2))) nm
   else (nm,bh)
  else (nm,bh)
def rnFuel(s:List UInt8)(begin:Nat)(nm:List UInt8):Nat:=(400 - nm.length) * (s.length+1)+begin
def rnAll(s:List UInt8)(p:Nat):List UInt8 × Option Nat:=rnGo s (rnFuel s p []+1) p p none []
def Rdr.name(r:Rdr):Rdr × List UInt8:=if r.bad then (r,[]) else
 if isName (rnAll r.s r.p).1 then ({ r with p:=(rnAll r.s r.p).2.getD 0 },(rnAll r.s r.p).1) else ({ r with bad:=true },[])
theorem Rdr.name_bad{r:Rdr}(h1:r.bad=false){nm:List UInt8}(h:(rnAll r.s r.p).1=nm)(hn:¬ isName nm):r.name=({ r with bad:=true },[]):=by
 unfold Rdr.name
 rw[if_neg (by simp[h1]),h,if_neg hn]
theorem Rdr.name_ok{r:Rdr}(h1:r.bad=false){nm:List UInt8}{k:Nat}(h:rnAll r.s r.p=(nm,some k))(hn:isName nm):r.name=({ r with p:=k },nm):=by
 unfold Rdr.name
 rw[if_neg (by simp[h1]),h,if_pos hn]
 rfl
theorem bytesOf_cat(a b:List UInt8)(f:Nat→List DV)(hf:∀ i,i<a.length+b.length→f i=bytesF (a++b) i):bytesOf (a.length+b.length) f=a++b:=by
 have:=bytesOf_bytesF (a++b)
 rw [List.length_append] at this
 rw[←this]
 unfold bytesOf
 apply List.map_congr_left
 intro i hi
 rw[hf i (List.mem_range.1 hi)]
theorem zero_cat(nm:List UInt8)(i:Nat)(h:i<nm.length+1):catF nm.length (bytesF nm) (chunk [.int .u8 0] 1) i=bytesF (nm++[0]) i:=by
 unfold catF
 split
 ·rename_i hl
  unfold bytesF byteAt
  rw[Int.toNat_natCast,List.getElem?_append_left hl]
 ·rename_i hl
  have:i=nm.length:=by omega
  subst this
  rw[Nat.sub_self]
  unfold bytesF byteAt
  rw[Int.toNat_natCast,List.getElem?_append_right (Nat.le_refl _),Nat.sub_self]
  rfl
theorem or_i64(a b:Nat)(ha:a<4611686018427387904)(hb:b<4611686018427387904)(hab:a ||| b<9223372036854775808):bits .or .i64 (a:Int) (b:Int)=((a ||| b:Nat):Int):=by
 have h:=u64_or_nat a b (by omega) (by omega)
 unfold bits at h ⊢
 have e:((BitVec.ofInt IntKind.i64.bits (a:Int) ||| BitVec.ofInt IntKind.i64.bits (b:Int)).toNat:Int)=((BitVec.ofInt IntKind.u64.bits (a:Int) ||| BitVec.ofInt IntKind.u64.bits (b:Int)).toNat:Int):=rfl
 show IntKind.i64.wrap ((BitVec.ofInt IntKind.i64.bits (a:Int) ||| BitVec.ofInt IntKind.i64.bits (b:Int)).toNat:Int)=_
 have h:IntKind.u64.wrap ((BitVec.ofInt IntKind.u64.bits (a:Int) ||| BitVec.ofInt IntKind.u64.bits (b:Int)).toNat:Int)=((a ||| b:Nat):Int):=h
 have hlt:=(BitVec.ofInt IntKind.u64.bits (a:Int) ||| BitVec.ofInt IntKind.u64.bits (b:Int)).isLt
 rw [IntKind.wrap_u64] at h
 rw[e]
 generalize (BitVec.ofInt IntKind.u64.bits (a:Int) ||| BitVec.ofInt IntKind.u64.bits (b:Int)).toNat=X at h hlt
 have hlt:X<18446744073709551616:=hlt
 rw[w64_in _ (by omega)]
 omega
def bhI:Option Nat→Int
 |none=>-1
 |some k=>k
structure RnSt where
 b:Nat
 p:Nat
 bh:Option Nat
 nm:List UInt8
 f:Nat
set_option maxRecDepth 100000
set_option maxHeartbeats 8000000 in
theorem rname_ok(r:Rdr)(hr:r.Ok):COk Tryz.prog 81 [.ptr 0 0] [r.kb] (fun s k=>∃ r1,k=[Rdr.kb r1]∧(s = .d (.str r.name.2)∧r1=r.name.1)):=by
 refine cOk_of_run (TT:=TT) (IN:=lookI [(83,Tryz.f83,1),(149,Tryz.f149,1)]) TT_ok (INok_cons (INok_cons INok_nil Tryz.func149 (by kernel_rfl) (by kernel_rfl)) Tryz.func83 (by kernel_rfl) (by kernel_rfl)) mixed 1000 Tryz.func81 rfl (enters Tryz.func81 (by kernel_rfl) rfl) 123 (by kernel_rfl) ?_
 have hlen:=hr.len
 have hp:=hr.p
 conv=>whnf
 refine⟨fun h1=>?_,fun h1=>?_⟩
 ·have e:r.name=(r,[]):=by unfold Rdr.name;rw[if_pos h1]
  rw[e]
  conv=>whnf
  refine⟨[0],.d (.str []),[r.kb],rfl,rfl,rfl,?_,_,rfl,rfl,rfl⟩
  repeat'(first|exact ⟨⟩|exact rfl|exact fun _=>Iff.rfl|exact fun _ _=>rfl|exact renM_ent rfl _|apply And.intro)
 conv=>whnf
 refine .nilT 3 5 1 (bytesF []) 0 (fun _=>[]) rfl ?_
 conv=>whnf
 refine .inv RnSt (fun s=>s.p≤r.s.length∧s.b≤r.s.length∧(∀ k,s.bh=some k→k≤r.s.length)∧(∃ ls,(∀ l ∈ ls,okL l)∧s.nm=labs ls)∧s.nm.length≤318∧rnFuel r.s s.b s.nm<s.f∧rnGo r.s s.f s.b s.p s.bh s.nm=rnAll r.s r.p) (fun s=>[(3,.all 1),(4,.d (.int .i64 s.b)),(5,.d (.int .i64 s.p)),(6,.d (.int .i64 (bhI s.bh)))]) (fun s=>[(1,.row 5 1 s.nm.length .iff (bytesF s.nm))]) (fun s=>s.f) ⟨⟨r.p,r.p,none,[],rnFuel r.s r.p []+1⟩,[0,1],?_,?_⟩ ?_
 ·exact⟨hp,hp,(fun k h=>by cases h),⟨[],(fun l h=>by cases h),rfl⟩,by show 0≤318;omega,Nat.lt_succ_self _,rfl⟩
 ·conv=>whnf
  repeat'(first|exact ⟨⟩|exact rfl|exact fun _=>Iff.rfl|exact fun _ _=>rfl|exact renM_ent rfl _|apply And.intro)
 intro s hs
 obtain⟨hp1,hb1,hbh,⟨ls,hls,hnm⟩,hnl,hf,hgo⟩:=hs
 conv=>whnf
 generalize s.p=p at hp1 hgo ⊢
 generalize s.b=b at hb1 hf hgo ⊢
 generalize s.bh=bh at hbh hgo ⊢
 generalize s.nm=nm at hnm hnl hf hgo ⊢
 generalize s.f=f at hf hgo ⊢
 obtain⟨f',rfl⟩:∃ f',f=f'+1:=⟨f - 1,by omega⟩
 rw [rnGo] at hgo
 have hnn:¬ isName nm:=by rw[hnm];exact labs_notName ls hls
 have hbhI:bhI bh = -1∨∃ k:Nat,bh=some k∧bhI bh=(k:Int)∧k≤r.s.length:=by
  cases hb:bh with
  |none=>exact .inl rfl
  |some k=>exact .inr ⟨k,rfl,rfl,hbh k hb⟩
 have hbt:bt r.s p<256:=bt_lt _ _
 refine⟨fun c1=>?_,fun c1=>?_⟩
 rotate_left
 ·have c1':¬ p<r.s.length:=by
   have:¬ (p:Int)<r.s.length:=of_decide_eq_false c1
   omega
  rw [if_neg (by omega)] at hgo
  conv=>whnf
  ·have hfin:r.name=({ r with bad:=true },[]):=Rdr.name_bad h1 (show(rnAll r.s r.p).1=nm by rw[←hgo]) hnn
   rw[hfin]
   conv=>whnf
   refine⟨fun i hi=>⟨_,rfl⟩,?_⟩
   conv=>whnf
   rw[bytesOf_bytesF]
   refine .one (.data _ (check_ok nm) rfl rfl ?_)
   rw[if_neg hnn]
   conv=>whnf
   repeat(first|(refine brT rfl ?_;conv=>whnf)|(refine brF rfl ?_;conv=>whnf)|(refine .once ?_;conv=>whnf)|(refine⟨by decide,?_⟩;conv=>whnf)|(refine And.intro (Nat.le_of_ble_eq_true rfl) ?_;conv=>whnf))
   refine⟨[0],.d (.str []),[Rdr.kb { r with bad:=true }],rfl,rfl,rfl,?_,_,rfl,rfl,rfl⟩
   repeat'(first|exact ⟨⟩|exact rfl|exact fun _=>Iff.rfl|exact fun _ _=>rfl|exact renM_ent rfl _|apply And.intro)
 have c1':p<r.s.length:=by
  have:(p:Int)<r.s.length:=of_decide_eq_true c1
  omega
 conv=>whnf
 refine⟨fun c2=>?_,fun c2=>?_⟩
 rotate_left
 ·have c2':¬ nm.length<255:=by
   have:¬ (nm.length:Int)<255:=of_decide_eq_false c2
   omega
  rw [if_neg (by omega)] at hgo
  conv=>whnf
  ·have hfin:r.name=({ r with bad:=true },[]):=Rdr.name_bad h1 (show(rnAll r.s r.p).1=nm by rw[←hgo]) hnn
   rw[hfin]
   conv=>whnf
   refine⟨fun i hi=>⟨_,rfl⟩,?_⟩
   conv=>whnf
   rw[bytesOf_bytesF]
   refine .one (.data _ (check_ok nm) rfl rfl ?_)
   rw[if_neg hnn]
   conv=>whnf
   repeat(first|(refine brT rfl ?_;conv=>whnf)|(refine brF rfl ?_;conv=>whnf)|(refine .once ?_;conv=>whnf)|(refine⟨by decide,?_⟩;conv=>whnf)|(refine And.intro (Nat.le_of_ble_eq_true rfl) ?_;conv=>whnf))
   refine⟨[0],.d (.str []),[Rdr.kb { r with bad:=true }],rfl,rfl,rfl,?_,_,rfl,rfl,rfl⟩
   repeat'(first|exact ⟨⟩|exact rfl|exact fun _=>Iff.rfl|exact fun _ _=>rfl|exact renM_ent rfl _|apply And.intro)
 have c2':nm.length<255:=by
  have:(nm.length:Int)<255:=of_decide_eq_true c2
  omega
 rw [if_pos ⟨c1',c2'⟩] at hgo
 have hby:byteAt r.s (p:Int)=(bt r.s p:Int):=bt_eq _ _
 have hwb:IntKind.i64.wrap (byteAt r.s (p:Int))=(bt r.s p:Int):=by rw[hby,w64_in _ (by omega)]
 conv=>whnf
 refine⟨by omega,?_⟩
 conv=>whnf
 rw[hwb]
 refine⟨fun c3=>?_,fun c3=>?_⟩
 ·have c3':bt r.s p=0:=by
   have:(bt r.s p:Int)=0:=by simpa using c3
   omega
  rw [if_pos c3'] at hgo
  have hz:bytesOf (nm.length+1) (catF nm.length (bytesF nm) (chunk [.int .u8 0] 1))=nm++[0]:=bytesOf_cat nm [0] _ (fun i hi=>zero_cat nm i hi)
  have hw1:IntKind.i64.wrap ((p:Int)+1)=((p+1:Nat):Int):=by rw[w64_in _ (by omega)];omega
  conv=>whnf
  refine⟨by omega,?_⟩
  rcases bh with _|k
  ·conv=>whnf
   refine brT rfl ?_
   conv=>whnf
   rw[hw1]
   refine⟨fun i hi=>⟨_,zero_cat nm i hi⟩,?_⟩
   rw[hz]
   refine .one (.data _ (check_ok (nm++[0])) rfl rfl ?_)
   by_cases hn:isName (nm++[0])
   ·have hfin:r.name=({ r with p:=p+1 },nm++[0]):=Rdr.name_ok h1 hgo.symm hn
    rw[if_pos hn,hfin]
    conv=>whnf
    refine brF rfl ?_
    conv=>whnf
    refine⟨fun i hi=>⟨_,zero_cat nm i hi⟩,?_⟩
    rw[hz]
    conv=>whnf
    refine⟨[0],.d (.str (nm++[0])),[Rdr.kb { r with p:=p+1 }],rfl,rfl,rfl,?_,_,rfl,rfl,rfl⟩
    repeat'(first|exact ⟨⟩|exact rfl|exact fun _=>Iff.rfl|exact fun _ _=>rfl|exact renM_ent rfl _|apply And.intro)
   ·have hfin:r.name=({ r with bad:=true },[]):=Rdr.name_bad h1 (show(rnAll r.s r.p).1=nm++[0] by rw[←hgo]) hn
    rw[if_neg hn,hfin]
    conv=>whnf
    repeat(first|(refine brT rfl ?_;conv=>whnf)|(refine brF rfl ?_;conv=>whnf)|(refine .once ?_;conv=>whnf)|(refine⟨by decide,?_⟩;conv=>whnf)|(refine And.intro (Nat.le_of_ble_eq_true rfl) ?_;conv=>whnf))
    refine⟨[0],.d (.str []),[Rdr.kb { r with bad:=true }],rfl,rfl,rfl,?_,_,rfl,rfl,rfl⟩
    repeat'(first|exact ⟨⟩|exact rfl|exact fun _=>Iff.rfl|exact fun _ _=>rfl|exact renM_ent rfl _|apply And.intro)
  ·conv=>whnf
   refine brF (decide_eq_false (by show ¬ ((k:Nat):Int)<0;omega)) ?_
   conv=>whnf
   refine⟨fun i hi=>⟨_,zero_cat nm i hi⟩,?_⟩
   rw[hz]
   refine .one (.data _ (check_ok (nm++[0])) rfl rfl ?_)
   by_cases hn:isName (nm++[0])
   ·have hfin:r.name=({ r with p:=k },nm++[0]):=Rdr.name_ok h1 hgo.symm hn
    rw[if_pos hn,hfin]
    conv=>whnf
    refine brF rfl ?_
    conv=>whnf
    refine⟨fun i hi=>⟨_,zero_cat nm i hi⟩,?_⟩
    rw[hz]
    conv=>whnf
    refine⟨[0],.d (.str (nm++[0])),[Rdr.kb { r with p:=k }],rfl,rfl,rfl,?_,_,rfl,rfl,rfl⟩
    repeat'(first|exact ⟨⟩|exact rfl|exact fun _=>Iff.rfl|exact fun _ _=>rfl|exact renM_ent rfl _|apply And.intro)
   ·have hfin:r.name=({ r with bad:=true },[]):=Rdr.name_bad h1 (show(rnAll r.s r.p).1=nm++[0] by rw[←hgo]) hn
    rw[if_neg hn,hfin]
    conv=>whnf
    repeat(first|(refine brT rfl ?_;conv=>whnf)|(refine brF rfl ?_;conv=>whnf)|(refine .once ?_;conv=>whnf)|(refine⟨by decide,?_⟩;conv=>whnf)|(refine And.intro (Nat.le_of_ble_eq_true rfl) ?_;conv=>whnf))
    refine⟨[0],.d (.str []),[Rdr.kb { r with bad:=true }],rfl,rfl,rfl,?_,_,rfl,rfl,rfl⟩
    repeat'(first|exact ⟨⟩|exact rfl|exact fun _=>Iff.rfl|exact fun _ _=>rfl|exact renM_ent rfl _|apply And.intro)
 have c3':¬ bt r.s p=0:=by
  have:¬ (bt r.s p:Int)=0:=by simpa using c3
  omega
 rw [if_neg c3'] at hgo
 have hwl:IntKind.i64.wrap ((r.s.length:Int) - p)=(r.s.length:Int) - p:=w64_in _ (by omega)
 conv=>whnf
 refine⟨fun c4=>?_,fun c4=>?_⟩
 ·have c4':bt r.s p≤63:=by
   have:(bt r.s p:Int)≤63:=of_decide_eq_true c4
   omega
  conv=>whnf
  rw[hwl]
  refine⟨fun c5=>?_,fun c5=>?_⟩
  ·have c5':bt r.s p<r.s.length - p:=by
    have:(bt r.s p:Int)<(r.s.length:Int) - p:=of_decide_eq_true c5
    omega
   rw [if_pos ⟨c4',c5'⟩] at hgo
   have hw2:IntKind.i64.wrap (IntKind.i64.wrap ((p:Int)+1)+(bt r.s p:Int))=((p+1+bt r.s p:Nat):Int):=by rw[w64_in ((p:Int)+1) (by omega),w64_in _ (by omega)];omega
   have hw3:IntKind.i64.wrap ((p:Int)+IntKind.i64.wrap (1+(bt r.s p:Int)))=((p+1+bt r.s p:Nat):Int):=by rw[w64_in (1+(bt r.s p:Int)) (by omega),w64_in _ (by omega)];omega
   have hsub:sub r.s (p:Int) ((p+1+bt r.s p:Nat):Int)=(r.s.drop p).take (1+bt r.s p):=by
    unfold sub
    rw[Int.toNat_natCast,Int.toNat_natCast,show p+1+bt r.s p - p=1+bt r.s p by omega]
   have hl1:((r.s.drop p).take (1+bt r.s p)).length=1+bt r.s p:=by simp;omega
   have hlab:(r.s.drop p).take (1+bt r.s p)=lab ((r.s.drop (p+1)).take (bt r.s p)):=by
    have h2:((r.s.drop (p+1)).take (bt r.s p)).length=bt r.s p:=by simp;omega
    unfold lab
    rw[h2]
    have h3:r.s.drop p=r.s[p] :: r.s.drop (p+1):=List.drop_eq_getElem_cons c1'
    rw[h3,show 1+bt r.s p=bt r.s p+1 by omega,List.take_succ_cons]
    congr 1
    have:bt r.s p=r.s[p].toNat:=by simp[bt,c1']
    rw[this]
    simp
   conv=>whnf
   rw[hw2]
   refine⟨by omega,?_⟩
   conv=>whnf
   rw[hsub,hl1]
   refine⟨by omega,?_⟩
   conv=>whnf
   rw[hw3]
   refine⟨⟨b,p+1+bt r.s p,bh,nm++(r.s.drop p).take (1+bt r.s p),f'⟩,[0,2],⟨by show p+1+bt r.s p≤r.s.length;omega,hb1,hbh,⟨ls++[(r.s.drop (p+1)).take (bt r.s p)],fun l hl=>?_,by show nm++_=_;rw[labs_snoc,hlab,hnm]⟩,by show(nm++_).length≤318;rw[List.length_append,hl1];omega,?_,hgo⟩,by show f'<f'+1;omega,?_⟩
   ·rcases List.mem_append.1 hl with hl|hl
    ·exact hls l hl
    ·rw[List.mem_singleton.1 hl]
     have h2:((r.s.drop (p+1)).take (bt r.s p)).length=bt r.s p:=by simp;omega
     unfold okL
     omega
   ·show rnFuel r.s b (nm++(r.s.drop p).take (1+bt r.s p))<f'
    unfold rnFuel at hf ⊢
    rw[List.length_append,hl1]
    have:(400 - (nm.length+(1+bt r.s p)))+1≤400 - nm.length:=by omega
    have:=Nat.mul_le_mul_right (r.s.length+1) this
    rw [Nat.add_mul,Nat.one_mul] at this
    omega
   ·conv=>whnf
    repeat'(first|exact ⟨⟩|exact rfl|exact fun _ _=>rfl|exact(show nm.length+(1+bt r.s p)=(nm++(r.s.drop p).take (1+bt r.s p)).length by rw[List.length_append,hl1])|exact(fun i hi=>byteAt_cat _ _ i (by rw[hl1];exact hi))|apply And.intro)
  ·have c5':¬ bt r.s p<r.s.length - p:=by
    have:¬ (bt r.s p:Int)<(r.s.length:Int) - p:=of_decide_eq_false c5
    omega
   rw [if_neg (by omega),if_neg (by omega)] at hgo
   conv=>whnf
   refine brF (decide_eq_false (by omega)) ?_
   conv=>whnf
   ·have hfin:r.name=({ r with bad:=true },[]):=Rdr.name_bad h1 (show(rnAll r.s r.p).1=nm by rw[←hgo]) hnn
    rw[hfin]
    conv=>whnf
    refine⟨fun i hi=>⟨_,rfl⟩,?_⟩
    conv=>whnf
    rw[bytesOf_bytesF]
    refine .one (.data _ (check_ok nm) rfl rfl ?_)
    rw[if_neg hnn]
    conv=>whnf
    repeat(first|(refine brT rfl ?_;conv=>whnf)|(refine brF rfl ?_;conv=>whnf)|(refine .once ?_;conv=>whnf)|(refine⟨by decide,?_⟩;conv=>whnf)|(refine And.intro (Nat.le_of_ble_eq_true rfl) ?_;conv=>whnf))
    refine⟨[0],.d (.str []),[Rdr.kb { r with bad:=true }],rfl,rfl,rfl,?_,_,rfl,rfl,rfl⟩
    repeat'(first|exact ⟨⟩|exact rfl|exact fun _=>Iff.rfl|exact fun _ _=>rfl|exact renM_ent rfl _|apply And.intro)
 ·have c4':¬ bt r.s p≤63:=by
   have:¬ (bt r.s p:Int)≤63:=of_decide_eq_false c4
   omega
  rw [if_neg (by omega)] at hgo
  conv=>whnf
  refine⟨fun c6=>?_,fun c6=>?_⟩
  rotate_left
  ·have c6':¬ 192≤bt r.s p:=by
    have:¬ (bt r.s p:Int) ≥ 192:=of_decide_eq_false c6
    omega
   rw [if_neg (by omega)] at hgo
   conv=>whnf
   ·have hfin:r.name=({ r with bad:=true },[]):=Rdr.name_bad h1 (show(rnAll r.s r.p).1=nm by rw[←hgo]) hnn
    rw[hfin]
    conv=>whnf
    refine⟨fun i hi=>⟨_,rfl⟩,?_⟩
    conv=>whnf
    rw[bytesOf_bytesF]
    refine .one (.data _ (check_ok nm) rfl rfl ?_)
    rw[if_neg hnn]
    conv=>whnf
    repeat(first|(refine brT rfl ?_;conv=>whnf)|(refine brF rfl ?_;conv=>whnf)|(refine .once ?_;conv=>whnf)|(refine⟨by decide,?_⟩;conv=>whnf)|(refine And.intro (Nat.le_of_ble_eq_true rfl) ?_;conv=>whnf))
    refine⟨[0],.d (.str []),[Rdr.kb { r with bad:=true }],rfl,rfl,rfl,?_,_,rfl,rfl,rfl⟩
    repeat'(first|exact ⟨⟩|exact rfl|exact fun _=>Iff.rfl|exact fun _ _=>rfl|exact renM_ent rfl _|apply And.intro)
  have c6':192≤bt r.s p:=by
   have:(bt r.s p:Int) ≥ 192:=of_decide_eq_true c6
   omega
  have hw1:IntKind.i64.wrap ((p:Int)+1)=((p+1:Nat):Int):=by rw[w64_in _ (by omega)];omega
  have hw2:IntKind.i64.wrap ((p:Int)+2)=((p+2:Nat):Int):=by rw[w64_in _ (by omega)];omega
  conv=>whnf
  rw[hw1]
  refine⟨fun c7=>?_,fun c7=>?_⟩
  rotate_left
  ·have c7':¬ p+1<r.s.length:=by
    have:¬ ((p+1:Nat):Int)<(r.s.length:Int):=of_decide_eq_false c7
    omega
   rw [if_neg (by omega)] at hgo
   conv=>whnf
   ·have hfin:r.name=({ r with bad:=true },[]):=Rdr.name_bad h1 (show(rnAll r.s r.p).1=nm by rw[←hgo]) hnn
    rw[hfin]
    conv=>whnf
    refine⟨fun i hi=>⟨_,rfl⟩,?_⟩
    conv=>whnf
    rw[bytesOf_bytesF]
    refine .one (.data _ (check_ok nm) rfl rfl ?_)
    rw[if_neg hnn]
    conv=>whnf
    repeat(first|(refine brT rfl ?_;conv=>whnf)|(refine brF rfl ?_;conv=>whnf)|(refine .once ?_;conv=>whnf)|(refine⟨by decide,?_⟩;conv=>whnf)|(refine And.intro (Nat.le_of_ble_eq_true rfl) ?_;conv=>whnf))
    refine⟨[0],.d (.str []),[Rdr.kb { r with bad:=true }],rfl,rfl,rfl,?_,_,rfl,rfl,rfl⟩
    repeat'(first|exact ⟨⟩|exact rfl|exact fun _=>Iff.rfl|exact fun _ _=>rfl|exact renM_ent rfl _|apply And.intro)
  have c7':p+1<r.s.length:=by
   have:((p+1:Nat):Int)<(r.s.length:Int):=of_decide_eq_true c7
   omega
  rw [if_pos ⟨c6',c7'⟩] at hgo
  have hb2:=bt_lt r.s (p+1)
  have hor:IntKind.i64.wrap (bits .or .i64 (IntKind.i64.wrap ((bt r.s p:Int) * 2 ^ 8)) (IntKind.i64.wrap (byteAt r.s ((p+1:Nat):Int))) - 49152)=(((bt r.s p - 192) * 256+bt r.s (p+1):Nat):Int):=by
   have e1:IntKind.i64.wrap ((bt r.s p:Int) * 2 ^ 8)=((bt r.s p * 256:Nat):Int):=by rw[w64_in _ (by omega)];omega
   have e2:IntKind.i64.wrap (byteAt r.s ((p+1:Nat):Int))=(bt r.s (p+1):Int):=by rw[bt_eq,w64_in _ (by omega)]
   have e3:bt r.s p * 256 ||| bt r.s (p+1)=bt r.s p * 256+bt r.s (p+1):=by
    have:=Nat.two_pow_add_eq_or_of_lt (i:=8) (show bt r.s (p+1)<2 ^ 8 by omega) (bt r.s p)
    rw[show bt r.s p * 256=2 ^ 8 * bt r.s p by omega,←this]
   rw[e1,e2,or_i64 _ _ (by omega) (by omega) (by rw[e3];omega),e3,w64_in _ (by omega)]
   omega
  obtain⟨to,hto⟩:∃ to,to=(bt r.s p - 192) * 256+bt r.s (p+1):=⟨_,rfl⟩
  rw [←hto] at hor hgo
  conv=>whnf
  refine⟨by decide,?_⟩
  conv=>whnf
  rw[hw1]
  refine⟨by omega,?_⟩
  conv=>whnf
  rw[show IntKind.i64.wrap (bits .or .i64 (IntKind.i64.wrap ((bt r.s p:Int) * 2 ^ (min (Int.toNat 8) IntKind.i64.bits))) (IntKind.i64.wrap (byteAt r.s ((p+1:Nat):Int))) - 49152)=(to:Int) from hor]
  rcases bh with _|k
  ·conv=>whnf
   refine brT rfl ?_
   conv=>whnf
   rw[hw2]
   refine⟨fun c8=>?_,fun c8=>?_⟩
   ·have c8':to ≥ b:=by
     have:(to:Int) ≥ (b:Int):=of_decide_eq_true c8
     omega
    rw [if_pos c8'] at hgo
    conv=>whnf
    have hfin:r.name=({ r with bad:=true },[]):=Rdr.name_bad h1 (show(rnAll r.s r.p).1=nm by rw[←hgo]) hnn
    rw[hfin]
    conv=>whnf
    refine⟨fun i hi=>⟨_,rfl⟩,?_⟩
    conv=>whnf
    rw[bytesOf_bytesF]
    refine .one (.data _ (check_ok nm) rfl rfl ?_)
    rw[if_neg hnn]
    conv=>whnf
    repeat(first|(refine brT rfl ?_;conv=>whnf)|(refine brF rfl ?_;conv=>whnf)|(refine .once ?_;conv=>whnf)|(refine⟨by decide,?_⟩;conv=>whnf)|(refine And.intro (Nat.le_of_ble_eq_true rfl) ?_;conv=>whnf))
    refine⟨[0],.d (.str []),[Rdr.kb { r with bad:=true }],rfl,rfl,rfl,?_,_,rfl,rfl,rfl⟩
    repeat'(first|exact ⟨⟩|exact rfl|exact fun _=>Iff.rfl|exact fun _ _=>rfl|exact renM_ent rfl _|apply And.intro)
   ·have c8':¬ to ≥ b:=by
     have:¬ (to:Int) ≥ (b:Int):=of_decide_eq_false c8
     omega
    rw [if_neg c8'] at hgo
    conv=>whnf
    refine⟨⟨to,to,some (p+2),nm,f'⟩,[0,1],⟨by show to≤r.s.length;omega,by show to≤r.s.length;omega,fun k hk=>by cases hk;omega,⟨ls,hls,hnm⟩,hnl,?_,hgo⟩,by show f'<f'+1;omega,?_⟩
    ·show rnFuel r.s to nm<f'
     unfold rnFuel at hf ⊢
     omega
    ·conv=>whnf
     repeat'(first|exact ⟨⟩|exact rfl|exact fun _=>Iff.rfl|exact fun _ _=>rfl|exact renM_ent rfl _|apply And.intro)
  ·conv=>whnf
   refine brF (decide_eq_false (by show ¬ ((k:Nat):Int)<0;omega)) ?_
   conv=>whnf
   refine⟨fun c8=>?_,fun c8=>?_⟩
   ·have c8':to ≥ b:=by
     have:(to:Int) ≥ (b:Int):=of_decide_eq_true c8
     omega
    rw [if_pos c8'] at hgo
    conv=>whnf
    have hfin:r.name=({ r with bad:=true },[]):=Rdr.name_bad h1 (show(rnAll r.s r.p).1=nm by rw[←hgo]) hnn
    rw[hfin]
    conv=>whnf
    refine⟨fun i hi=>⟨_,rfl⟩,?_⟩
    conv=>whnf
    rw[bytesOf_bytesF]
    refine .one (.data _ (check_ok nm) rfl rfl ?_)
    rw[if_neg hnn]
    conv=>whnf
    repeat(first|(refine brT rfl ?_;conv=>whnf)|(refine brF rfl ?_;conv=>whnf)|(refine .once ?_;conv=>whnf)|(refine⟨by decide,?_⟩;conv=>whnf)|(refine And.intro (Nat.le_of_ble_eq_true rfl) ?_;conv=>whnf))
    refine⟨[0],.d (.str []),[Rdr.kb { r with bad:=true }],rfl,rfl,rfl,?_,_,rfl,rfl,rfl⟩
    repeat'(first|exact ⟨⟩|exact rfl|exact fun _=>Iff.rfl|exact fun _ _=>rfl|exact renM_ent rfl _|apply And.intro)
   ·have c8':¬ to ≥ b:=by
     have:¬ (to:Int) ≥ (b:Int):=of_decide_eq_false c8
     omega
    rw [if_neg c8'] at hgo
    have hk2:=hbh k rfl
    conv=>whnf
    refine⟨⟨to,to,some k,nm,f'⟩,[0,1],⟨by show to≤r.s.length;omega,by show to≤r.s.length;omega,fun k hk=>by cases hk;omega,⟨ls,hls,hnm⟩,hnl,?_,hgo⟩,by show f'<f'+1;omega,?_⟩
    ·show rnFuel r.s to nm<f'
     unfold rnFuel at hf ⊢
     omega
    ·conv=>whnf
     repeat'(first|exact ⟨⟩|exact rfl|exact fun _=>Iff.rfl|exact fun _ _=>rfl|exact renM_ent rfl _|apply And.intro)
end Go.Proofs.YtdfdlbnojmlpiaaGreatDoor
namespace Go.Proofs.YtdfdlbnojmlpiaaGreatDoor
open Go Go.Eng
def Rdr.part(r:Rdr)(n:Int):Rdr × Rdr:=((r.raw n).1,if (r.raw n).1.bad then ⟨[],0,true⟩ else ⟨r.s.take (r.raw n).1.p,if r.bad then 0 else r.p,false⟩)
set_option maxRecDepth 100000
set_option maxHeartbeats 4000000 in
theorem part_ok(r:Rdr)(hr:r.Ok)(n:Int)(hn : -9223372036854775808≤n∧n≤9223372036854775807):COk Tryz.prog 151 [.ptr 0 0,.d (.int .i64 n)] [r.kb] (fun s k=>s = .ptr 1 0∧k=[(r.part n).1.kb,(r.part n).2.kb]):=by
 refine cOk_of_run (TT:=TT) (IN:=lookI [(187,Tryz.f187,1),(83,Tryz.f83,1)]) TT_ok (INok_cons (INok_cons INok_nil Tryz.func83 (by kernel_rfl) (by kernel_rfl)) Tryz.func187 (by kernel_rfl) (by kernel_rfl)) mixed 1000 Tryz.func151 rfl (enters Tryz.func151 (by kernel_rfl) rfl) 25 (by kernel_rfl) ?_
 have hro:=hr.raw n
 conv=>whnf
 refine⟨fun h1=>?_,fun h1=>?_⟩
 ·have e:r.raw n=(r,[]):=by unfold Rdr.raw;rw[if_pos h1]
  have e2:r.part n=(r,⟨[],0,true⟩):=by unfold Rdr.part;rw[e,if_pos h1]
  rw[e2]
  conv=>whnf
  refine .rel _ (rdr_fam (raw_ok r hr n hn) [] [] _ rfl rfl) (fun x ks' hR=>?_)
  obtain⟨_,r1,⟨rfl,rfl⟩,rfl,rfl⟩:=hR
  rw[e]
  conv=>whnf
  refine brT h1 ?_
  conv=>whnf
  refine⟨[0,1],.ptr 1 0,_,rfl,rfl,rfl,?_,rfl,rfl⟩
  repeat'(first|exact ⟨⟩|exact rfl|exact fun _=>Iff.rfl|exact fun _ _=>rfl|exact renM_ent rfl _|apply And.intro)
 ·conv=>whnf
  refine .rel _ (rdr_fam (raw_ok r hr n hn) [] [] _ rfl rfl) (fun x ks' hR=>?_)
  obtain⟨_,r1,⟨rfl,rfl⟩,rfl,rfl⟩:=hR
  conv=>whnf
  refine⟨fun h2=>?_,fun h2=>?_⟩
  ·have e2:r.part n=((r.raw n).1,⟨[],0,true⟩):=by unfold Rdr.part;rw[if_pos h2]
   rw[e2]
   conv=>whnf
   refine⟨[0,1],.ptr 1 0,_,rfl,rfl,rfl,?_,rfl,rfl⟩
   repeat'(first|exact ⟨⟩|exact rfl|exact fun _=>Iff.rfl|exact fun _ _=>rfl|exact renM_ent rfl _|apply And.intro)
  ·have e2:r.part n=((r.raw n).1,⟨r.s.take (r.raw n).1.p,r.p,false⟩):=by unfold Rdr.part;rw[if_neg (by simp[h2]),if_neg (by simp[h1])]
   have hs:(r.raw n).1.s=r.s:=by unfold Rdr.raw;split <;> (try rfl);split <;> rfl
   have hp:=hro.p
   have hsub:sub (r.raw n).1.s 0 ((r.raw n).1.p:Int)=r.s.take (r.raw n).1.p:=by
    unfold sub
    rw[hs]
    simp
   rw[e2]
   conv=>whnf
   refine⟨by omega,?_⟩
   conv=>whnf
   rw[hsub]
   conv=>whnf
   refine⟨[0,1],.ptr 1 0,_,rfl,rfl,rfl,?_,rfl,rfl⟩
   repeat'(first|exact ⟨⟩|exact rfl|exact fun _=>Iff.rfl|exact fun _ _=>rfl|exact renM_ent rfl _|apply And.intro)
def Wr.copies(width:Nat):Nat→Wr→Rdr→Wr × Rdr
 |0,w,r=>(w,r)
 |m+1,w,r=>Wr.copies width m (w.num width (r.num width).2) (r.num width).1
theorem Rdr.Ok.num{r:Rdr}(h:r.Ok)(width:Nat):(r.num width).1.Ok:=h.raw width
theorem Wr.Ok.num{w:Wr}(h:w.Ok)(width:Nat)(n:Int):(w.num width n).Ok:=h.piece _
structure CpSt where
 w:Wr
 r:Rdr
 i:Nat
set_option maxHeartbeats 4000000 in
theorem copies_ok(w:Wr)(hw:w.Ok)(width:Nat)(hd:wideN width)(many:Nat)(hm:many≤1000)(s:List UInt8)(hs:s.length<4611686018427387904) :
 COk Tryz.prog 147 [.ptr 0 0,.d (.int .i64 width),.d (.int .i64 many),.d (.str s)] [pk w.fl] (fun r k=>∃ w1,k=[pk (Wr.fl w1)]∧(r = .tup []∧w1=(w.copies width many ⟨s,0,false⟩).1)):=by
 refine cOk_of_run (TT:=TT) (IN:=lookI [(33,Tryz.f33,1)]) TT_ok (INok_cons INok_nil Tryz.func33 (by kernel_rfl) (by kernel_rfl)) mixed 1000 Tryz.func147 rfl (enters Tryz.func147 (by kernel_rfl) rfl) 17 (by kernel_rfl) ?_
 conv=>whnf
 refine .inv CpSt (fun s'=>s'.w.Ok∧s'.r.Ok∧s'.i≤many∧(s'.w.copies width (many - s'.i) s'.r).1=(w.copies width many ⟨s,0,false⟩).1) (fun s'=>[(12,.d (.int .i64 s'.i))]) (fun s'=>[(0,pk s'.w.fl),(1,s'.r.kb)]) (fun s'=>many - s'.i) ⟨⟨w,⟨s,0,false⟩,0⟩,[0,1],⟨hw,⟨hs,Nat.zero_le _⟩,Nat.zero_le _,rfl⟩,?_⟩ ?_
 ·conv=>whnf
  repeat'(first|exact ⟨⟩|exact rfl|exact(fun _ _ _ _ h=>⟨packed_stable _,h⟩)|apply And.intro)
 intro s' hs'
 obtain⟨hw1,hr1,hi,hgo⟩:=hs'
 conv=>whnf
 generalize s'.w=w1 at hw1 hgo ⊢
 generalize s'.r=r1 at hr1 hgo ⊢
 generalize s'.i=i at hi hgo ⊢
 refine⟨fun c1=>?_,fun c1=>?_⟩
 ·have c1':i<many:=by
   have:(i:Int)<many:=of_decide_eq_true c1
   omega
  obtain⟨m,hm1⟩:∃ m,many - i=m+1:=⟨many - i - 1,by omega⟩
  have hi1:IntKind.i64.wrap ((i:Int)+1)=((i+1:Nat):Int):=by rw[w64_in _ (by omega)];omega
  conv=>whnf
  refine .rel _ (rdr_fam (rnum_ok r1 hr1 width hd) [_] [] _ rfl rfl) (fun x ks' hR=>?_)
  obtain⟨_,r2,⟨rfl,rfl⟩,rfl,rfl⟩:=hR
  conv=>whnf
  refine .rel _ (COk.thing Wr.fl (num_ok w1 hw1 width hd (r1.num width).2) [] [_] _ rfl rfl) (fun x ks' hR=>?_)
  obtain⟨_,w2,⟨rfl,rfl⟩,rfl,rfl⟩:=hR
  conv=>whnf
  refine⟨⟨w1.num width (r1.num width).2,(r1.num width).1,i+1⟩,[0,1],⟨hw1.num _ _,hr1.num _,by show i+1≤many;omega,?_⟩,by show many - (i+1)<many - i;omega,?_⟩
  ·rw[←hgo,hm1,show many - (i+1)=m by omega]
   rfl
  ·conv=>whnf
   rw[hi1]
   repeat'(first|exact ⟨⟩|exact rfl|exact(fun _ _ _ _ h=>⟨packed_stable _,h⟩)|apply And.intro)
 ·have c1':¬ i<many:=by
   have:¬ (i:Int)<many:=of_decide_eq_false c1
   omega
  rw [show many - i=0 by omega] at hgo
  conv=>whnf
  refine⟨[0],.tup [],[pk w1.fl],rfl,rfl,rfl,⟨fun _ _ _ _ h=>⟨packed_stable _,h⟩,True.intro⟩,_,rfl,rfl,hgo⟩
end Go.Proofs.YtdfdlbnojmlpiaaGreatDoor
namespace Go.Proofs.YtdfdlbnojmlpiaaGreatDoor
open Go Go.Eng
theorem Wr.Ok.nameGo{p:Bool}:∀ (m:Nat) {w:Wr} (_:w.Ok) (n:List UInt8),(Wr.nameGo p m w n).Ok
 |0,w,h,n=>h.piece n
 |m+1,w,h,n=>by
  unfold Wr.nameGo
  have hp:=h.piece (n.take (1+bt n 0))
  split
  ·split
   ·split
    ·exact h.piece _
    ·split
     ·exact Wr.Ok.nameGo m hp _
     ·exact hp
   ·split
    ·refine Wr.Ok.nameGo m ?_ _
     split
     ·rename_i hl
      refine⟨hp.lo,hp.hi,hp.len,fun e he=>?_⟩
      rcases List.mem_append.1 he with he|he
      ·exact h.pl e he
      ·rw[List.mem_singleton.1 he]
       show 0≤(w.buf.length:Int)∧(w.buf.length:Int)<16384
       omega
     ·exact hp
    ·exact hp
  ·exact h.piece n
theorem Wr.Ok.name{w:Wr}(h:w.Ok)(n:List UInt8)(p:Bool):(w.name n p).Ok:=by
 unfold Wr.name
 split
 ·exact h
 ·exact Wr.Ok.nameGo _ h n
theorem Wr.Ok.copies{width:Nat}:∀ (m:Nat) {w:Wr} (_:w.Ok) (r:Rdr),(w.copies width m r).1.Ok
 |0,_,h,_=>h
 |m+1,_,h,r=>Wr.Ok.copies m (h.num width _) _
def Wr.names(w:Wr)(p:Bool)(l:List (List UInt8)):Wr:=l.foldl (fun w n=>w.name n p) w
theorem Wr.Ok.names{w:Wr}(h:w.Ok)(p:Bool)(l:List (List UInt8)):(w.names p l).Ok:=by
 induction l generalizing w with
 |nil=>exact h
 |cons a l ih=>exact ih (h.name a p)
def Wr.rdata(w:Wr)(t:Int)(s:List UInt8):Wr × Bool:=if rcheck t s then
 (match lookF t s with
 |none=>w.piece s
 |some (p,x,l,r)=>(((w.copies 2 p.1 ⟨x,0,false⟩).1.names (t != 33) l).copies 4 p.2.2 ⟨r,0,false⟩).1,true)
 else (w,false)
set_option maxRecDepth 100000
set_option maxHeartbeats 4000000 in
theorem wraw_ok(w:Wr)(hw:w.Ok)(s:List UInt8)(hs:s.length<4611686018427387904):COk Tryz.prog 146 [.ptr 0 0,.d (.str s)] [pk w.fl] (fun r k=>∃ w1,k=[pk (Wr.fl w1)]∧(r = .tup []∧w1=w.piece s)):=by
 refine cOk_of_run (TT:=TT) (IN:=lookI []) TT_ok INok_nil mixed 1000 Tryz.func146 rfl (enters Tryz.func146 (by kernel_rfl) rfl) 5 (by kernel_rfl) ?_
 conv=>whnf
 refine .rel _ (COk.thing Wr.fl (piece_ok w hw s hs) [] [] _ rfl rfl) (fun x ks' hR=>?_)
 obtain⟨_,w2,⟨rfl,rfl⟩,rfl,rfl⟩:=hR
 conv=>whnf
 refine⟨[0],.tup [],[pk (w.piece s).fl],rfl,rfl,rfl,⟨fun _ _ _ _ h=>⟨packed_stable _,h⟩,True.intro⟩,_,rfl,rfl,rfl⟩
set_option maxHeartbeats 4000000 in
theorem wname_ok(w:Wr)(hw:w.Ok)(n:List UInt8):COk Tryz.prog 77 [.ptr 0 0,.d (.str n)] [pk w.fl] (fun r k=>∃ w1,k=[pk (Wr.fl w1)]∧(r = .tup []∧w1=w.name n true)):=by
 refine cOk_of_run (TT:=TT) (IN:=lookI []) TT_ok INok_nil mixed 1000 Tryz.func77 rfl (enters Tryz.func77 (by kernel_rfl) rfl) 5 (by kernel_rfl) ?_
 conv=>whnf
 refine .rel _ (COk.thing Wr.fl ((name_ok w hw n true).convA (args':=[.ptr 0 0,.d (.str n),.d .tt]) ⟨.refl _,.refl _,.d .tb,True.intro⟩) [] [] _ rfl rfl) (fun x ks' hR=>?_)
 obtain⟨_,w2,⟨rfl,rfl⟩,rfl,rfl⟩:=hR
 conv=>whnf
 refine⟨[0],.tup [],[pk (w.name n true).fl],rfl,rfl,rfl,⟨fun _ _ _ _ h=>⟨packed_stable _,h⟩,True.intro⟩,_,rfl,rfl,rfl⟩
set_option maxHeartbeats 4000000 in
theorem wfull_ok(w:Wr)(hw:w.Ok)(n:List UInt8):COk Tryz.prog 148 [.ptr 0 0,.d (.str n)] [pk w.fl] (fun r k=>∃ w1,k=[pk (Wr.fl w1)]∧(r = .tup []∧w1=w.name n false)):=by
 refine cOk_of_run (TT:=TT) (IN:=lookI []) TT_ok INok_nil mixed 1000 Tryz.func148 rfl (enters Tryz.func148 (by kernel_rfl) rfl) 5 (by kernel_rfl) ?_
 conv=>whnf
 refine .rel _ (COk.thing Wr.fl ((name_ok w hw n false).convA (args':=[.ptr 0 0,.d (.str n),.d .ff]) ⟨.refl _,.refl _,.d .fb,True.intro⟩) [] [] _ rfl rfl) (fun x ks' hR=>?_)
 obtain⟨_,w2,⟨rfl,rfl⟩,rfl,rfl⟩:=hR
 conv=>whnf
 refine⟨[0],.tup [],[pk (w.name n false).fl],rfl,rfl,rfl,⟨fun _ _ _ _ h=>⟨packed_stable _,h⟩,True.intro⟩,_,rfl,rfl,rfl⟩
theorem lookF_le{t:Int}{s:List UInt8}{p:Nat × Nat × Nat}{x r:List UInt8}{l:List (List UInt8)}(h:lookF t s=some (p,x,l,r)) :
 s.length≤4096∧formOf t=some p∧x=s.take (2 * p.1)∧2 * p.1≤s.length∧namesF p.2.1 (s.drop (2 * p.1))=some (l,r)∧r.length=4 * p.2.2:=by
 unfold lookF at h
 split at h
 ·rename_i hs
  obtain⟨q,hq,h2⟩:=Option.bind_eq_some_iff.1 h
  obtain⟨z,hz,h3⟩:=Option.map_eq_some_iff.1 h2
  obtain⟨rfl,rfl⟩:=Prod.mk.inj h3
  unfold cutF at hz
  split at hz
  ·cases hz
  ·rename_i hl
   obtain⟨y,hy,h4⟩:=Option.bind_eq_some_iff.1 hz
   split at h4
   ·rename_i h5
    cases h4
    exact⟨hs,hq,rfl,by omega,hy,h5⟩
   ·cases h4
 ·cases h
structure WnSt where
 w:Wr
 i:Nat
set_option maxHeartbeats 8000000 in
theorem wrdata_ok(w:Wr)(hw:w.Ok)(t:Int)(s:List UInt8):COk Tryz.prog 79 [.ptr 0 0,.d (.int .u16 t),.d (.str s)] [pk w.fl] (fun r k=>∃ w1,k=[pk (Wr.fl w1)]∧(r = .d (.int .i64 (errno (w.rdata t s).2))∧w1=(w.rdata t s).1)):=by
 refine cOk_of_run (TT:=TT) (IN:=lookI []) TT_ok INok_nil mixed 1000 Tryz.func79 rfl (enters Tryz.func79 (by kernel_rfl) rfl) 53 (by kernel_rfl) ?_
 conv=>whnf
 refine .one (.data _ (rcheck_ok t s) rfl rfl ?_)
 cases hc:rcheck t s
 ·have e:w.rdata t s=(w,false):=by unfold Wr.rdata;rw[if_neg (by simp[hc])]
  rw[e]
  conv=>whnf
  refine brT rfl ?_
  conv=>whnf
  refine⟨[0],.d (.int .i64 2),[pk w.fl],rfl,rfl,rfl,⟨fun _ _ _ _ h=>⟨packed_stable _,h⟩,True.intro⟩,_,rfl,rfl,rfl⟩
 have hlen:s.length≤4096:=by
  simp only [rcheck,Bool.and_eq_true,decide_eq_true_eq] at hc
  exact hc.1
 conv=>whnf
 refine brF rfl ?_
 conv=>whnf
 refine .one (.data _ (look_ok t s) rfl ?_ ?_)
 ·cases lookF t s <;> rfl
 rcases hl:lookF t s with _|⟨p,x,l,r⟩
 ·have e:w.rdata t s=(w.piece s,true):=by unfold Wr.rdata;rw[if_pos hc,hl]
  rw[e]
  conv=>whnf
  repeat(first|(refine brT rfl ?_;conv=>whnf)|(refine brF rfl ?_;conv=>whnf)|(refine .once ?_;conv=>whnf)|(refine⟨by decide,?_⟩;conv=>whnf)|(refine And.intro (Nat.le_of_ble_eq_true rfl) ?_;conv=>whnf))
  refine .rel _ (COk.thing Wr.fl (wraw_ok w hw s (by omega)) [] [_,_] _ rfl rfl) (fun x ks' hR=>?_)
  obtain⟨_,w2,⟨rfl,rfl⟩,rfl,rfl⟩:=hR
  conv=>whnf
  refine⟨[0],.d (.int .i64 0),[pk (w.piece s).fl],rfl,rfl,rfl,⟨fun _ _ _ _ h=>⟨packed_stable _,h⟩,True.intro⟩,_,rfl,rfl,rfl⟩
 ·have e:w.rdata t s=((((w.copies 2 p.1 ⟨x,0,false⟩).1.names (t != 33) l).copies 4 p.2.2 ⟨r,0,false⟩).1,true):=by unfold Wr.rdata;rw[if_pos hc,hl]
  obtain⟨_,hf,hx,hp1,hnm,hr⟩:=lookF_le hl
  obtain⟨hp2,_,hp3⟩:=formOf_le hf
  have hll:=(namesF_len _ _ _ _ hnm).1
  have hln:l.length≤100:=by have:=(formOf_le hf).2.1;omega
  have hxl:x.length<4611686018427387904:=by rw[hx,List.length_take];omega
  rw[e]
  conv=>whnf
  repeat(first|(refine brT rfl ?_;conv=>whnf)|(refine brF rfl ?_;conv=>whnf)|(refine .once ?_;conv=>whnf)|(refine⟨by decide,?_⟩;conv=>whnf)|(refine And.intro (Nat.le_of_ble_eq_true rfl) ?_;conv=>whnf))
  refine .rel _ (COk.thing Wr.fl (copies_ok w hw 2 (.inr (.inl rfl)) p.1 (by omega) x hxl) [] [_,_] _ rfl rfl) (fun x ks' hR=>?_)
  obtain⟨_,w2,⟨rfl,rfl⟩,rfl,rfl⟩:=hR
  have hw2:(w.copies 2 p.1 ⟨x,0,false⟩).1.Ok:=hw.copies _ _
  generalize (w.copies 2 p.1 ⟨x,0,false⟩).1=w2 at hw2 ⊢
  conv=>whnf
  refine .inv WnSt (fun s'=>s'.w.Ok∧s'.i≤l.length∧s'.w.names (t != 33) (l.drop s'.i)=w2.names (t != 33) l) (fun s'=>[(37,.d (.int .i64 s'.i))]) (fun s'=>[(0,pk s'.w.fl)]) (fun s'=>l.length - s'.i) ⟨⟨w2,0⟩,[0,1,2],⟨hw2,Nat.zero_le _,rfl⟩,?_⟩ ?_
  ·conv=>whnf
   repeat'(first|exact ⟨⟩|exact rfl|exact(fun _ _ _ _ h=>⟨packed_stable _,h⟩)|apply And.intro)
  intro s' hs'
  obtain⟨hw1,hi,hgo⟩:=hs'
  conv=>whnf
  generalize s'.w=w1 at hw1 hgo ⊢
  generalize s'.i=i at hi hgo ⊢
  refine⟨fun c1=>?_,fun c1=>?_⟩
  ·have c1':i<l.length:=by
    have:(i:Int)<l.length:=of_decide_eq_true c1
    omega
   obtain⟨n,hn⟩:∃ n,l[i]?.getD []=n:=⟨_,rfl⟩
   have hdr:l.drop i=n :: l.drop (i+1):=by rw[←hn,List.drop_eq_getElem_cons c1',List.getElem?_eq_getElem c1'];rfl
   have hi1:IntKind.i64.wrap ((i:Int)+1)=((i+1:Nat):Int):=by rw[w64_in _ (by omega)];omega
   rw [hdr] at hgo
   conv=>whnf
   refine⟨by omega,?_⟩
   conv=>whnf
   rw[Int.toNat_natCast,hn]
   refine⟨fun c2=>?_,fun c2=>?_⟩
   ·have ht:(t != 33)=false:=by
     have:t=33:=by simpa using c2
     simp[this]
    rw [ht] at hgo ⊢
    conv=>whnf
    refine .rel _ (COk.thing Wr.fl (wfull_ok w1 hw1 n) [] [_,_] _ rfl rfl) (fun x ks' hR=>?_)
    obtain⟨_,w3,⟨rfl,rfl⟩,rfl,rfl⟩:=hR
    conv=>whnf
    refine⟨⟨w1.name n false,i+1⟩,[0,1,2],⟨hw1.name _ _,by show i+1≤l.length;omega,hgo⟩,by show l.length - (i+1)<l.length - i;omega,?_⟩
    conv=>whnf
    rw[hi1]
    repeat'(first|exact ⟨⟩|exact rfl|exact(fun _ _ _ _ h=>⟨packed_stable _,h⟩)|apply And.intro)
   ·have ht:(t != 33)=true:=by
     have:¬ t=33:=by simpa using c2
     simp[this]
    rw [ht] at hgo ⊢
    conv=>whnf
    refine .rel _ (COk.thing Wr.fl (wname_ok w1 hw1 n) [] [_,_] _ rfl rfl) (fun x ks' hR=>?_)
    obtain⟨_,w3,⟨rfl,rfl⟩,rfl,rfl⟩:=hR
    conv=>whnf
    refine⟨⟨w1.name n true,i+1⟩,[0,1,2],⟨hw1.name _ _,by show i+1≤l.length;omega,hgo⟩,by show l.length - (i+1)<l.length - i;omega,?_⟩
    conv=>whnf
    rw[hi1]
    repeat'(first|exact ⟨⟩|exact rfl|exact(fun _ _ _ _ h=>⟨packed_stable _,h⟩)|apply And.intro)
  ·have c1':¬ i<l.length:=by
    have:¬ (i:Int)<l.length:=of_decide_eq_false c1
    omega
   rw [List.drop_of_length_le (by omega)] at hgo
   have hgo:w1=w2.names (t != 33) l:=hgo
   rw[←hgo]
   conv=>whnf
   refine .rel _ (COk.thing Wr.fl (copies_ok w1 hw1 4 (.inr (.inr (.inl rfl))) p.2.2 (by omega) r (by omega)) [] [_,_] _ rfl rfl) (fun x ks' hR=>?_)
   obtain⟨_,w3,⟨rfl,rfl⟩,rfl,rfl⟩:=hR
   conv=>whnf
   refine⟨[0],.d (.int .i64 0),[pk (w1.copies 4 p.2.2 ⟨r,0,false⟩).1.fl],rfl,rfl,rfl,⟨fun _ _ _ _ h=>⟨packed_stable _,h⟩,True.intro⟩,_,rfl,rfl,rfl⟩
end Go.Proofs.YtdfdlbnojmlpiaaGreatDoor
namespace Go.Proofs.YtdfdlbnojmlpiaaGreatDoor
open Go Go.Eng
set_option maxRecDepth 100000
theorem Wr.Ok.rdata{w:Wr}(h:w.Ok)(t:Int)(s:List UInt8):(w.rdata t s).1.Ok:=by
 unfold Wr.rdata
 split
 ·show(match lookF t s with
   |none=>w.piece s
   |some (p,x,l,r)=>(((w.copies 2 p.1 ⟨x,0,false⟩).1.names (t != 33) l).copies 4 p.2.2 ⟨r,0,false⟩).1).Ok
  split
  ·exact h.piece s
  ·exact Wr.Ok.copies _ ((h.copies _ _).names _ _) _
 ·exact h
theorem Wr.Ok.set{w:Wr}(h:w.Ok)(a n:Int):(w.set a n).Ok:=by
 unfold Wr.set
 split
 ·exact h
 ·rename_i hc
  refine⟨h.lo,h.hi,?_,h.pl⟩
  show(two w.buf a.toNat _ _).length=0∨((two w.buf a.toNat _ _).length:Int)≤w.limit
  rw[two_len _ _ _ _ (by omega)]
  exact h.len
def Wr.record(w:Wr)(r:RR):Wr × Bool:=if r.check then
 (
  let w1:=(((w.name r.nm true).num 2 r.ty).num 2 r.cl).num 4 r.ttl
  let w2:=w1.num 2 0
  let w3:=w2.rdata r.ty r.d
  (w3.1.set w1.buf.length (IntKind.u16.wrap ((w3.1.buf.length:Int) - w2.buf.length)),w3.2))
 else (w,false)
set_option maxHeartbeats 8000000 in
theorem wrec_ok(w:Wr)(hw:w.Ok)(r:RR)(h1:0≤r.ty∧r.ty≤65535)(h2:0≤r.cl∧r.cl≤65535)(h3:0≤r.ttl∧r.ttl≤4294967295):COk Tryz.prog 30 [.ptr 0 0,r.V] [pk w.fl] (fun s k=>∃ w1,k=[pk (Wr.fl w1)]∧(s = .d (.int .i64 (errno (w.record r).2))∧w1=(w.record r).1)):=by
 refine cOk_of_run (TT:=TT) (IN:=lookI []) TT_ok INok_nil mixed 1000 Tryz.func30 rfl (enters Tryz.func30 (by kernel_rfl) rfl) 49 (by kernel_rfl) ?_
 conv=>whnf
 refine .one (.data _ (reccheck_ok r) rfl rfl ?_)
 cases hc:r.check
 ·have e:w.record r=(w,false):=by unfold Wr.record;rw[if_neg (by simp[hc])]
  rw[e]
  conv=>whnf
  refine brT rfl ?_
  conv=>whnf
  refine⟨[0],.d (.int .i64 2),[pk w.fl],rfl,rfl,rfl,⟨fun _ _ _ _ h=>⟨packed_stable _,h⟩,True.intro⟩,_,rfl,rfl,rfl⟩
 conv=>whnf
 refine brF rfl ?_
 conv=>whnf
 have hu:∀ x:Int,0≤x∧x<18446744073709551616→IntKind.u64.wrap x=x:=fun x hx=>by rw[IntKind.wrap_u64];omega
 refine .rel _ (COk.thing Wr.fl (wname_ok w hw r.nm) [] [_] _ rfl rfl) (fun x ks' hR=>?_)
 obtain⟨_,wq,⟨rfl,rfl⟩,rfl,rfl⟩:=hR
 have ha:=hw.name r.nm true
 generalize hwa:w.name r.nm true=wa at ha ⊢
 conv=>whnf
 rw[hu r.ty (by omega)]
 refine .rel _ (COk.thing Wr.fl (num_ok wa ha 2 (.inr (.inl rfl)) r.ty) [] [_] _ rfl rfl) (fun x ks' hR=>?_)
 obtain⟨_,wq,⟨rfl,rfl⟩,rfl,rfl⟩:=hR
 have hb:=ha.num 2 r.ty
 generalize hwb:wa.num 2 r.ty=wb at hb ⊢
 conv=>whnf
 rw[hu r.cl (by omega)]
 refine .rel _ (COk.thing Wr.fl (num_ok wb hb 2 (.inr (.inl rfl)) r.cl) [] [_] _ rfl rfl) (fun x ks' hR=>?_)
 obtain⟨_,wq,⟨rfl,rfl⟩,rfl,rfl⟩:=hR
 have hcc:=hb.num 2 r.cl
 generalize hwc:wb.num 2 r.cl=wc at hcc ⊢
 conv=>whnf
 rw[hu r.ttl (by omega)]
 refine .rel _ (COk.thing Wr.fl (num_ok wc hcc 4 (.inr (.inr (.inl rfl))) r.ttl) [] [_] _ rfl rfl) (fun x ks' hR=>?_)
 obtain⟨_,wq,⟨rfl,rfl⟩,rfl,rfl⟩:=hR
 have hd:=hcc.num 4 r.ttl
 generalize hwd:wc.num 4 r.ttl=wd at hd ⊢
 conv=>whnf
 refine .rel _ (COk.thing Wr.fl (wlen_ok wd) [] [_] _ rfl rfl) (fun x ks' hR=>?_)
 obtain⟨_,wq,⟨rfl,hq⟩,rfl,rfl⟩:=hR
 rw[hq]
 clear hq
 conv=>whnf
 refine .rel _ (COk.thing Wr.fl (num_ok wd hd 2 (.inr (.inl rfl)) 0) [] [_] _ rfl rfl) (fun x ks' hR=>?_)
 obtain⟨_,wq,⟨rfl,rfl⟩,rfl,rfl⟩:=hR
 have he:=hd.num 2 0
 generalize hwe:wd.num 2 0=we at he ⊢
 conv=>whnf
 refine .rel _ (COk.thing Wr.fl (wlen_ok we) [] [_] _ rfl rfl) (fun x ks' hR=>?_)
 obtain⟨_,wq,⟨rfl,hq⟩,rfl,rfl⟩:=hR
 rw[hq]
 clear hq
 conv=>whnf
 refine .rel _ (COk.thing Wr.fl (wrdata_ok we he r.ty r.d) [] [_] _ rfl rfl) (fun x ks' hR=>?_)
 obtain⟨_,wq,⟨rfl,rfl⟩,rfl,rfl⟩:=hR
 have hf:=he.rdata r.ty r.d
 generalize hwf:we.rdata r.ty r.d=wf at hf ⊢
 conv=>whnf
 refine .rel _ (COk.thing Wr.fl (wlen_ok wf.1) [] [_] _ rfl rfl) (fun x ks' hR=>?_)
 obtain⟨_,wq,⟨rfl,hq⟩,rfl,rfl⟩:=hR
 rw[hq]
 clear hq
 have hsub:IntKind.i64.wrap ((wf.1.buf.length:Int) - we.buf.length)=(wf.1.buf.length:Int) - we.buf.length:=by
  have h1:=hf.len
  have h2:=hf.hi
  have h3:=he.len
  have h4:=he.hi
  exact w64_in _ (by omega)
 conv=>whnf
 rw[hsub]
 refine .rel _ (COk.thing Wr.fl (wset_ok wf.1 hf wd.buf.length (IntKind.u16.wrap ((wf.1.buf.length:Int) - we.buf.length))) [] [_] _ rfl rfl) (fun x ks' hR=>?_)
 obtain⟨_,wq,⟨rfl,rfl⟩,rfl,rfl⟩:=hR
 have e:w.record r=(wf.1.set wd.buf.length (IntKind.u16.wrap ((wf.1.buf.length:Int) - we.buf.length)),wf.2):=by
  unfold Wr.record
  rw[if_pos hc]
  simp only[hwa,hwb,hwc,hwd,hwe,hwf]
 rw[e]
 conv=>whnf
 refine⟨[0],.d (.int .i64 (errno wf.2)),[pk (wf.1.set wd.buf.length (IntKind.u16.wrap ((wf.1.buf.length:Int) - we.buf.length))).fl],rfl,rfl,rfl,⟨fun _ _ _ _ h=>⟨packed_stable _,h⟩,True.intro⟩,_,rfl,rfl,rfl⟩
theorem Wr.Ok.record{w:Wr}(h:w.Ok)(r:RR):(w.record r).1.Ok:=by
 unfold Wr.record
 split
 ·exact Wr.Ok.set (Wr.Ok.rdata (((((h.name _ _).num _ _).num _ _).num _ _).num _ _) _ _) _ _
 ·exact h
theorem rec_true{w:Wr}{r:RR}(h:r.check=true):(w.record r).2=true:=by
 unfold Wr.record
 rw[if_pos h]
 show((((((w.name r.nm true).num 2 r.ty).num 2 r.cl).num 4 r.ttl).num 2 0).rdata r.ty r.d).2=true
 unfold Wr.rdata
 simp only [RR.check,Bool.and_eq_true] at h
 rw[if_pos h.1.2]
end Go.Proofs.YtdfdlbnojmlpiaaGreatDoor
namespace Go.Proofs.YtdfdlbnojmlpiaaGreatDoor
open Go Go.Eng
theorem rnGo_end(s:List UInt8):∀ f begin at_ bh nm,(∀ b,bh=some b→b≤s.length)→∀ e,(rnGo s f begin at_ bh nm).2=some e→e≤s.length:=by
 intro f
 induction f with
 |zero=>intro begin at_ bh nm hb e he;exact hb e he
 |succ f ih =>
  intro begin at_ bh nm hb e he
  have hg:∀ k,k≤s.length→∀ e,some (bh.getD k)=some e→e≤s.length:=fun k hk e he=>by
   cases bh with
   |none=>cases he;exact hk
   |some b=>cases he;exact hb b rfl
  unfold rnGo at he
  split at he
  ·rename_i h1
   split at he
   ·exact hg _ (by omega) e he
   ·split at he
    ·exact ih _ _ _ _ hb e he
    ·split at he
     ·rename_i h2
      split at he
      ·exact hg _ (by omega) e he
      ·exact ih _ _ _ _ (fun b hb=>hg _ (by omega) b hb) e he
     ·exact hb e he
  ·exact hb e he
theorem Rdr.Ok.name{r:Rdr}(h:r.Ok):r.name.1.Ok:=by
 unfold Rdr.name
 split
 ·exact h
 ·split
  ·refine⟨h.len,?_⟩
   show(rnAll r.s r.p).2.getD 0≤r.s.length
   cases he:(rnAll r.s r.p).2 with
   |none=>exact Nat.zero_le _
   |some e=>exact rnGo_end r.s _ _ _ _ _ (fun b hb=>by cases hb) e he
  ·exact⟨h.len,h.p⟩
theorem Rdr.name_s(r:Rdr):r.name.1.s=r.s:=by
 unfold Rdr.name
 repeat' split
 all_goals rfl
theorem Rdr.raw_s(r:Rdr)(n:Int):(r.raw n).1.s=r.s:=by
 unfold Rdr.raw
 repeat' split
 all_goals rfl
theorem Rdr.name_le(r:Rdr):r.name.2.length≤255:=by
 unfold Rdr.name
 split
 ·exact Nat.zero_le _
 ·split
  ·rename_i h;exact h.2.1
  ·exact Nat.zero_le _
theorem Rdr.raw_le(r:Rdr)(n:Int):(r.raw n).2.length≤r.s.length:=by
 unfold Rdr.raw
 split
 ·exact Nat.zero_le _
 ·split
  ·exact Nat.zero_le _
  ·show((r.s.drop r.p).take n.toNat).length≤_
   simp
   omega
theorem Rdr.raw_p(r:Rdr)(n:Int):r.p≤(r.raw n).1.p:=by
 unfold Rdr.raw
 repeat' split
 ·exact Nat.le_refl _
 ·exact Nat.le_refl _
 ·exact Nat.le_add_right _ _
theorem Rdr.Ok.part{r:Rdr}(h:r.Ok)(n:Int):(r.part n).2.Ok:=by
 have h1:=h.raw n
 have h2:=h1.p
 rw [Rdr.raw_s] at h2
 have h3:=r.raw_p n
 have h4:=h.len
 unfold Rdr.part
 split
 ·exact⟨by simp,Nat.le_refl _⟩
 ·refine⟨by simp;omega,?_⟩
  show(if r.bad then 0 else r.p)≤(r.s.take (r.raw n).1.p).length
  simp
  split <;> omega
theorem Rdr.part_s(r:Rdr)(n:Int):(r.part n).2.s.length≤r.s.length:=by
 unfold Rdr.part
 split
 ·exact Nat.zero_le _
 ·simp
  omega
def Rdr.names:Nat→Rdr→List UInt8→Rdr × List UInt8
 |0,r,b=>(r,b)
 |k+1,r,b=>Rdr.names k r.name.1 (b++r.name.2)
def Rdr.body(r:Rdr)(t:Int)(width:Int):Rdr × List UInt8:=match formOf t with
 |none=>r.raw width
 |some f =>
  let a:=r.raw (2 * f.1)
  let b:=Rdr.names f.2.1 a.1 a.2
  let c:=b.1.raw (4 * f.2.2)
  (c.1,b.2++c.2)
def Rdr.rdata(r:Rdr)(t:Int)(width:Int):List UInt8 × Int :=
 if (r.part width).2.bad then ([],5) else
 let q:=(r.part width).2.body t width
 if q.1.bad || decide (0<q.1.s.length - q.1.p) || !rcheck t q.2 then ([],6) else (q.2,0)
theorem bw0_among(pre:List KB)(s:List UInt8)(hs:s.length≤70368744177664):COk Tryz.prog 132 [.ptr pre.length 0,.d (.str s)] (pre++[.cells 92 [.v (.pointer none),nilS]]) (fun r k=>r = .tup [.d (.int .i64 s.length),.v .nilIface]∧k=pre++[pk (Bst.fl (.live s))]):=by
 have:=(packIn (bw0_ok s hs)).among pre [] (fun s k ⟨b1,hk,_⟩=>by rw[hk];exact Nat.le_refl _) rfl
 refine COk.imp (this:COk _ _ [.ptr pre.length 0,.d (.str s)] (pre++[.cells 92 [.v (.pointer none),nilS]]) _) fun s k ⟨s0,k1,⟨b1,hk1,hr,hb1⟩,hs,hk⟩=>?_
 subst hr hk1 hb1
 exact⟨by rw[hs];rfl,by rw[hk];rfl⟩
structure RdSt where
 p:Rdr
 b:List UInt8
 i:Nat
set_option maxRecDepth 100000 in
set_option maxHeartbeats 8000000 in
theorem rrdata_ok(r:Rdr)(hr:r.Ok)(hs:r.s.length<1099511627776)(t:Int)(width:Int)(hn : -9223372036854775808≤width∧width≤9223372036854775807) :
 COk Tryz.prog 84 [.ptr 0 0,.d (.int .u16 t),.d (.int .i64 width)] [r.kb] (fun s k=>∃ r1,k=[Rdr.kb r1]∧(s = .tup [.d (.str (r.rdata t width).1),.d (.int .i64 (r.rdata t width).2)]∧r1=(r.part width).1)):=by
 refine cOk_of_run (TT:=TT) (IN:=lookI [(83,Tryz.f83,1),(35,Tryz.f35,1)]) TT_ok (INok_cons (INok_cons INok_nil Tryz.func35 (by kernel_rfl) (by kernel_rfl)) Tryz.func83 (by kernel_rfl) (by kernel_rfl)) mixed 1000 Tryz.func84 rfl (enters Tryz.func84 (by kernel_rfl) rfl) 59 (by kernel_rfl) ?_
 conv=>whnf
 refine .rel _ (part_ok r hr width hn) (fun x ks' hR=>?_)
 obtain⟨rfl,rfl⟩:=hR
 have hp:=hr.part width
 have hps:=r.part_s width
 conv=>whnf
 refine⟨fun h1=>?_,fun h1=>?_⟩
 ·have e:r.rdata t width=([],5):=by unfold Rdr.rdata;rw[if_pos h1]
  conv=>whnf
  refine⟨[0],.tup [.d (.str []),.d (.int .i64 5)],[(r.part width).1.kb],rfl,rfl,rfl,?_,_,rfl,by rw[e],rfl⟩
  repeat'(first|exact ⟨⟩|exact rfl|exact fun _=>Iff.rfl|exact fun _ _=>rfl|exact renM_ent rfl _|apply And.intro)
 have e:r.rdata t width=(let q:=(r.part width).2.body t width;if q.1.bad || decide (0<q.1.s.length - q.1.p) || !rcheck t q.2 then ([],6) else (q.2,0)):=by unfold Rdr.rdata;rw[if_neg (by simp[h1])]
 rw[e]
 clear e
 generalize (r.part width).2=p at hp hps h1 ⊢
 generalize (r.part width).1=r1
 conv=>whnf
 have hfo:=formOf_ok t
 cases hf:formOf t with
 |none =>
  rw [hf] at hfo
  refine .one (.data _ hfo rfl rfl ?_)
  conv=>whnf
  refine .rel _ (rdr_fam (raw_ok p hp width hn) [_] [_] _ rfl rfl) (fun x ks' hR=>?_)
  obtain⟨_,q,⟨rfl,rfl⟩,rfl,rfl⟩:=hR
  have hb:p.body t width=p.raw width:=by unfold Rdr.body;rw[hf]
  rw[hb]
  have hq:=hp.raw width
  generalize p.raw width=q at hq ⊢
  conv=>whnf
  have hql:=hq.len
  have hqp:=hq.p
  have hsub:IntKind.i64.wrap ((q.1.s.length:Int) - q.1.p)=(q.1.s.length:Int) - q.1.p:=w64_in _ (by omega)
  refine⟨fun h2=>?_,fun h2=>?_⟩
  ·conv=>whnf
   refine⟨[0],.tup [.d (.str []),.d (.int .i64 6)],[r1.kb],rfl,rfl,rfl,?_,_,rfl,by simp[h2],rfl⟩
   repeat'(first|exact ⟨⟩|exact rfl|exact fun _=>Iff.rfl|exact fun _ _=>rfl|exact renM_ent rfl _|apply And.intro)
  conv=>whnf
  refine brF h2 ?_
  conv=>whnf
  rw[hsub]
  refine⟨fun h3=>?_,fun h3=>?_⟩
  ·have h3':0<q.1.s.length - q.1.p:=by
    have h:((q.1.s.length:Int) - q.1.p) > 0:=of_decide_eq_true h3
    omega
   conv=>whnf
   refine⟨[0],.tup [.d (.str []),.d (.int .i64 6)],[r1.kb],rfl,rfl,rfl,?_,_,rfl,by simp[h3'],rfl⟩
   repeat'(first|exact ⟨⟩|exact rfl|exact fun _=>Iff.rfl|exact fun _ _=>rfl|exact renM_ent rfl _|apply And.intro)
  have h3':¬ 0<q.1.s.length - q.1.p:=by
   have h:¬ ((q.1.s.length:Int) - q.1.p) > 0:=of_decide_eq_false h3
   omega
  conv=>whnf
  refine .one (.data _ (rcheck_ok t q.2) rfl rfl ?_)
  cases hc:rcheck t q.2
  ·conv=>whnf
   refine brT rfl ?_
   conv=>whnf
   refine⟨[0],.tup [.d (.str []),.d (.int .i64 6)],[r1.kb],rfl,rfl,rfl,?_,_,rfl,by simp[hc],rfl⟩
   repeat'(first|exact ⟨⟩|exact rfl|exact fun _=>Iff.rfl|exact fun _ _=>rfl|exact renM_ent rfl _|apply And.intro)
  ·conv=>whnf
   refine brF rfl ?_
   conv=>whnf
   refine⟨[0],.tup [.d (.str q.2),.d (.int .i64 0)],[r1.kb],rfl,rfl,rfl,?_,_,rfl,by simp[hc,h2,h3'],rfl⟩
   repeat'(first|exact ⟨⟩|exact rfl|exact fun _=>Iff.rfl|exact fun _ _=>rfl|exact renM_ent rfl _|apply And.intro)
 |some f =>
  have hfl:=formOf_le hf
  rw [hf] at hfo
  refine .one (.data _ hfo rfl rfl ?_)
  conv=>whnf
  have hw2:IntKind.i64.wrap (2 * (f.1:Int))=2 * (f.1:Int):=w64_in _ (by omega)
  have hw4:IntKind.i64.wrap (4 * (f.2.2:Int))=4 * (f.2.2:Int):=w64_in _ (by omega)
  rw[hw2]
  refine .rel _ (rdr_fam (raw_ok p hp (2 * f.1) (by omega)) [_] [_,_] _ rfl rfl) (fun x ks' hR=>?_)
  obtain⟨_,q,⟨rfl,rfl⟩,rfl,rfl⟩:=hR
  conv=>whnf
  refine .rel _ (bw0_among [_,_,_] (p.raw (2 * f.1)).2 (by have:=p.raw_le (2 * f.1);omega)) (fun x ks' hR=>?_)
  obtain⟨rfl,rfl⟩:=hR
  have hb:p.body t width=(((Rdr.names f.2.1 (p.raw (2 * f.1)).1 (p.raw (2 * f.1)).2).1.raw (4 * f.2.2)).1,(Rdr.names f.2.1 (p.raw (2 * f.1)).1 (p.raw (2 * f.1)).2).2++((Rdr.names f.2.1 (p.raw (2 * f.1)).1 (p.raw (2 * f.1)).2).1.raw (4 * f.2.2)).2):=by unfold Rdr.body;rw[hf]
  rw[hb]
  clear hb
  have hq:=hp.raw (2 * f.1)
  have hqs:=p.raw_s (2 * f.1)
  have hql:=p.raw_le (2 * f.1)
  generalize p.raw (2 * f.1)=a at hq hqs hql ⊢
  obtain⟨p0,b0⟩:=a
  simp only at hq hqs hql
  have hps0:p0.s.length<1099511627776:=by rw[hqs];omega
  have hb0:b0.length<1099511627776:=by omega
  clear hqs hql
  conv=>whnf
  refine .inv RdSt (fun s=>s.p.Ok∧s.p.s.length<1099511627776∧s.i≤f.2.1∧s.b.length<1099511627776+s.i * 1000∧Rdr.names (f.2.1 - s.i) s.p s.b=Rdr.names f.2.1 p0 b0) (fun s=>[(32,.d (.int .i64 s.i))]) (fun s=>[(1,s.p.kb),(3,pk (Bst.fl (.live s.b)))]) (fun s=>f.2.1 - s.i) ⟨⟨p0,b0,0⟩,[0,1,2,3],⟨hq,hps0,Nat.zero_le _,by simpa using hb0,rfl⟩,?_⟩ ?_
  ·conv=>whnf
   repeat'(first|exact ⟨⟩|exact rfl|exact(fun _ _ _ _ h=>⟨packed_stable _,h⟩)|exact fun _=>Iff.rfl|exact fun _ _=>rfl|apply And.intro)
  clear hq hps0 hb0
  intro s hs
  obtain⟨hq,hps0,hi,hb0,hrest⟩:=hs
  conv=>whnf
  generalize s.p=pc at hq hps0 hrest ⊢
  generalize s.b=bc at hb0 hrest ⊢
  generalize s.i=i at hi hb0 hrest ⊢
  refine⟨fun c5=>?_,fun c5=>?_⟩
  ·have c5':i<f.2.1:=(by have h:(i:Int)<f.2.1:=of_decide_eq_true c5;omega)
   conv=>whnf
   refine .rel _ (rdr_fam (rname_ok pc hq) [_] [_,_] _ rfl rfl) (fun x ks' hR=>?_)
   obtain⟨_,q,⟨rfl,rfl⟩,rfl,rfl⟩:=hR
   have hnl:=pc.name_le
   conv=>whnf
   refine .rel _ (COk.thing Bst.fl (bw1_ok bc pc.name.2 (by omega)) [_,_,_] [] _ rfl rfl) (fun x ks' hR=>?_)
   obtain⟨_,q,⟨rfl,rfl⟩,rfl,rfl⟩:=hR
   conv=>whnf
   have hw1:IntKind.i64.wrap ((i:Int)+1)=((i+1:Nat):Int):=by rw[w64_in _ (by omega)];omega
   refine⟨⟨pc.name.1,bc++pc.name.2,i+1⟩,[0,1,2,3],⟨hq.name,by show pc.name.1.s.length<_;rw[Rdr.name_s];exact hps0,c5',by show(bc++pc.name.2).length<1099511627776+(i+1) * 1000;rw[List.length_append];omega,?_⟩,by show f.2.1 - (i+1)<f.2.1 - i;omega,?_⟩
   ·rw[←hrest]
    have:f.2.1 - i=(f.2.1 - (i+1))+1:=by omega
    rw[this]
    rfl
   conv=>whnf
   rw[hw1]
   repeat'(first|exact ⟨⟩|exact rfl|exact(fun _ _ _ _ h=>⟨packed_stable _,h⟩)|exact fun _=>Iff.rfl|exact fun _ _=>rfl|apply And.intro)
  have hia:i=f.2.1:=(by have h:¬ (i:Int)<f.2.1:=of_decide_eq_false c5;omega)
  rw [hia,Nat.sub_self] at hrest
  have hz:Rdr.names 0 pc bc=(pc,bc):=rfl
  have hrest':Rdr.names f.2.1 ((p0,b0):Rdr × List UInt8).1 ((p0,b0):Rdr × List UInt8).2=(pc,bc):=by rw[←hz];exact hrest.symm
  rw[hrest']
  have hrl:=pc.raw_le (4 * f.2.2)
  have hrq:=hq.raw (4 * f.2.2)
  conv=>whnf
  rw[hw4]
  refine .rel _ (rdr_fam (raw_ok pc hq (4 * f.2.2) (by omega)) [_] [_,_] _ rfl rfl) (fun x ks' hR=>?_)
  obtain⟨_,q,⟨rfl,rfl⟩,rfl,rfl⟩:=hR
  conv=>whnf
  refine .rel _ (COk.thing Bst.fl (bw1_ok bc (pc.raw (4 * f.2.2)).2 (by omega)) [_,_,_] [] _ rfl rfl) (fun x ks' hR=>?_)
  obtain⟨_,q,⟨rfl,rfl⟩,rfl,rfl⟩:=hR
  conv=>whnf
  refine .rel _ (COk.thing Bst.fl (bs_ok (bc++(pc.raw (4 * f.2.2)).2) (by rw[List.length_append];omega)) [_,_,_] [] _ rfl rfl) (fun x ks' hR=>?_)
  obtain⟨_,q,⟨rfl,rfl⟩,rfl,rfl⟩:=hR
  generalize hqq:(((pc.raw (4 * f.2.2)).1,bc++(pc.raw (4 * f.2.2)).2):Rdr × List UInt8)=q
  have e1:(pc.raw (4 * f.2.2)).1=q.1:=by rw[←hqq]
  have e2:bc++(pc.raw (4 * f.2.2)).2=q.2:=by rw[←hqq]
  rw [e1] at hrq ⊢
  rw[e2]
  have hq:=hrq
  conv=>whnf
  have hql:=hq.len
  have hqp:=hq.p
  have hsub:IntKind.i64.wrap ((q.1.s.length:Int) - q.1.p)=(q.1.s.length:Int) - q.1.p:=w64_in _ (by omega)
  refine⟨fun h2=>?_,fun h2=>?_⟩
  ·conv=>whnf
   refine⟨[0],.tup [.d (.str []),.d (.int .i64 6)],[r1.kb],rfl,rfl,rfl,?_,_,rfl,by simp[h2],rfl⟩
   repeat'(first|exact ⟨⟩|exact rfl|exact fun _=>Iff.rfl|exact fun _ _=>rfl|exact renM_ent rfl _|apply And.intro)
  conv=>whnf
  refine brF h2 ?_
  conv=>whnf
  rw[hsub]
  refine⟨fun h3=>?_,fun h3=>?_⟩
  ·have h3':0<q.1.s.length - q.1.p:=by
    have h:((q.1.s.length:Int) - q.1.p) > 0:=of_decide_eq_true h3
    omega
   conv=>whnf
   refine⟨[0],.tup [.d (.str []),.d (.int .i64 6)],[r1.kb],rfl,rfl,rfl,?_,_,rfl,by simp[h3'],rfl⟩
   repeat'(first|exact ⟨⟩|exact rfl|exact fun _=>Iff.rfl|exact fun _ _=>rfl|exact renM_ent rfl _|apply And.intro)
  have h3':¬ 0<q.1.s.length - q.1.p:=by
   have h:¬ ((q.1.s.length:Int) - q.1.p) > 0:=of_decide_eq_false h3
   omega
  conv=>whnf
  refine .one (.data _ (rcheck_ok t q.2) rfl rfl ?_)
  cases hc:rcheck t q.2
  ·conv=>whnf
   refine brT rfl ?_
   conv=>whnf
   refine⟨[0],.tup [.d (.str []),.d (.int .i64 6)],[r1.kb],rfl,rfl,rfl,?_,_,rfl,by simp[hc],rfl⟩
   repeat'(first|exact ⟨⟩|exact rfl|exact fun _=>Iff.rfl|exact fun _ _=>rfl|exact renM_ent rfl _|apply And.intro)
  ·conv=>whnf
   refine brF rfl ?_
   conv=>whnf
   refine⟨[0],.tup [.d (.str q.2),.d (.int .i64 0)],[r1.kb],rfl,rfl,rfl,?_,_,rfl,by simp[hc,h2,h3'],rfl⟩
   repeat'(first|exact ⟨⟩|exact rfl|exact fun _=>Iff.rfl|exact fun _ _=>rfl|exact renM_ent rfl _|apply And.intro)
end Go.Proofs.YtdfdlbnojmlpiaaGreatDoor
namespace Go.Proofs.YtdfdlbnojmlpiaaGreatDoor
open Go Go.Eng
def rr0:RR:=⟨[],0,0,0,[]⟩
def Rdr.recd(r:Rdr):Rdr × RR × Int :=
 let a:=r.name
 let b:=a.1.num 2
 let c:=b.1.num 2
 let d:=c.1.num 4
 let e:=d.1.num 2
 if e.1.bad then (e.1,rr0,5) else
 let x:=e.1.rdata (IntKind.u16.wrap b.2) (IntKind.i64.wrap e.2)
 if x.2≠0 then ((e.1.part (IntKind.i64.wrap e.2)).1,rr0,x.2) else
 ((e.1.part (IntKind.i64.wrap e.2)).1,⟨a.2,IntKind.u16.wrap b.2,IntKind.u16.wrap c.2,if IntKind.u32.wrap d.2 > 2147483647∧IntKind.u16.wrap b.2≠41 then 0 else IntKind.u32.wrap d.2,x.1⟩,0)
theorem Rdr.num_s(r:Rdr)(n:Nat):(r.num n).1.s=r.s:=r.raw_s n
set_option maxRecDepth 100000 in
set_option maxHeartbeats 8000000 in
theorem rrec_ok(r:Rdr)(hr:r.Ok)(hs:r.s.length<1099511627776) :
 COk Tryz.prog 34 [.ptr 0 0] [r.kb] (fun s k=>∃ r1,k=[Rdr.kb r1]∧(s = .tup [r.recd.2.1.V,.d (.int .i64 r.recd.2.2)]∧r1=r.recd.1)):=by
 refine cOk_of_run (TT:=TT) (IN:=lookI [(83,Tryz.f83,1)]) TT_ok (INok_cons INok_nil Tryz.func83 (by kernel_rfl) (by kernel_rfl)) mixed 1000 Tryz.func34 rfl (enters Tryz.func34 (by kernel_rfl) rfl) 52 (by kernel_rfl) ?_
 have hrec:r.recd=r.recd:=rfl
 conv at hrec=>rhs;unfold Rdr.recd
 dsimp only at hrec
 conv=>whnf
 refine .rel _ (rdr_fam (rname_ok r hr) [] [_,_] _ rfl rfl) (fun x ks' hR=>?_)
 obtain⟨_,q,⟨rfl,rfl⟩,rfl,rfl⟩:=hR
 have ha:=hr.name
 have hsa:=r.name_s
 generalize r.name=a at ha hsa hrec ⊢
 conv=>whnf
 refine .rel _ (rdr_fam (rnum_ok a.1 ha 2 (.inr (.inl rfl))) [] [_,_] _ rfl rfl) (fun x ks' hR=>?_)
 obtain⟨_,q,⟨rfl,rfl⟩,rfl,rfl⟩:=hR
 have hb:=ha.num 2
 have hsb:=a.1.num_s 2
 generalize a.1.num 2=b at hb hsb hrec ⊢
 conv=>whnf
 refine .rel _ (rdr_fam (rnum_ok b.1 hb 2 (.inr (.inl rfl))) [] [_,_] _ rfl rfl) (fun x ks' hR=>?_)
 obtain⟨_,q,⟨rfl,rfl⟩,rfl,rfl⟩:=hR
 have hc:=hb.num 2
 have hsc:=b.1.num_s 2
 generalize b.1.num 2=c at hc hsc hrec ⊢
 conv=>whnf
 refine .rel _ (rdr_fam (rnum_ok c.1 hc 4 (.inr (.inr (.inl rfl)))) [] [_,_] _ rfl rfl) (fun x ks' hR=>?_)
 obtain⟨_,q,⟨rfl,rfl⟩,rfl,rfl⟩:=hR
 have hd:=hc.num 4
 have hsd:=c.1.num_s 4
 generalize c.1.num 4=d at hd hsd hrec ⊢
 conv=>whnf
 refine .rel _ (rdr_fam (rnum_ok d.1 hd 2 (.inr (.inl rfl))) [] [_,_] _ rfl rfl) (fun x ks' hR=>?_)
 obtain⟨_,q,⟨rfl,rfl⟩,rfl,rfl⟩:=hR
 have he:=hd.num 2
 have hse:=d.1.num_s 2
 generalize d.1.num 2=e at he hse hrec ⊢
 have hes:e.1.s.length<1099511627776:=by rw[hse,hsd,hsc,hsb,hsa];exact hs
 conv=>whnf
 refine⟨fun h1=>?_,fun h1=>?_⟩
 ·rw [if_pos h1] at hrec
  conv=>whnf
  refine⟨[0],.tup [rr0.V,.d (.int .i64 5)],[e.1.kb],rfl,rfl,rfl,?_,_,rfl,by rw[hrec],by rw[hrec]⟩
  repeat'(first|exact ⟨⟩|exact rfl|exact fun _=>Iff.rfl|exact fun _ _=>rfl|exact renM_ent rfl _|apply And.intro)
 rw [if_neg (by simp [h1])] at hrec
 have hwr:=IntKind.wrap_i64 (e.2:Int)
 have hwb : -9223372036854775808≤IntKind.i64.wrap (e.2:Int)∧IntKind.i64.wrap (e.2:Int)≤9223372036854775807:=by rw[hwr];omega
 conv=>whnf
 refine .rel _ (rdr_fam (rrdata_ok e.1 he hes (IntKind.u16.wrap b.2) (IntKind.i64.wrap e.2) hwb) [] [_,_] _ rfl rfl) (fun x ks' hR=>?_)
 obtain⟨_,q,⟨rfl,rfl⟩,rfl,rfl⟩:=hR
 generalize e.1.rdata (IntKind.u16.wrap b.2) (IntKind.i64.wrap e.2)=x at hrec ⊢
 generalize (e.1.part (IntKind.i64.wrap e.2)).1=r1 at hrec ⊢
 conv=>whnf
 refine⟨fun h2=>?_,fun h2=>?_⟩
 ·have h2':x.2≠0:=by simpa using h2
  rw [if_pos h2'] at hrec
  conv=>whnf
  refine⟨[0],.tup [rr0.V,.d (.int .i64 x.2)],[r1.kb],rfl,rfl,rfl,?_,_,rfl,by rw[hrec],by rw[hrec]⟩
  repeat'(first|exact ⟨⟩|exact rfl|exact fun _=>Iff.rfl|exact fun _ _=>rfl|exact renM_ent rfl _|apply And.intro)
 have h2':¬ x.2≠0:=by simpa using h2
 rw [if_neg h2'] at hrec
 conv=>whnf
 refine⟨fun h3=>?_,fun h3=>?_⟩
 ·have h3':IntKind.u32.wrap (d.2:Int) > 2147483647:=of_decide_eq_true h3
  conv=>whnf
  refine⟨fun h4=>?_,fun h4=>?_⟩
  ·have h4':IntKind.u16.wrap (b.2:Int)≠41:=by simpa using h4
   rw [if_pos ⟨h3',h4'⟩] at hrec
   conv=>whnf
   refine⟨[0],.tup [(RR.V ⟨a.2,IntKind.u16.wrap b.2,IntKind.u16.wrap c.2,0,x.1⟩),.d (.int .i64 0)],[r1.kb],rfl,rfl,rfl,?_,_,rfl,by rw[hrec],by rw[hrec]⟩
   repeat'(first|exact ⟨⟩|exact rfl|exact fun _=>Iff.rfl|exact fun _ _=>rfl|exact renM_ent rfl _|apply And.intro)
  ·have h4':¬ IntKind.u16.wrap (b.2:Int)≠41:=by simpa using h4
   rw [if_neg (fun h=>h4' h.2)] at hrec
   conv=>whnf
   refine⟨[0],.tup [(RR.V ⟨a.2,IntKind.u16.wrap b.2,IntKind.u16.wrap c.2,IntKind.u32.wrap d.2,x.1⟩),.d (.int .i64 0)],[r1.kb],rfl,rfl,rfl,?_,_,rfl,by rw[hrec],by rw[hrec]⟩
   repeat'(first|exact ⟨⟩|exact rfl|exact fun _=>Iff.rfl|exact fun _ _=>rfl|exact renM_ent rfl _|apply And.intro)
 ·have h3':¬ IntKind.u32.wrap (d.2:Int) > 2147483647:=of_decide_eq_false h3
  rw [if_neg (fun h=>h3' h.1)] at hrec
  conv=>whnf
  refine⟨[0],.tup [(RR.V ⟨a.2,IntKind.u16.wrap b.2,IntKind.u16.wrap c.2,IntKind.u32.wrap d.2,x.1⟩),.d (.int .i64 0)],[r1.kb],rfl,rfl,rfl,?_,_,rfl,by rw[hrec],by rw[hrec]⟩
  repeat'(first|exact ⟨⟩|exact rfl|exact fun _=>Iff.rfl|exact fun _ _=>rfl|exact renM_ent rfl _|apply And.intro)
theorem Rdr.Ok.recd{r:Rdr}(h:r.Ok):r.recd.1.Ok:=by
 have h1:=((((h.name.num 2).num 2).num 4).num 2)
 unfold Rdr.recd
 dsimp only
 split
 ·exact h1
 ·split
  ·exact h1.raw _
  ·exact h1.raw _
theorem Rdr.recd_s(r:Rdr):r.recd.1.s=r.s:=by
 have h1:(((((r.name.1.num 2).1.num 2).1.num 4).1.num 2).1).s=r.s:=by rw[Rdr.num_s,Rdr.num_s,Rdr.num_s,Rdr.num_s,Rdr.name_s]
 unfold Rdr.recd
 dsimp only
 split
 ·exact h1
 ·split
  ·exact(Rdr.raw_s _ _).trans h1
  ·exact(Rdr.raw_s _ _).trans h1
end Go.Proofs.YtdfdlbnojmlpiaaGreatDoor
namespace Go.Proofs.YtdfdlbnojmlpiaaGreatDoor
open Go Go.Eng
inductive NA (s:List UInt8):Nat→Nat→List (List UInt8)→Nat→Prop
 |done {b p:Nat}:p<s.length→bt s p=0→NA s b p [] (p+1)
 |lab {b p:Nat} {l:List UInt8} {ls:List (List UInt8)} {e:Nat}:okL l→(s.drop p).take (1+l.length)=lab l→NA s b (p+1+l.length) ls e→NA s b p (l :: ls) e
 |ptr {b p t:Nat} {ls:List (List UInt8)} {e:Nat}:p+1<s.length→192≤bt s p→t=(bt s p - 192) * 256+bt s (p+1)→t<b→NA s t t ls e→NA s b p ls (p+2)
theorem bt_app(s t:List UInt8)(p:Nat)(h:p<s.length):bt (s++t) p=bt s p:=by
 unfold bt
 rw[List.getElem?_append_left h]
theorem take_lab_len{s l:List UInt8}{p:Nat}(h:(s.drop p).take (1+l.length)=lab l):p+1+l.length≤s.length:=by
 have:=congrArg List.length h
 rw [lab_len,List.length_take,List.length_drop] at this
 omega
theorem bt_of_take{s l:List UInt8}{p:Nat}(hl:okL l)(h:(s.drop p).take (1+l.length)=lab l):bt s p=l.length:=by
 have h1:bt (lab l++[]) 0=l.length:=bt_lab l [] hl
 rw [List.append_nil,←h] at h1
 rw[←h1]
 unfold bt
 rw[List.getElem?_take,if_pos (by omega),List.getElem?_drop,Nat.add_zero]
theorem NA.app{s:List UInt8}(t:List UInt8){b p:Nat}{ls:List (List UInt8)}{e:Nat}(h:NA s b p ls e):NA (s++t) b p ls e:=by
 induction h with
 |done h1 h2=>exact .done (by rw[List.length_append];omega) (by rw[bt_app _ _ _ h1];exact h2)
 |lab h1 h2 _ ih =>
  have h3:=take_lab_len h2
  refine .lab h1 ?_ ih
  rw[List.drop_append_of_le_length (by omega),List.take_append_of_le_length (by rw[List.length_drop];omega)]
  exact h2
 |ptr h1 h2 h3 h4 _ ih =>
  refine .ptr (by rw[List.length_append];omega) (by rw[bt_app _ _ _ (by omega)];exact h2) ?_ h4 ih
  rw[bt_app _ _ _ (by omega),bt_app _ _ _ h1]
  exact h3
theorem rnGo_na{s:List UInt8}{b p:Nat}{ls:List (List UInt8)}{e:Nat}(h:NA s b p ls e):∀ (f:Nat) (bh:Option Nat) (nm:List UInt8),nm.length+(mk ls).length≤255→(400 - nm.length) * (s.length+1)+b+1≤f →
 rnGo s f b p bh nm=(nm++mk ls,some (bh.getD e)):=by
 induction h with
 |done h1 h2 =>
  intro f bh nm hn hf
  have:(mk []).length=1:=rfl
  cases f with
  |zero=>omega
  |succ f =>
   unfold rnGo
   rw[if_pos ⟨h1,by omega⟩,if_pos h2]
   rfl
 |@lab b p l ls e h1 h2 _ ih =>
  intro f bh nm hn hf
  have h3:=take_lab_len h2
  have h4:=bt_of_take h1 h2
  have h5:=h1.1
  have h6:=h1.2
  have hp:=mk_pos ls
  have hlen:(mk (l :: ls)).length=1+l.length+(mk ls).length:=by simp[mk,lab_len]
  cases f with
  |zero=>omega
  |succ f =>
   unfold rnGo
   rw[if_pos ⟨by omega,by omega⟩,if_neg (by omega),if_pos (by omega),h4,h2]
   have h7:(nm++lab l).length=nm.length+1+l.length:=by rw[List.length_append,lab_len];omega
   rw[ih f bh (nm++lab l) (by omega) ?_]
   ·simp[mk]
   ·rw[h7]
    have h8:(400 - (nm.length+1+l.length)+1) * (s.length+1)≤(400 - nm.length) * (s.length+1):=Nat.mul_le_mul_right _ (by omega)
    rw [Nat.add_mul] at h8
    omega
 |@ptr b p t ls e h1 h2 h3 h4 _ ih =>
  intro f bh nm hn hf
  have hp:=mk_pos ls
  cases f with
  |zero=>omega
  |succ f =>
   unfold rnGo
   rw[if_pos ⟨by omega,by omega⟩,if_neg (by omega),if_neg (by omega),if_pos ⟨h2,h1⟩,←h3,if_neg (by omega)]
   rw[ih f (some (bh.getD (p+2))) nm hn (by omega)]
   rfl
theorem name_na{s:List UInt8}{p:Nat}{ls:List (List UInt8)}{e:Nat}(h:NA s p p ls e)(hl:∀ l ∈ ls,okL l)(hn:(mk ls).length≤255):(Rdr.mk s p false).name=(⟨s,e,false⟩,mk ls):=by
 have h1:rnAll s p=(mk ls,some e):=by
  have:=rnGo_na h (rnFuel s p []+1) none [] (by simpa using hn) (Nat.le_refl _)
  unfold rnAll
  simpa using this
 exact Rdr.name_ok rfl h1 ((isName_iff _).2 ⟨hn,ls,hl,rfl⟩)
def RO(w:Wr):Prop:=∀ x ∈ w.rests,∃ ls k e,(∀ l ∈ ls,okL l)∧x.1=mk ls∧x.2=((k:Nat):Int)∧k<16384∧k<w.buf.length∧NA w.buf k k ls e
theorem piece_fit{w:Wr}{s:List UInt8}(h:(w.piece s).full=false):w.fits s=true∧w.piece s = { w with buf:=w.buf++s }∧w.full=false:=by
 unfold Wr.piece at h ⊢
 split at h
 ·rename_i hf
  refine⟨hf,by rw[if_pos hf],?_⟩
  unfold Wr.fits at hf
  cases hw:w.full
  ·rfl
  ·rw [hw] at hf;simp at hf
 ·cases h
theorem RO.more{w w':Wr}(h:RO w){d:List UInt8}(hb:w'.buf=w.buf++d)(hr:w'.rests=w.rests):RO w':=by
 intro x hx
 rw [hr] at hx
 obtain⟨ls,k,e,h1,h2,h3,h4,h5,h6⟩:=h x hx
 refine⟨ls,k,e,h1,h2,h3,h4,by rw[hb,List.length_append];omega,?_⟩
 rw[hb]
 exact h6.app d
theorem be2(n:Nat)(h:n<65536):be 2 (n:Int)=[UInt8.ofNat (n / 256),UInt8.ofNat (n % 256)]:=by
 have h1:be 2 (n:Int)=[UInt8.ofNat (IntKind.u8.wrap ((n:Int).fdiv 256)).toNat,UInt8.ofNat (IntKind.u8.wrap ((n:Int).fdiv 1)).toNat]:=rfl
 rw[h1,Int.fdiv_eq_ediv_of_nonneg _ (by decide),Int.fdiv_eq_ediv_of_nonneg _ (by decide),IntKind.wrap_u8,IntKind.wrap_u8]
 congr 2
 ·omega
 ·congr 1
  omega
theorem piece_fit_rests{w:Wr}{s:List UInt8}(h:(w.piece s).full=false):(w.piece s).rests=w.rests∧(w.piece s).buf=w.buf++s∧(w.piece s).limit=w.limit:=by
 rw[(piece_fit h).2.1]
 exact⟨rfl,rfl,rfl⟩
theorem mk_len_cons(l:List UInt8)(ls:List (List UInt8)):(mk (l :: ls)).length=1+l.length+(mk ls).length:=by simp[mk,lab_len]
theorem NA.fin(s:List UInt8)(b:Nat):NA (s++[0]) b s.length [] (s.length+1):=by
 refine .done (by simp) ?_
 unfold bt
 rw[List.getElem?_append_right (Nat.le_refl _),Nat.sub_self]
 rfl
theorem nameGo_back(p:Bool)(st:Nat):∀ (m:Nat) (w:Wr) (ls:List (List UInt8)),(∀ l ∈ ls,okL l)→ls.length≤m→st≤w.buf.length →
 (∀ x ∈ w.rests,(mk ls).length<x.1.length∨∃ ls' k e,(∀ l ∈ ls',okL l)∧x.1=mk ls'∧x.2=((k:Nat):Int)∧k<16384∧k<st∧NA w.buf k k ls' e) →
 (Wr.nameGo p m w (mk ls)).full=false →
 ∃ d new,(Wr.nameGo p m w (mk ls)).buf=w.buf++d∧(Wr.nameGo p m w (mk ls)).rests=w.rests++new ∧
  (∀ b,st≤b→NA (w.buf++d) b w.buf.length ls (w.buf.length+d.length)) ∧
  (∀ x ∈ new,∃ ls' k,(∀ l ∈ ls',okL l)∧x.1=mk ls'∧x.2=((k:Nat):Int)∧k<16384∧w.buf.length≤k∧k<w.buf.length+d.length∧NA (w.buf++d) k k ls' (w.buf.length+d.length)):=by
 have nil:∀ w:Wr,(w.piece (mk [])).full=false→∃ d new,(w.piece (mk [])).buf=w.buf++d∧(w.piece (mk [])).rests=w.rests++new ∧
  (∀ b,st≤b→NA (w.buf++d) b w.buf.length [] (w.buf.length+d.length)) ∧
  (∀ x ∈ new,∃ ls' k,(∀ l ∈ ls',okL l)∧x.1=mk ls'∧x.2=((k:Nat):Int)∧k<16384∧w.buf.length≤k∧k<w.buf.length+d.length∧NA (w.buf++d) k k ls' (w.buf.length+d.length)):=by
  intro w h
  obtain⟨h1,h2,_⟩:=piece_fit_rests h
  exact⟨[0],[],h2,by rw[h1,List.append_nil],fun b _=>NA.fin w.buf b,fun x hx=>by cases hx⟩
 intro m
 induction m with
 |zero =>
  intro w ls hl hm hst hr hf
  cases ls with
  |nil=>exact nil w hf
  |cons l ls=>simp at hm
 |succ m ih =>
  intro w ls hl hm hst hr hf
  cases ls with
  |nil =>
   have e:Wr.nameGo p (m+1) w (mk [])=w.piece (mk []):=by
    show(if 1<(mk []).length then _ else w.piece (mk []))=_
    exact if_neg (by decide)
   rw [e] at hf ⊢
   exact nil w hf
  |cons l ls =>
   have hol:=hl l (List.mem_cons_self ..)
   have hls:∀ x ∈ ls,okL x:=fun x hx=>hl x (List.mem_cons_of_mem _ hx)
   have hlen:=mk_len_cons l ls
   have hp:=mk_pos ls
   have h1:bt (mk (l :: ls)) 0=l.length:=bt_lab l (mk ls) hol
   have h2:(mk (l :: ls)).take (1+l.length)=lab l:=take_lab l (mk ls)
   have h3:(mk (l :: ls)).drop (1+l.length)=mk ls:=drop_lab l (mk ls)
   have hol1:=hol.1
   -- one label,then the rest
   have go:∀ (w1:Wr) (add:List (List UInt8 × Int)),w1.buf=w.buf++lab l→w1.rests=w.rests++add→(∀ x ∈ add,x=(mk (l :: ls),(w.buf.length:Int))∧w.buf.length<16384) →
    (Wr.nameGo p m w1 (mk ls)).full=false→∃ d new,(Wr.nameGo p m w1 (mk ls)).buf=w.buf++d∧(Wr.nameGo p m w1 (mk ls)).rests=w.rests++new ∧
    (∀ b,st≤b→NA (w.buf++d) b w.buf.length (l :: ls) (w.buf.length+d.length)) ∧
    (∀ x ∈ new,∃ ls' k,(∀ l ∈ ls',okL l)∧x.1=mk ls'∧x.2=((k:Nat):Int)∧k<16384∧w.buf.length≤k∧k<w.buf.length+d.length∧NA (w.buf++d) k k ls' (w.buf.length+d.length)):=by
    intro w1 add hb1 hr1 hadd hf1
    have hbl:w1.buf.length=w.buf.length+1+l.length:=by rw[hb1,List.length_append,lab_len];omega
    obtain⟨d,new,k1,k2,k3,k4⟩:=ih w1 ls hls (by simpa using hm) (by omega) (fun x hx=>by
     rw [hr1] at hx
     rcases List.mem_append.1 hx with hx|hx
     ·rcases hr x hx with h|⟨ls',k,e,a1,a2,a3,a4,a5,a6⟩
      ·exact .inl (by omega)
      ·exact .inr ⟨ls',k,e,a1,a2,a3,a4,a5,by rw[hb1];exact a6.app _⟩
     ·rw[(hadd x hx).1]
      exact .inl (by show(mk ls).length<(mk (l :: ls)).length;omega)) hf1
    have hdd:(lab l++d).length=1+l.length+d.length:=by rw[List.length_append,lab_len]
    have hww:w1.buf++d=w.buf++(lab l++d):=by rw[hb1,List.append_assoc]
    have hna:∀ b,st≤b→NA (w.buf++(lab l++d)) b w.buf.length (l :: ls) (w.buf.length+(lab l++d).length):=by
     intro b hb
     refine .lab hol ?_ ?_
     ·rw[List.drop_left,←lab_len,List.take_left]
     ·have:=k3 b hb
      rw [hww,hbl] at this
      rw[hdd,show w.buf.length+(1+l.length+d.length)=w.buf.length+1+l.length+d.length by omega]
      exact this
    refine⟨lab l++d,add++new,by rw[k1,hww],by rw[k2,hr1,List.append_assoc],hna,fun x hx=>?_⟩
    rcases List.mem_append.1 hx with hx|hx
    ·obtain⟨rfl,hlt⟩:=hadd x hx
     exact⟨l :: ls,w.buf.length,hl,rfl,rfl,hlt,Nat.le_refl _,by omega,hna _ hst⟩
    ·obtain⟨ls',k,a1,a2,a3,a4,a5,a6,a7⟩:=k4 x hx
     refine⟨ls',k,a1,a2,a3,a4,by omega,by omega,?_⟩
     rw [hww,hbl] at a7
     rw[hdd,show w.buf.length+(1+l.length+d.length)=w.buf.length+1+l.length+d.length by omega]
     exact a7
   have e:Wr.nameGo p (m+1) w (mk (l :: ls))=(match fndS w.rests (mk (l :: ls)) with
    |some a=>if p then w.num 2 (49152+a) else
     if w.fits (lab l) then Wr.nameGo p m (w.piece (lab l)) (mk ls) else w.piece (lab l)
    |none =>
     if w.fits (lab l) then Wr.nameGo p m (if w.buf.length<16384 then { w.piece (lab l) with rests:=w.rests++[(mk (l :: ls),(w.buf.length:Int))] } else w.piece (lab l)) (mk ls)
     else w.piece (lab l)):=by
    show(if 1<(mk (l :: ls)).length then _ else _)=_
    rw[if_pos (by omega),h1,h2,h3]
    try rfl
   rw [e] at hf ⊢
   clear e
   have fit:∀ {X:Wr},(if w.fits (lab l) then X else w.piece (lab l)).full=false→w.fits (lab l)=true:=by
    intro X h
    cases hx:w.fits (lab l)
    ·rw [hx,if_neg (by simp)] at h
     rw [(piece_fit h).1] at hx
     cases hx
    ·rfl
   cases hfd:fndS w.rests (mk (l :: ls)) with
   |some a =>
    rw [hfd] at hf
    cases p with
    |false =>
     simp only [Bool.false_eq_true,if_false] at hf ⊢
     have hfit:=fit hf
     rw [if_pos hfit] at hf ⊢
     exact go (w.piece (lab l)) [] (by unfold Wr.piece;rw[if_pos hfit]) (by unfold Wr.piece;rw[if_pos hfit];exact(List.append_nil _).symm) (fun x hx=>by cases hx) hf
    |true =>
     simp only [if_true] at hf ⊢
     rcases hr _ (fndS_mem hfd) with h|⟨ls',k,e,a1,a2,a3,a4,a5,a6⟩
     ·exact absurd h (Nat.lt_irrefl _)
     ·have a2:mk (l :: ls)=mk ls':=a2
      have a3:a=(k:Int):=a3
      have:=mk_inj hl a1 a2
      subst this
      subst a3
      have hbe:be 2 (49152+(k:Int))=[UInt8.ofNat ((49152+k) / 256),UInt8.ofNat ((49152+k) % 256)]:=be2 (49152+k) (by omega)
      unfold Wr.num at hf ⊢
      rw [hbe] at hf ⊢
      obtain⟨b1,b2,_⟩:=piece_fit_rests hf
      refine⟨_,[],b2,by rw[b1,List.append_nil],fun b hb=>?_,fun x hx=>by cases hx⟩
      have c1:bt (w.buf++[UInt8.ofNat ((49152+k) / 256),UInt8.ofNat ((49152+k) % 256)]) w.buf.length=(49152+k) / 256:=by
       unfold bt
       rw[List.getElem?_append_right (Nat.le_refl _),Nat.sub_self]
       show(UInt8.ofNat ((49152+k) / 256)).toNat=_
       exact toNat_ofNat (by omega)
      have c2:bt (w.buf++[UInt8.ofNat ((49152+k) / 256),UInt8.ofNat ((49152+k) % 256)]) (w.buf.length+1)=(49152+k) % 256:=by
       unfold bt
       rw[List.getElem?_append_right (by omega),show w.buf.length+1 - w.buf.length=1 by omega]
       show(UInt8.ofNat ((49152+k) % 256)).toNat=_
       exact toNat_ofNat (by omega)
      exact .ptr (t:=k) (by simp) (by rw[c1];omega) (by rw[c1,c2];omega) (by omega) (a6.app _)
   |none =>
    rw [hfd] at hf
    simp only at hf ⊢
    have hfit:=fit hf
    rw [if_pos hfit] at hf ⊢
    have hpc:w.piece (lab l) = { w with buf:=w.buf++lab l }:=by unfold Wr.piece;rw[if_pos hfit]
    by_cases hlt:w.buf.length<16384
    ·rw [if_pos hlt] at hf ⊢
     rw [hpc] at hf ⊢
     exact go _ [(mk (l :: ls),(w.buf.length:Int))] rfl rfl (fun x hx=>⟨List.mem_singleton.1 hx,hlt⟩) hf
    ·rw [if_neg hlt] at hf ⊢
     rw [hpc] at hf ⊢
     exact go _ [] rfl (List.append_nil _).symm (fun x hx=>by cases hx) hf
theorem mk_many(ls:List (List UInt8)):ls.length≤(mk ls).length:=by
 induction ls with
 |nil=>exact Nat.zero_le _
 |cons l ls ih=>rw[mk_len_cons];simp only[List.length_cons];omega
def Reads{α:Type}(w w1:Wr)(f:Rdr→Rdr × α)(v:α):Prop:=∀ S,w1.buf <+: S→f ⟨S,w.buf.length,false⟩=(⟨S,w1.buf.length,false⟩,v)
theorem name_back{w:Wr}(hw:w.full=false)(hro:RO w){n:List UInt8}(hn:isName n)(p:Bool)(hf:(w.name n p).full=false) :
 RO (w.name n p)∧w.buf <+: (w.name n p).buf∧Reads w (w.name n p) Rdr.name n:=by
 obtain⟨h255,ls,hl,rfl⟩:=(isName_iff n).1 hn
 have e:w.name (mk ls) p=Wr.nameGo p (mk ls).length w (mk ls):=by
  unfold Wr.name
  rw[if_neg (by rw[hw];simp[hn])]
 rw [e] at hf ⊢
 obtain⟨d,new,h1,h2,h3,h4⟩:=nameGo_back p w.buf.length _ w ls hl (mk_many ls) (Nat.le_refl _) (fun x hx=>by
  obtain⟨ls',k,e,a1,a2,a3,a4,a5,a6⟩:=hro x hx
  exact .inr ⟨ls',k,e,a1,a2,a3,a4,a5,a6⟩) hf
 refine⟨fun x hx=>?_,⟨d,h1.symm⟩,fun S ⟨t,ht⟩=>?_⟩
 ·rw [h2] at hx
  rw[h1]
  rcases List.mem_append.1 hx with hx|hx
  ·obtain⟨ls',k,e,a1,a2,a3,a4,a5,a6⟩:=hro x hx
   exact⟨ls',k,e,a1,a2,a3,a4,by rw[List.length_append];omega,a6.app d⟩
  ·obtain⟨ls',k,a1,a2,a3,a4,a5,a6,a7⟩:=h4 x hx
   exact⟨ls',k,_,a1,a2,a3,a4,by rw[List.length_append];omega,a7⟩
 ·rw[←ht,h1]
  have:=name_na ((h3 _ (Nat.le_refl _)).app t) hl h255
  rw[this,List.length_append]
theorem raw_back(b x t:List UInt8):(Rdr.mk (b++x++t) b.length false).raw x.length=(⟨b++x++t,(b++x).length,false⟩,x):=by
 unfold Rdr.raw
 rw[if_neg (by simp),if_neg (by simp;omega)]
 have e1:(((b++x++t).drop b.length).take x.length)=x:=by
  rw[List.append_assoc,List.drop_left,List.take_left]
 simp only[Int.toNat_natCast]
 rw[e1,List.length_append]
theorem numOf2(n:Nat)(h:n<65536):numOf (be 2 (n:Int))=n:=by
 rw[be2 n h]
 show(0 * 256+(UInt8.ofNat (n / 256)).toNat) * 256+(UInt8.ofNat (n % 256)).toNat=n
 rw[toNat_ofNat (by omega),toNat_ofNat (by omega)]
 omega
theorem numOf4(n:Nat)(h:n<4294967296):numOf (be 4 (n:Int))=n:=by
 have h1:be 4 (n:Int)=[UInt8.ofNat (IntKind.u8.wrap ((n:Int).fdiv 16777216)).toNat,UInt8.ofNat (IntKind.u8.wrap ((n:Int).fdiv 65536)).toNat,UInt8.ofNat (IntKind.u8.wrap ((n:Int).fdiv 256)).toNat,UInt8.ofNat (IntKind.u8.wrap ((n:Int).fdiv 1)).toNat]:=rfl
 rw[h1]
 rw[Int.fdiv_eq_ediv_of_nonneg _ (by decide),Int.fdiv_eq_ediv_of_nonneg _ (by decide),Int.fdiv_eq_ediv_of_nonneg _ (by decide),Int.fdiv_eq_ediv_of_nonneg _ (by decide)]
 show(((0 * 256+(UInt8.ofNat _).toNat) * 256+(UInt8.ofNat _).toNat) * 256+(UInt8.ofNat _).toNat) * 256+(UInt8.ofNat _).toNat=n
 have e:=u8_byte
 have e1:=e ((n:Int) / 16777216)
 have e2:=e ((n:Int) / 65536)
 have e3:=e ((n:Int) / 256)
 have e4:=e ((n:Int) / 1)
 rw [IntKind.wrap_u8] at e1 e2 e3 e4
 rw[IntKind.wrap_u8,IntKind.wrap_u8,IntKind.wrap_u8,IntKind.wrap_u8]
 omega
theorem num_back{w:Wr}(hro:RO w)(k:Nat)(n:Nat)(hk:k=2∧n<65536∨k=4∧n<4294967296)(hf:(w.num k (n:Int)).full=false) :
 w.full=false∧RO (w.num k (n:Int))∧w.buf <+: (w.num k (n:Int)).buf∧Reads w (w.num k (n:Int)) (fun r=>r.num k) n:=by
 have hlen:(be k (n:Int)).length=k:=by rcases hk with⟨rfl,_⟩|⟨rfl,_⟩ <;> rfl
 have hnum:numOf (be k (n:Int))=n:=by
  rcases hk with⟨rfl,h⟩|⟨rfl,h⟩
  ·exact numOf2 n h
  ·exact numOf4 n h
 unfold Wr.num at hf ⊢
 obtain⟨h1,h2,h3⟩:=piece_fit_rests hf
 refine⟨(piece_fit hf).2.2,hro.more h2 h1,⟨_,h2.symm⟩,fun S ⟨t,ht⟩=>?_⟩
 rw[←ht,h2]
 have:=raw_back w.buf (be k (n:Int)) t
 rw [hlen] at this
 show(Rdr.mk (w.buf++be k (n:Int)++t) w.buf.length false).num k=_
 unfold Rdr.num
 rw[this]
 show(_,if false=true then 0 else numOf (be k (n:Int)))=_
 rw[if_neg (by simp),hnum]
end Go.Proofs.YtdfdlbnojmlpiaaGreatDoor
namespace Go.Proofs.YtdfdlbnojmlpiaaGreatDoor
open Go Go.Eng
def Wr.re(w:Wr)(b:List UInt8):Wr:={ w with buf:=b }
structure WOp(f:Wr→Wr):Prop where
 blind:∀ w,∃ d,(f w).buf=w.buf++d∧∀ b,b.length=w.buf.length→f (w.re b)=(f w).re (b++d)
 full:∀ w,(f w).full=false→w.full=false
 lim:∀ w,(f w).limit=w.limit
theorem WOp.id:WOp (fun w=>w):=⟨fun w=>⟨[],(List.append_nil _).symm,fun b _=>by rw[List.append_nil]⟩,fun _ h=>h,fun _=>rfl⟩
theorem WOp.comp{f g:Wr→Wr}(hf:WOp f)(hg:WOp g):WOp (fun w=>g (f w)):=by
 refine⟨fun w=>?_,fun w h=>hf.full w (hg.full _ h),fun w=>(hg.lim _).trans (hf.lim w)⟩
 obtain⟨d1,a1,a2⟩:=hf.blind w
 obtain⟨d2,b1,b2⟩:=hg.blind (f w)
 refine⟨d1++d2,by rw[b1,a1,List.append_assoc],fun b hb=>?_⟩
 show g (f (w.re b))=_
 rw[a2 b hb,b2 (b++d1) (by rw[a1,List.length_append,List.length_append,hb]),List.append_assoc]
theorem WOp.of{f:Wr→Wr}(h:∀ w,∃ g,WOp g∧f w=g w∧∀ b,b.length=w.buf.length→f (w.re b)=g (w.re b)):WOp f:=by
 refine⟨fun w=>?_,fun w=>?_,fun w=>?_⟩ <;> obtain⟨g,hg,h1,h2⟩:=h w
 ·obtain⟨d,a1,a2⟩:=hg.blind w
  refine⟨d,by rw[h1,a1],fun b hb=>?_⟩
  rw[h2 b hb,h1]
  exact a2 b hb
 ·rw[h1]
  exact hg.full w
 ·rw[h1]
  exact hg.lim w
theorem fits_re(w:Wr){b:List UInt8}(s:List UInt8)(h:b.length=w.buf.length):(w.re b).fits s=w.fits s:=by
 show(!w.full && (decide (s.length=0) || decide ((s.length:Int)≤w.limit - b.length)))=_
 rw[h]
 rfl
theorem piece_op(s:List UInt8):WOp (fun w=>w.piece s):=by
 refine⟨fun w=>?_,fun w h=>(piece_fit h).2.2,fun w=>by show(w.piece s).limit=_;unfold Wr.piece;split <;> rfl⟩
 cases hf:w.fits s
 ·refine⟨[],by show(w.piece s).buf=_;unfold Wr.piece;rw[hf,List.append_nil];rfl,fun b hb=>?_⟩
  show(w.re b).piece s=(w.piece s).re (b++[])
  unfold Wr.piece
  rw[fits_re w s hb,hf,List.append_nil]
  rfl
 ·refine⟨s,by show(w.piece s).buf=_;unfold Wr.piece;rw[hf];rfl,fun b hb=>?_⟩
  show(w.re b).piece s=(w.piece s).re (b++s)
  unfold Wr.piece
  rw[fits_re w s hb,hf]
  rfl
theorem add_op(e:List UInt8 × Int):WOp (fun w=>{ w with rests:=w.rests++[e] }) :=
 ⟨fun w=>⟨[],(List.append_nil _).symm,fun b _=>by rw[List.append_nil];rfl⟩,fun _ h=>h,fun _=>rfl⟩
theorem nameGo_op(p:Bool):∀ (m:Nat) (n:List UInt8),WOp (fun w=>Wr.nameGo p m w n)
 |0,n=>piece_op n
 |m+1,n=>by
  have ih:=nameGo_op p m (n.drop (1+bt n 0))
  have hpc:=piece_op (n.take (1+bt n 0))
  refine WOp.of fun w=>?_
  by_cases h1:1<n.length
  ·cases h2:fndS w.rests n with
   |some a =>
    cases p with
    |true =>
     refine⟨fun w=>w.num 2 (49152+a),piece_op _,?_,fun b _=>?_⟩
     ·simp only[Wr.nameGo,if_pos h1,h2,if_true]
     ·simp only[Wr.nameGo,if_pos h1,Wr.re,h2,if_true]
    |false =>
     cases h3:w.fits (n.take (1+bt n 0)) with
     |true =>
      refine⟨_,hpc.comp ih,?_,fun b hb=>?_⟩
      ·simp only[Wr.nameGo,if_pos h1,h2,h3,if_true,Bool.false_eq_true,if_false]
      ·have h4:(w.re b).fits (n.take (1+bt n 0))=true:=(fits_re w _ hb).trans h3
       have h5:fndS (w.re b).rests n=some a:=h2
       simp only[Wr.nameGo,if_pos h1,h5,h4,if_true,Bool.false_eq_true,if_false]
     |false =>
      refine⟨_,hpc,?_,fun b hb=>?_⟩
      ·simp only[Wr.nameGo,if_pos h1,h2,h3,Bool.false_eq_true,if_false]
      ·have h4:(w.re b).fits (n.take (1+bt n 0))=false:=(fits_re w _ hb).trans h3
       have h5:fndS (w.re b).rests n=some a:=h2
       simp only[Wr.nameGo,if_pos h1,h5,h4,Bool.false_eq_true,if_false]
   |none =>
    cases h3:w.fits (n.take (1+bt n 0)) with
    |true =>
     have hpb:∀ w:Wr,w.fits (n.take (1+bt n 0))=true→(w.piece (n.take (1+bt n 0))).rests=w.rests:=fun w h=>by unfold Wr.piece;rw[if_pos h]
     by_cases h6:w.buf.length<16384
     ·refine⟨_,(hpc.comp (add_op (n,(w.buf.length:Int)))).comp ih,?_,fun b hb=>?_⟩
      ·simp only[Wr.nameGo,if_pos h1,h2,h3,if_true,if_pos h6,hpb w h3]
      ·have h4:(w.re b).fits (n.take (1+bt n 0))=true:=(fits_re w _ hb).trans h3
       have h5:fndS (w.re b).rests n=none:=h2
       have h7:(w.re b).buf.length=w.buf.length:=hb
       simp only[Wr.nameGo,if_pos h1,h5,h4,if_true,h7,if_pos h6,hpb _ h4]
     ·refine⟨_,hpc.comp ih,?_,fun b hb=>?_⟩
      ·simp only[Wr.nameGo,if_pos h1,h2,h3,if_true,if_neg h6]
      ·have h4:(w.re b).fits (n.take (1+bt n 0))=true:=(fits_re w _ hb).trans h3
       have h5:fndS (w.re b).rests n=none:=h2
       have h7:(w.re b).buf.length=w.buf.length:=hb
       simp only[Wr.nameGo,if_pos h1,h5,h4,if_true,h7,if_neg h6]
    |false =>
     refine⟨_,hpc,?_,fun b hb=>?_⟩
     ·simp only[Wr.nameGo,if_pos h1,h2,h3,Bool.false_eq_true,if_false]
     ·have h4:(w.re b).fits (n.take (1+bt n 0))=false:=(fits_re w _ hb).trans h3
      have h5:fndS (w.re b).rests n=none:=h2
      simp only[Wr.nameGo,if_pos h1,h5,h4,Bool.false_eq_true,if_false]
  ·refine⟨_,piece_op n,?_,fun b _=>?_⟩
   ·simp only[Wr.nameGo,if_neg h1]
   ·simp only[Wr.nameGo,if_neg h1]
theorem name_op(n:List UInt8)(p:Bool):WOp (fun w=>w.name n p):=by
 refine WOp.of fun w=>?_
 by_cases h:w.full=true∨¬ isName n
 ·exact⟨_,WOp.id,by show w.name n p=_;unfold Wr.name;rw[if_pos h],fun b _=>by show(w.re b).name n p=_;unfold Wr.name;exact if_pos h⟩
 ·exact⟨_,nameGo_op p n.length n,by show w.name n p=_;unfold Wr.name;rw[if_neg h],fun b _=>by show(w.re b).name n p=_;unfold Wr.name;exact if_neg h⟩
theorem names_op(p:Bool)(l:List (List UInt8)):WOp (fun w=>w.names p l):=by
 induction l with
 |nil=>exact WOp.id
 |cons n l ih=>exact(name_op n p).comp ih
theorem num_op(k:Nat)(n:Int):WOp (fun w=>w.num k n):=piece_op _
theorem copies_op(width:Nat):∀ (m:Nat) (r:Rdr),WOp (fun w=>(w.copies width m r).1)
 |0,_=>WOp.id
 |m+1,_=>(num_op width _).comp (copies_op width m _)
theorem rdata_op(t:Int)(s:List UInt8):WOp (fun w=>(w.rdata t s).1):=by
 cases h:rcheck t s
 ·have e:(fun w:Wr=>(w.rdata t s).1)=fun w=>w:=funext fun w=>by unfold Wr.rdata;rw[h];rfl
  rw[e]
  exact WOp.id
 ·cases hl:lookF t s with
  |none =>
   have e:(fun w:Wr=>(w.rdata t s).1)=fun w=>w.piece s:=funext fun w=>by unfold Wr.rdata;rw[h,hl];rfl
   rw[e]
   exact piece_op s
  |some q =>
   obtain⟨p,x,l,r⟩:=q
   have e:(fun w:Wr=>(w.rdata t s).1)=fun w=>(((w.copies 2 p.1 ⟨x,0,false⟩).1.names (t != 33) l).copies 4 p.2.2 ⟨r,0,false⟩).1:=funext fun w=>by unfold Wr.rdata;rw[h,hl];rfl
   rw[e]
   exact((copies_op 2 p.1 _).comp (names_op _ l)).comp (copies_op 4 p.2.2 _)
theorem WOp.pre{f:Wr→Wr}(h:WOp f)(w:Wr):w.buf <+: (f w).buf:=by
 obtain⟨d,h1,_⟩:=h.blind w
 exact⟨d,h1.symm⟩
theorem namesF_eq:∀ (n:Nat) (s:List UInt8) (l:List (List UInt8)) (r:List UInt8),namesF n s=some (l,r)→l.flatten++r=s∧l.length=n∧∀ x ∈ l,isName x
 |0,s,l,r,h=>by
  obtain⟨rfl,rfl⟩:=Prod.mk.inj (Option.some.inj h)
  exact⟨rfl,rfl,fun x hx=>by cases hx⟩
 |n+1,s,l,r,h=>by
  simp only [namesF] at h
  split at h
  ·cases h
  ·rename_i h0
   obtain⟨p,hp,h2⟩:=Option.map_eq_some_iff.1 h
   obtain⟨rfl,rfl⟩:=Prod.mk.inj h2
   obtain⟨a1,a2,a3⟩:=namesF_eq n _ _ _ hp
   refine⟨?_,by simp[a2],fun x hx=>?_⟩
   ·rw[List.flatten_cons,List.append_assoc,a1,List.take_append_drop]
   ·rcases List.mem_cons.1 hx with rfl|hx
    ·exact firstF_name s _ _ h0
    ·exact a3 x hx
theorem numOf_be(k:Nat)(hk:k=2∨k=4)(x:List UInt8)(hx:x.length=k):be k (numOf x:Nat)=x∧(k=2∧numOf x<65536∨k=4∧numOf x<4294967296):=by
 rcases hk with rfl|rfl
 ·obtain⟨a,b,rfl⟩:∃ a b,x=[a,b]:=(match x,hx with|[a,b],_=>⟨a,b,rfl⟩)
  have ha:=UInt8.toNat_lt a
  have hb:=UInt8.toNat_lt b
  have e:numOf [a,b]=a.toNat * 256+b.toNat:=by show(0 * 256+a.toNat) * 256+b.toNat=_;omega
  rw[e]
  refine⟨?_,.inl ⟨rfl,by omega⟩⟩
  rw[be2 _ (by omega)]
  have e1:(a.toNat * 256+b.toNat) / 256=a.toNat:=by omega
  have e2:(a.toNat * 256+b.toNat) % 256=b.toNat:=by omega
  rw[e1,e2,UInt8.ofNat_toNat,UInt8.ofNat_toNat]
 ·obtain⟨a,b,c,d,rfl⟩:∃ a b c d,x=[a,b,c,d]:=(match x,hx with|[a,b,c,d],_=>⟨a,b,c,d,rfl⟩)
  have ha:=UInt8.toNat_lt a
  have hb:=UInt8.toNat_lt b
  have hc:=UInt8.toNat_lt c
  have hd:=UInt8.toNat_lt d
  have e:numOf [a,b,c,d]=((a.toNat * 256+b.toNat) * 256+c.toNat) * 256+d.toNat:=by show(((0 * 256+a.toNat) * 256+b.toNat) * 256+c.toNat) * 256+d.toNat=_;omega
  rw[e]
  refine⟨?_,.inr ⟨rfl,by omega⟩⟩
  have h1:∀ n:Nat,be 4 (n:Int)=[UInt8.ofNat (IntKind.u8.wrap ((n:Int).fdiv 16777216)).toNat,UInt8.ofNat (IntKind.u8.wrap ((n:Int).fdiv 65536)).toNat,UInt8.ofNat (IntKind.u8.wrap ((n:Int).fdiv 256)).toNat,UInt8.ofNat (IntKind.u8.wrap ((n:Int).fdiv 1)).toNat]:=fun n=>rfl
  rw[h1]
  rw[Int.fdiv_eq_ediv_of_nonneg _ (by decide),Int.fdiv_eq_ediv_of_nonneg _ (by decide),Int.fdiv_eq_ediv_of_nonneg _ (by decide),Int.fdiv_eq_ediv_of_nonneg _ (by decide)]
  rw[IntKind.wrap_u8,IntKind.wrap_u8,IntKind.wrap_u8,IntKind.wrap_u8]
  generalize hN:((a.toNat * 256+b.toNat) * 256+c.toNat) * 256+d.toNat=N
  have e1:(((N:Int) / 16777216 % 256).toNat)=a.toNat:=by omega
  have e2:(((N:Int) / 65536 % 256).toNat)=b.toNat:=by omega
  have e3:(((N:Int) / 256 % 256).toNat)=c.toNat:=by omega
  have e4:(((N:Int) / 1 % 256).toNat)=d.toNat:=by omega
  rw[e1,e2,e3,e4,UInt8.ofNat_toNat,UInt8.ofNat_toNat,UInt8.ofNat_toNat,UInt8.ofNat_toNat]
theorem copies_back(k:Nat)(hk:k=2∨k=4):∀ (m:Nat) (w:Wr) (x:List UInt8) (p:Nat),p+k * m=x.length→(w.copies k m ⟨x,p,false⟩).1.full=false →
 (w.copies k m ⟨x,p,false⟩).1.buf=w.buf++x.drop p∧(w.copies k m ⟨x,p,false⟩).1.rests=w.rests
 |0,w,x,p,hp,_=>by
  show w.buf=w.buf++x.drop p∧_
  rw[List.drop_of_length_le (by omega),List.append_nil]
  exact⟨rfl,rfl⟩
 |m+1,w,x,p,hp,hf=>by
  have hmul:k * (m+1)=k * m+k:=rfl
  have hk0:0<k:=by omega
  have hraw:(Rdr.mk x p false).raw (k:Nat)=(⟨x,p+k,false⟩,(x.drop p).take k):=by
   unfold Rdr.raw
   rw[if_neg (by simp),if_neg (by show ¬ (((k:Nat):Int)<0∨((k:Nat):Int) > (x.length:Int) - p);omega),Int.toNat_natCast]
  have hnum:(Rdr.mk x p false).num k=(⟨x,p+k,false⟩,numOf ((x.drop p).take k)):=by
   unfold Rdr.num
   rw[hraw]
   rfl
  have hxl:((x.drop p).take k).length=k:=by rw[List.length_take,List.length_drop];omega
  obtain⟨hbe,_⟩:=numOf_be k hk _ hxl
  have e:w.copies k (m+1) ⟨x,p,false⟩=(w.piece ((x.drop p).take k)).copies k m ⟨x,p+k,false⟩:=by
   show(w.num k ((Rdr.mk x p false).num k).2).copies k m ((Rdr.mk x p false).num k).1=_
   rw[hnum]
   show(w.piece (be k ((numOf ((x.drop p).take k):Nat):Int))).copies k m _=_
   rw[hbe]
  rw [e] at hf ⊢
  obtain⟨a1,a2⟩:=copies_back k hk m _ x (p+k) (by omega) hf
  have hpf:(w.piece ((x.drop p).take k)).full=false:=(copies_op k m _).full _ hf
  obtain⟨b1,b2,_⟩:=piece_fit_rests hpf
  refine⟨?_,a2.trans b1⟩
  rw[a1,b2,List.append_assoc,←List.drop_drop,List.take_append_drop]
theorem names_back(p:Bool):∀ (l:List (List UInt8)) (w:Wr),(∀ n ∈ l,isName n)→RO w→(w.names p l).full=false →
 RO (w.names p l)∧∀ b,Reads w (w.names p l) (fun r=>Rdr.names l.length r b) (b++l.flatten)
 |[],w,_,hro,_=>⟨hro,fun b S _=>by show(_,b)=_;simp[Wr.names]⟩
 |n :: l,w,hl,hro,hf=>by
  have hf:((w.name n p).names p l).full=false:=hf
  have h1:=(names_op p l).full _ hf
  have h0:=(name_op n p).full _ h1
  obtain⟨a1,_,a3⟩:=name_back h0 hro (hl n (List.mem_cons_self ..)) p h1
  obtain⟨b1,b2⟩:=names_back p l (w.name n p) (fun x hx=>hl x (List.mem_cons_of_mem _ hx)) a1 hf
  refine⟨b1,fun b S hS=>?_⟩
  show Rdr.names l.length (Rdr.mk S w.buf.length false).name.1 (b++(Rdr.mk S w.buf.length false).name.2)=_
  rw[a3 S (((names_op p l).pre _).trans hS)]
  rw[List.flatten_cons,←List.append_assoc]
  exact b2 (b++n) S hS
theorem formOf_cases{t:Int}{f:Nat × Nat × Nat}(h:formOf t=some f):t≠1∧t≠28∧t≠16:=by
 unfold formOf at h
 repeat'(split at h)
 all_goals first|omega|cases h
theorem raw_reads{w w1:Wr}{x:List UInt8}(h:w1.buf=w.buf++x):Reads w w1 (fun r=>r.raw x.length) x:=by
 intro S ⟨t,ht⟩
 have:=raw_back w.buf x t
 rw [←h,ht] at this
 exact this
theorem rdata_back{w:Wr}(hro:RO w){t:Int}{s:List UInt8}(hs:rcheck t s=true)(hf:(w.rdata t s).1.full=false) :
 RO (w.rdata t s).1∧∀ S,(w.rdata t s).1.buf <+: S→(Rdr.mk S w.buf.length false).rdata t ((w.rdata t s).1.buf.length - w.buf.length:Nat)=(s,0) ∧
  ((Rdr.mk S w.buf.length false).part ((w.rdata t s).1.buf.length - w.buf.length:Nat)).1=⟨S,(w.rdata t s).1.buf.length,false⟩:=by
 obtain⟨d,hd⟩:=(rdata_op t s).pre w
 have hd:w.buf++d=(w.rdata t s).1.buf:=hd
 have hdl:(w.rdata t s).1.buf.length - w.buf.length=d.length:=by rw[←hd,List.length_append];omega
 -- what lies there
 have body:RO (w.rdata t s).1∧(Rdr.mk (w.rdata t s).1.buf w.buf.length false).body t d.length=(⟨(w.rdata t s).1.buf,(w.rdata t s).1.buf.length,false⟩,s):=by
  cases hfo:formOf t with
  |none =>
   have hl:lookF t s=none:=by unfold lookF;rw[hfo];split <;> rfl
   have e:(w.rdata t s).1=w.piece s:=by unfold Wr.rdata;rw[hs,hl];rfl
   rw [e] at hf hd ⊢
   obtain⟨b1,b2,_⟩:=piece_fit_rests hf
   have:d=s:=List.append_cancel_left (hd.trans b2)
   subst this
   refine⟨hro.more b2 b1,?_⟩
   unfold Rdr.body
   rw[hfo]
   exact raw_reads b2 _ (List.prefix_refl _)
  |some f =>
   obtain⟨t1,t2,t3⟩:=formOf_cases hfo
   have hcs:=hs
   unfold rcheck rgood at hcs
   rw [if_neg t1,if_neg t2,if_neg t3,hfo] at hcs
   simp only [Bool.and_eq_true,decide_eq_true_eq] at hcs
   obtain⟨c1,c2⟩:=hcs
   obtain⟨⟨x,l,r⟩,hcut⟩:=Option.isSome_iff_exists.1 c2
   have hl:lookF t s=some (f,x,l,r):=by unfold lookF;rw[if_pos c1,hfo];show(cutF f.1 f.2.1 f.2.2 s).map _=_;rw[hcut];rfl
   obtain⟨_,_,e1,e2,e3,e4⟩:=lookF_le hl
   obtain⟨n1,n2,n3⟩:=namesF_eq _ _ _ _ e3
   have hx:x.length=2 * f.1:=by rw[e1,List.length_take];omega
   have hcat:x++l.flatten++r=s:=by rw[List.append_assoc,n1,e1,List.take_append_drop]
   have e:(w.rdata t s).1=(((w.copies 2 f.1 ⟨x,0,false⟩).1.names (t != 33) l).copies 4 f.2.2 ⟨r,0,false⟩).1:=by unfold Wr.rdata;rw[hs,hl];rfl
   rw [e] at hf hd ⊢
   have f2:=(copies_op 4 f.2.2 _).full _ hf
   have f1:=(names_op _ l).full _ f2
   obtain⟨g1,g2⟩:=copies_back 2 (.inl rfl) f.1 w x 0 (by omega) f1
   obtain⟨g3,g4⟩:=copies_back 4 (.inr rfl) f.2.2 _ r 0 (by omega) hf
   rw [List.drop_zero] at g1 g3
   obtain⟨k1,k2⟩:=names_back (t != 33) l _ n3 (hro.more g1 g2) f2
   refine⟨k1.more g3 g4,?_⟩
   have p2:((w.copies 2 f.1 ⟨x,0,false⟩).1.names (t != 33) l).buf <+: _:=(copies_op 4 f.2.2 ⟨r,0,false⟩).pre ((w.copies 2 f.1 ⟨x,0,false⟩).1.names (t != 33) l)
   have p1:(w.copies 2 f.1 ⟨x,0,false⟩).1.buf <+: ((w.copies 2 f.1 ⟨x,0,false⟩).1.names (t != 33) l).buf:=(names_op (t != 33) l).pre (w.copies 2 f.1 ⟨x,0,false⟩).1
   clear f1 f2 e g2 g4 k1 hf hd
   generalize (((w.copies 2 f.1 ⟨x,0,false⟩).1.names (t != 33) l).copies 4 f.2.2 ⟨r,0,false⟩).1=w3 at p2 g3 ⊢
   generalize (w.copies 2 f.1 ⟨x,0,false⟩).1.names (t != 33) l=w2 at p2 p1 g3 k2
   generalize (w.copies 2 f.1 ⟨x,0,false⟩).1=w1 at p1 g1 k2
   have r1:∀ S,w1.buf <+: S→(Rdr.mk S w.buf.length false).raw x.length=(⟨S,w1.buf.length,false⟩,x):=raw_reads g1
   have r3:∀ S,w3.buf <+: S→(Rdr.mk S w2.buf.length false).raw r.length=(⟨S,w3.buf.length,false⟩,r):=raw_reads g3
   have k2:∀ b S,w2.buf <+: S→Rdr.names l.length ⟨S,w1.buf.length,false⟩ b=(⟨S,w2.buf.length,false⟩,b++l.flatten):=k2
   unfold Rdr.body
   rw[hfo]
   show(((Rdr.names f.2.1 ((Rdr.mk _ w.buf.length false).raw (2 * (f.1:Int))).1 ((Rdr.mk _ w.buf.length false).raw (2 * (f.1:Int))).2).1.raw (4 * (f.2.2:Int))).1,_++((Rdr.names f.2.1 ((Rdr.mk _ w.buf.length false).raw (2 * (f.1:Int))).1 ((Rdr.mk _ w.buf.length false).raw (2 * (f.1:Int))).2).1.raw (4 * (f.2.2:Int))).2)=_
   have q1:(2 * (f.1:Int))=((x.length:Nat):Int):=by omega
   have q2:(4 * (f.2.2:Int))=((r.length:Nat):Int):=by omega
   rw[q1,q2,r1 _ (p1.trans p2),←n2,k2 x _ p2,r3 _ (List.prefix_refl _)]
   show(_,x++l.flatten++r)=_
   rw[hcat]
 refine⟨body.1,fun S hS=>?_⟩
 rw[hdl]
 have hraw:=raw_reads hd.symm S hS
 have hraw:(Rdr.mk S w.buf.length false).raw (d.length:Nat)=(⟨S,(w.rdata t s).1.buf.length,false⟩,d):=hraw
 have htake:S.take (w.rdata t s).1.buf.length=(w.rdata t s).1.buf:=by
  obtain⟨u,hu⟩:=hS
  rw[←hu,List.take_left]
 have hpart:(Rdr.mk S w.buf.length false).part (d.length:Nat)=(⟨S,(w.rdata t s).1.buf.length,false⟩,⟨(w.rdata t s).1.buf,w.buf.length,false⟩):=by
  unfold Rdr.part
  rw[hraw]
  show(_,if false=true then _ else (⟨S.take (w.rdata t s).1.buf.length,if false=true then 0 else w.buf.length,false⟩:Rdr))=_
  rw[if_neg (by simp),if_neg (by simp),htake]
 refine⟨?_,by rw[hpart]⟩
 unfold Rdr.rdata
 rw[hpart]
 show(if false=true then _ else _)=_
 rw[if_neg (by simp)]
 show(if (((Rdr.mk (w.rdata t s).1.buf w.buf.length false).body t (d.length:Nat)).1.bad || decide (0<((Rdr.mk (w.rdata t s).1.buf w.buf.length false).body t (d.length:Nat)).1.s.length - ((Rdr.mk (w.rdata t s).1.buf w.buf.length false).body t (d.length:Nat)).1.p) || !rcheck t ((Rdr.mk (w.rdata t s).1.buf w.buf.length false).body t (d.length:Nat)).2)=true then _ else (((Rdr.mk (w.rdata t s).1.buf w.buf.length false).body t (d.length:Nat)).2,(0:Int)))=_
 rw[body.2]
 show(if (false || decide (0<(w.rdata t s).1.buf.length - (w.rdata t s).1.buf.length) || !rcheck t s)=true then _ else (s,(0:Int)))=_
 rw[hs,Nat.sub_self]
 rfl
theorem record_lim(w:Wr)(r:RR):(w.record r).1.limit=w.limit:=by
 unfold Wr.record
 split
 ·have hset:∀ (a:Wr) (i n:Int),(a.set i n).limit=a.limit:=fun a i n=>by unfold Wr.set;split <;> rfl
  exact(hset _ _ _).trans (((((((name_op r.nm true).comp (num_op 2 r.ty)).comp (num_op 2 r.cl)).comp (num_op 4 r.ttl)).comp (num_op 2 0)).comp (rdata_op r.ty r.d)).lim w)
 ·rfl
theorem record_back{w:Wr}(hok:w.Ok)(hlim:w.limit≤65536)(hro:RO w){r:RR}(hc:r.check=true)(ho:r.Ok)(hf:(w.record r).1.full=false) :
 w.full=false∧RO (w.record r).1∧w.buf <+: (w.record r).1.buf∧∀ S,(w.record r).1.buf <+: S→(Rdr.mk S w.buf.length false).recd=(⟨S,(w.record r).1.buf.length,false⟩,r,0):=by
 have hcs:=hc
 simp only [RR.check,Bool.and_eq_true,Bool.or_eq_true,decide_eq_true_eq,beq_iff_eq] at hcs
 obtain⟨⟨c1,c2⟩,c3⟩:=hcs
 obtain⟨ty,hty⟩:∃ n:Nat,r.ty=n:=⟨r.ty.toNat,by have:=ho.ty;omega⟩
 obtain⟨cl,hcl⟩:∃ n:Nat,r.cl=n:=⟨r.cl.toNat,by have:=ho.cl;omega⟩
 obtain⟨tt,htt⟩:∃ n:Nat,r.ttl=n:=⟨r.ttl.toNat,by have:=ho.ttl;omega⟩
 have hty':ty<65536:=by have:=ho.ty;omega
 have hcl':cl<65536:=by have:=ho.cl;omega
 have htt':tt<4294967296:=by have:=ho.ttl;omega
 generalize hw0:w.name r.nm true=wa
 generalize hwb:wa.num 2 r.ty=wb
 generalize hwc:wb.num 2 r.cl=wc
 generalize hwd:wc.num 4 r.ttl=w1
 obtain⟨d,hd1,hd2⟩:=(rdata_op r.ty r.d).blind (w1.num 2 0)
 have hd1:((w1.num 2 0).rdata r.ty r.d).1.buf=(w1.num 2 0).buf++d:=hd1
 have hoks:((w1.num 2 0).rdata r.ty r.d).1.Ok:=by
  rw[←hwd,←hwc,←hwb,←hw0]
  exact Wr.Ok.rdata (((((hok.name _ _).num _ _).num _ _).num _ _).num _ _) _ _
 have hlims:((w1.num 2 0).rdata r.ty r.d).1.limit=w.limit:=by
  rw[←hwd,←hwc,←hwb,←hw0]
  exact((((((name_op r.nm true).comp (num_op 2 r.ty)).comp (num_op 2 r.cl)).comp (num_op 4 r.ttl)).comp (num_op 2 0)).comp (rdata_op r.ty r.d)).lim w
 have hrec:w.record r=(((w1.num 2 0).rdata r.ty r.d).1.set w1.buf.length (IntKind.u16.wrap ((((w1.num 2 0).rdata r.ty r.d).1.buf.length:Int) - (w1.num 2 0).buf.length)),((w1.num 2 0).rdata r.ty r.d).2):=by
  rw[←hwd,←hwc,←hwb,←hw0]
  unfold Wr.record
  rw[if_pos hc]
 have hsetf:∀ (a:Wr) (i n:Int),(a.set i n).full=a.full:=fun a i n=>by unfold Wr.set;split <;> rfl
 rw [hrec] at hf ⊢
 have hf:(((w1.num 2 0).rdata r.ty r.d).1.set w1.buf.length (IntKind.u16.wrap ((((w1.num 2 0).rdata r.ty r.d).1.buf.length:Int) - (w1.num 2 0).buf.length))).full=false:=hf
 rw [hsetf] at hf
 have hf2:=(rdata_op r.ty r.d).full _ hf
 obtain⟨hfit,hpc,hf1⟩:=piece_fit hf2
 have hpc:w1.num 2 0 = { w1 with buf:=w1.buf++be 2 0 }:=hpc
 have hlen2:((w1.num 2 0).buf).length=w1.buf.length+2:=by rw[hpc];show(w1.buf++be 2 0).length=_;rw[List.length_append];rfl
 have hdlen:d.length≤65535:=by
  have:=hoks.len
  rw [hd1,List.length_append,hlims,hlen2] at this
  omega
 have hL:IntKind.u16.wrap ((((w1.num 2 0).rdata r.ty r.d).1.buf.length:Int) - (w1.num 2 0).buf.length)=(d.length:Int):=by
  rw[hd1,List.length_append,IntKind.wrap_u16]
  omega
 rw[hL]
 have hfitL:w1.fits (be 2 (d.length:Int))=true:=hfit
 have hpcL:w1.num 2 (d.length:Int) = { w1 with buf:=w1.buf++be 2 (d.length:Int) }:=by
  show w1.piece _=_
  unfold Wr.piece
  rw[if_pos hfitL]
 have hre:w1.num 2 (d.length:Int)=(w1.num 2 0).re (w1.buf++be 2 (d.length:Int)):=by rw[hpcL,hpc];rfl
 have hrd:=hd2 (w1.buf++be 2 (d.length:Int)) (by rw[List.length_append,hlen2];rfl)
 have hrd:(((w1.num 2 0).re (w1.buf++be 2 (d.length:Int))).rdata r.ty r.d).1=((w1.num 2 0).rdata r.ty r.d).1.re (w1.buf++be 2 (d.length:Int)++d):=hrd
 rw [←hre] at hrd
 have hset:((w1.num 2 0).rdata r.ty r.d).1.set w1.buf.length (d.length:Int)=((w1.num 2 (d.length:Int)).rdata r.ty r.d).1:=by
  rw[hrd]
  unfold Wr.set
  have hbl:((w1.num 2 0).rdata r.ty r.d).1.buf.length=w1.buf.length+2+d.length:=by rw[hd1,List.length_append,hlen2]
  rw[if_neg (by rw[hbl];omega),Int.toNat_natCast,hd1,hpc]
  unfold Wr.re
  congr 1
  show two (w1.buf++be 2 0++d) w1.buf.length _ _=_
  unfold two
  rw[List.append_assoc,List.take_left,List.append_assoc]
  congr 1
  rw[be2 _ (show d.length<65536 by omega)]
  have q0:(w1.buf++(be 2 0++d)).drop (w1.buf.length+2)=d:=by
   rw[←List.drop_drop,List.drop_left]
   rfl
  rw[q0]
  have q1:(d.length:Int).fdiv 256=((d.length / 256:Nat):Int):=by rw[Int.fdiv_eq_ediv_of_nonneg _ (by decide)];omega
  rw[q1,IntKind.wrap_u8,IntKind.wrap_u8]
  show _ :: _ :: d=[_,_]++d
  congr 2
  congr 2
  omega
 rw[hset]
 have hfR:((w1.num 2 (d.length:Int)).rdata r.ty r.d).1.full=false:=by rw[hrd];exact hf
 clear hrec hset hre hd2 hoks hlims hf hf2 hfit hfitL
 have fL:(w1.num 2 (d.length:Int)).full=false:=(rdata_op r.ty r.d).full _ hfR
 have f1:w1.full=false:=(num_op 2 _).full _ fL
 rw [←hwd] at f1
 have fc:wc.full=false:=(num_op 4 _).full _ f1
 rw [←hwc] at fc
 have fb:wb.full=false:=(num_op 2 _).full _ fc
 rw [←hwb] at fb
 have fa:wa.full=false:=(num_op 2 _).full _ fb
 rw [←hw0] at fa
 have f0:w.full=false:=(name_op r.nm true).full _ fa
 obtain⟨ra,pa,va⟩:=name_back f0 hro c1 true fa
 rw [hw0] at ra pa va
 rw [hty] at fb hwb
 obtain⟨_,rb,pb,vb⟩:=num_back ra 2 ty (.inl ⟨rfl,hty'⟩) fb
 rw [hwb] at rb pb vb
 rw [hcl] at fc hwc
 obtain⟨_,rc,pc,vc⟩:=num_back rb 2 cl (.inl ⟨rfl,hcl'⟩) fc
 rw [hwc] at rc pc vc
 rw [htt] at f1 hwd
 obtain⟨_,rd,pd,vd⟩:=num_back rc 4 tt (.inr ⟨rfl,htt'⟩) f1
 rw [hwd] at rd pd vd
 obtain⟨_,re,pe,ve⟩:=num_back rd 2 d.length (.inl ⟨rfl,by omega⟩) fL
 obtain⟨rf,vf⟩:=rdata_back re c2 hfR
 have pf:=(rdata_op r.ty r.d).pre (w1.num 2 (d.length:Int))
 refine⟨f0,rf,(((pa.trans pb).trans pc).trans pd).trans (pe.trans pf),fun S hS=>?_⟩
 obtain⟨vf1,vf2⟩:=vf S hS
 have hS:((w1.num 2 (d.length:Int)).rdata r.ty r.d).1.buf <+: S:=hS
 have s5:=pf.trans hS
 have s4:=pe.trans s5
 have s3:=pd.trans s4
 have s2:=pc.trans s3
 have s1:=pb.trans s2
 have hdl:((w1.num 2 (d.length:Int)).rdata r.ty r.d).1.buf.length - (w1.num 2 (d.length:Int)).buf.length=d.length:=by
  rw[hrd,hpcL]
  show(w1.buf++be 2 (d.length:Int)++d).length - (w1.buf++be 2 (d.length:Int)).length=_
  simp only[List.length_append]
  omega
 rw [hdl] at vf1 vf2
 unfold Rdr.recd
 rw[va S s1]
 dsimp only
 have vb:(Rdr.mk S wa.buf.length false).num 2=_:=vb S s2
 rw[vb]
 dsimp only
 have vc:(Rdr.mk S wb.buf.length false).num 2=_:=vc S s3
 rw[vc]
 dsimp only
 have vd:(Rdr.mk S wc.buf.length false).num 4=_:=vd S s4
 rw[vd]
 dsimp only
 have ve:(Rdr.mk S w1.buf.length false).num 2=_:=ve S s5
 rw[ve]
 dsimp only
 rw[if_neg (by simp)]
 have x1:IntKind.u16.wrap (ty:Int)=r.ty:=by rw[IntKind.wrap_u16,hty];omega
 have x2:IntKind.i64.wrap (d.length:Int)=(d.length:Int):=w64_in _ (by omega)
 have x3:IntKind.u16.wrap (cl:Int)=r.cl:=by rw[IntKind.wrap_u16,hcl];omega
 have x4:IntKind.u32.wrap (tt:Int)=r.ttl:=by rw[IntKind.wrap_u32,htt];omega
 rw[x1,x2,x3,x4,vf1,vf2]
 dsimp only
 rw[if_neg (by simp),if_neg (by rintro ⟨h1,h2⟩;rcases c3 with h|h <;> omega)]
end Go.Proofs.YtdfdlbnojmlpiaaGreatDoor
namespace Go.Proofs.YtdfdlbnojmlpiaaGreatDoor
open Go Go.Eng
theorem new_among{P:Program}{f:FuncId}{al:List SV}{K:KB}(hK:∀ σ,mapK σ K=K)(h:COk P f al [] (fun r k=>r = .ptr 0 0∧k=[K]))(pre:List KB)(ha:∀ σ,mapL σ al=al):COk P f al pre (fun r k=>r = .ptr pre.length 0∧k=pre++[K]):=by
 have:=h.among pre [] (fun s k _=>Nat.zero_le _) rfl
 rw [ha] at this
 have e:pre++(mapB (sig (List.range' pre.length ([]:List KB).length) (pre.length+(([]:List KB).length+([]:List KB).length))) []++[])=pre:=by simp[mapB]
 rw [e] at this
 refine this.imp fun s k ⟨s0,k1,⟨hr,hk1⟩,hs,hk⟩=>?_
 subst hr hk1
 refine⟨by rw[hs];rfl,?_⟩
 rw[hk]
 show pre++([]++([]++[mapK _ K]))=_
 rw[hK]
 rfl
end Go.Proofs.YtdfdlbnojmlpiaaGreatDoor
