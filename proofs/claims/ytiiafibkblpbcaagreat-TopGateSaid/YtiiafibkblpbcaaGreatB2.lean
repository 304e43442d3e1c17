/-
  Part of the proof: lemmas about the functions that the row calls, and about the steps of a run. Conditions: those ahead of each lemma.
-/
import Derived.Test.YtiiafibkblpbcaaGreatB1
import Derived.Test.YtiiafibkblpbcaaGreatM4
set_option linter.unusedVariables false
set_option linter.unusedSimpArgs false
set_option maxRecDepth 100000
set_option maxHeartbeats 64000000
namespace Go.Proofs.YtiiafibkblpbcaaGreat
open Go Go.Eng
structure Opt where
 code:Int
 data:List UInt8
deriving Inhabited
def Opt.enc(o:Opt):List DV:=[.int .u16 o.code,.str o.data]
def optsD(z:Bool)(l:List Opt):DV:=.sl z l.length 2 (fun i=>(l.getD i default).enc)
def typedV(t:Int):SV:=.fn 135 [.dptr [.int .u16 t] 0]
def codedV(t:Int):SV:=.fn 146 [.dptr [.int .u16 t] 0]
theorem typed_ok(t:Int):FnOk Tryz.prog 71 [.d (.int .u16 t)] (typedV t):=by
 refine COk.clos (t:=25) ?_
 refine ya (TT:=TT) (IN:=qa []) qd qc mixed 1000 Tryz.func71 rfl (qb Tryz.func71 (by kernel_rfl) rfl) 3 (by kernel_rfl) ?_
 conv=>whnf
 refine⟨[0],.fn 135 [.ptr 0 0],[.cells 25 [.d (.int .u16 t)]],rfl,rfl,rfl,?_,rfl,rfl⟩
 repeat'(first|exact ⟨⟩|exact rfl|exact fun _=>Iff.rfl|exact fun _ _=>rfl|exact renM_ent rfl _|apply And.intro)
theorem coded_ok(t:Int):FnOk Tryz.prog 90 [.d (.int .u16 t)] (codedV t):=by
 refine COk.clos (t:=24) ?_
 refine ya (TT:=TT) (IN:=qa []) qd qc mixed 1000 Tryz.func90 rfl (qb Tryz.func90 (by kernel_rfl) rfl) 3 (by kernel_rfl) ?_
 conv=>whnf
 refine⟨[0],.fn 146 [.ptr 0 0],[.cells 24 [.d (.int .u16 t)]],rfl,rfl,rfl,?_,rfl,rfl⟩
 repeat'(first|exact ⟨⟩|exact rfl|exact fun _=>Iff.rfl|exact fun _ _=>rfl|exact renM_ent rfl _|apply And.intro)
def idxI{α:Type}(p:α->Bool)(l:List α):Int:=match l.findIdx? p with
 |some i=>i
 |none=>-1
theorem qs8{α:Type}{p:α->Bool}{l:List α}(h:∀ x ∈ l,p x=false):idxI p l = -1:=by
 unfold idxI
 rw[List.findIdx?_eq_none_iff.2 h]
theorem qi0{α:Type}{p:α->Bool}{l:List α}{i:Nat}{a:α}(hi:l[i]? = some a)(ha:p a=true)(h:∀ x ∈ l.take i,p x=false):idxI p l=i:=by
 unfold idxI
 have:l.findIdx? p=some i:=by
  rw[List.findIdx?_eq_some_iff_getElem]
  obtain⟨h1,h2⟩:=List.getElem?_eq_some_iff.1 hi
  refine⟨h1,by rw[h2];exact ha,fun j hj=>?_⟩
  rw[h _ (List.mem_take_iff_getElem.2 ⟨j,by omega,rfl⟩)]
  simp
 rw[this]
theorem qs4(z:Bool)(l:List RR)(t:Int)(hl:l.length<4611686018427387904):FnOk Tryz.prog 73 [.d (rrsD z l),typedV t] (.d (.int .i64 (idxI (fun r=>r.ty == t) l))):=by
 refine qi (TT:=TT) (IN:=qa [(135,Tryz.f135,2)]) qd (qt qc Tryz.func135 (by kernel_rfl) (by kernel_rfl)) mixed 1000 Tryz.func73 rfl (qb Tryz.func73 (by kernel_rfl) rfl) rfl 17 (by kernel_rfl) ?_
 conv=>whnf
 refine .inv Nat (fun i=>i<=l.length/\∀ x ∈ l.take i,(x.ty == t)=false) (fun i=>[(8,.d (.int .i64 i))]) (fun _=>[]) (fun i=>l.length - i) ⟨0,[],⟨Nat.zero_le _,fun x hx=>by simp at hx⟩,?_⟩ ?_
 ·conv=>whnf
  repeat'(first|exact ⟨⟩|exact rfl|exact fun _=>Iff.rfl|exact fun _ _=>rfl|exact renM_ent rfl _|apply And.intro)
 rintro i ⟨hi,hall⟩
 conv=>whnf
 refine⟨fun c5=>?_,fun c5=>?_⟩
 ·have c5':i<l.length:=(by have h:(i:Int)<l.length:=of_decide_eq_true c5;omega)
  obtain⟨q,hq⟩:∃ q,l.getD i default=q:=⟨_,rfl⟩
  have hq2:l[i]? = some q:=by rw[<-hq,List.getD,List.getElem?_eq_getElem c5'];rfl
  have htk:l.take (i+1)=l.take i++[q]:=by rw[List.take_add_one,hq2];rfl
  conv=>whnf
  refine⟨by omega,?_⟩
  conv=>whnf
  rw[Int.toNat_natCast,hq]
  refine⟨fun h1=>?_,fun h1=>?_⟩
  ·rw[qi0 hq2 h1 hall]
   conv=>whnf
   try exact rfl
  ·conv=>whnf
   have hw1:=w64s i (by omega)
   refine⟨i+1,[],⟨c5',by
    intro x hx
    rw [htk,List.mem_append,List.mem_singleton] at hx
    rcases hx with hx|rfl
    ·exact hall x hx
    ·exact h1⟩,by omega,?_⟩
   conv=>whnf
   rw[hw1]
   repeat'(first|exact ⟨⟩|exact rfl|exact fun _=>Iff.rfl|exact fun _ _=>rfl|exact renM_ent rfl _|apply And.intro)
 ·have hic:i=l.length:=(by have h:¬ (i:Int)<l.length:=of_decide_eq_false c5;omega)
  rw [hic,List.take_length] at hall
  rw[qs8 hall]
  conv=>whnf
  try exact rfl
theorem oindex_ok(z:Bool)(l:List Opt)(t:Int)(hl:l.length<4611686018427387904):FnOk Tryz.prog 89 [.d (optsD z l),codedV t] (.d (.int .i64 (idxI (fun r=>r.code == t) l))):=by
 refine qi (TT:=TT) (IN:=qa [(146,Tryz.f146,2)]) qd (qt qc Tryz.func146 (by kernel_rfl) (by kernel_rfl)) mixed 1000 Tryz.func89 rfl (qb Tryz.func89 (by kernel_rfl) rfl) rfl 17 (by kernel_rfl) ?_
 conv=>whnf
 refine .inv Nat (fun i=>i<=l.length/\∀ x ∈ l.take i,(x.code == t)=false) (fun i=>[(8,.d (.int .i64 i))]) (fun _=>[]) (fun i=>l.length - i) ⟨0,[],⟨Nat.zero_le _,fun x hx=>by simp at hx⟩,?_⟩ ?_
 ·conv=>whnf
  repeat'(first|exact ⟨⟩|exact rfl|exact fun _=>Iff.rfl|exact fun _ _=>rfl|exact renM_ent rfl _|apply And.intro)
 rintro i ⟨hi,hall⟩
 conv=>whnf
 refine⟨fun c5=>?_,fun c5=>?_⟩
 ·have c5':i<l.length:=(by have h:(i:Int)<l.length:=of_decide_eq_true c5;omega)
  obtain⟨q,hq⟩:∃ q,l.getD i default=q:=⟨_,rfl⟩
  have hq2:l[i]? = some q:=by rw[<-hq,List.getD,List.getElem?_eq_getElem c5'];rfl
  have htk:l.take (i+1)=l.take i++[q]:=by rw[List.take_add_one,hq2];rfl
  conv=>whnf
  refine⟨by omega,?_⟩
  conv=>whnf
  rw[Int.toNat_natCast,hq]
  refine⟨fun h1=>?_,fun h1=>?_⟩
  ·rw[qi0 hq2 h1 hall]
   conv=>whnf
   try exact rfl
  ·conv=>whnf
   have hw1:=w64s i (by omega)
   refine⟨i+1,[],⟨c5',by
    intro x hx
    rw [htk,List.mem_append,List.mem_singleton] at hx
    rcases hx with hx|rfl
    ·exact hall x hx
    ·exact h1⟩,by omega,?_⟩
   conv=>whnf
   rw[hw1]
   repeat'(first|exact ⟨⟩|exact rfl|exact fun _=>Iff.rfl|exact fun _ _=>rfl|exact renM_ent rfl _|apply And.intro)
 ·have hic:i=l.length:=(by have h:¬ (i:Int)<l.length:=of_decide_eq_false c5;omega)
  rw [hic,List.take_length] at hall
  rw[qs8 hall]
  conv=>whnf
  try exact rfl
theorem qu5(z:Bool)(l:List RR)(t:Int)(hl:l.length<4611686018427387904):FnOk Tryz.prog 72 [.d (rrsD z l),typedV t] (.d (.bool (decide (0<=idxI (fun r=>r.ty == t) l)))):=by
 refine qi (TT:=TT) (IN:=qa []) qd qc mixed 1000 Tryz.func72 rfl (qb Tryz.func72 (by kernel_rfl) rfl) rfl 7 (by kernel_rfl) ?_
 conv=>whnf
 refine oD (qs4 z l t hl) rfl rfl ?_
 conv=>whnf
 try exact rfl
def jb(a b:List UInt8):Bool:=(a.length == 8) && ((b == []) || (decide (8<=b.length) && decide (b.length<=32)))
theorem qu3(a b:List UInt8):FnOk Tryz.prog 91 [.d (.str a),.d (.str b)] (.d (.bool (jb a b))):=by
 refine qi (TT:=TT) (IN:=qa []) qd qc mixed 1000 Tryz.func91 rfl (qb Tryz.func91 (by kernel_rfl) rfl) rfl 20 (by kernel_rfl) ?_
 conv=>whnf
 refine⟨fun h1=>?_,fun h1=>?_⟩
 ·have h1:(a.length == 8)=true:=by simp at h1 ⊢;omega
  conv=>whnf
  refine⟨fun h2=>?_,fun h2=>?_⟩
  ·have h2:(b == [])=true:=h2
   have e:jb a b=true:=by unfold jb;rw[h1,h2];rfl
   rw[e]
   conv=>whnf
   try exact rfl
  ·have h2:(b == [])=false:=h2
   conv=>whnf
   refine⟨fun h3=>?_,fun h3=>?_⟩
   ·have h3:(b.length:Int) >= 8:=of_decide_eq_true h3
    have e:jb a b=decide ((b.length:Int)<=32):=by
     unfold jb;rw[h1,h2,decide_eq_true (p:=8<=b.length) (by omega)]
     simp only[Bool.true_and,Bool.false_or]
     exact decide_eq_decide.2 (by omega)
    rw[e]
    conv=>whnf
    try exact rfl
   ·have h3:¬ (b.length:Int) >= 8:=of_decide_eq_false h3
    have e:jb a b=false:=by
     unfold jb;rw[h1,h2,decide_eq_false (p:=8<=b.length) (by omega)];rfl
    rw[e]
    conv=>whnf
    try exact rfl
 ·have h1:(a.length == 8)=false:=by simp at h1 ⊢;omega
  have e:jb a b=false:=by unfold jb;rw[h1];rfl
  rw[e]
  conv=>whnf
  try exact rfl
def Msg.code(m:Msg):Int:=IntKind.i64.wrap (Go.bits BinOp.and IntKind.u16 m.bits 15)
def Msg.op(m:Msg):Int:=(IntKind.i64.wrap (Go.bits BinOp.and IntKind.u16 m.bits 30720)).fdiv (2 ^ 11)
theorem op_ok(m:Msg):FnOk Tryz.prog 118 [.agg m.cells] (.d (.int .i64 m.op)):=by
 refine qi (TT:=TT) (IN:=qa []) qd qc mixed 1000 Tryz.func118 rfl (qb Tryz.func118 (by kernel_rfl) rfl) rfl 7 (by kernel_rfl) ?_
 conv=>whnf
 refine⟨by decide,?_⟩
 conv=>whnf
 exact rfl
structure Ed where
 there:Bool
 size:Int
 high:Int
 ver:Int
 flags:Int
 zo:Bool
 opts:List Opt
def Ed.cells(e:Ed):List SV:=[.d (.bool e.there),.d (.int .u16 e.size),.d (.int .u8 e.high),.d (.int .u8 e.ver),.d (.int .u16 e.flags),.d (optsD e.zo e.opts)]
def Ed.no:Ed:=⟨false,0,0,0,0,true,[]⟩
def qn1(text:List UInt8):List UInt8 × List UInt8 × Int :=
 if jb (text.take 8) (text.drop 8) then (text.take 8,text.drop 8,0) else ([],[],2)
def yt(l:List Opt):List UInt8 × List UInt8 × Int :=
 if idxI (fun o=>o.code == 10) l<0 then ([],[],3) else qn1 (l.getD (idxI (fun o=>o.code == 10) l).toNat default).data
theorem qp0{α:Type}(p:α->Bool)(l:List α):idxI p l<l.length:=by
 unfold idxI
 cases h:l.findIdx? p with
 |none=>show(-1:Int)<_;omega
 |some i =>
  obtain⟨h1,_⟩:=List.findIdx?_eq_some_iff_getElem.1 h
  show(i:Int)<_
  omega
theorem qr7(e:Ed)(hl:e.opts.length<4611686018427387904)(hd:∀ o ∈ e.opts,o.data.length<4611686018427387904):FnOk Tryz.prog 34 [.agg e.cells] (.tup [.d (.str (yt e.opts).1),.d (.str (yt e.opts).2.1),.d (.int .i64 (yt e.opts).2.2)]):=by
 refine qi (TT:=TT) (IN:=qa []) qd qc mixed 1000 Tryz.func34 rfl (qb Tryz.func34 (by kernel_rfl) rfl) rfl 36 (by kernel_rfl) ?_
 conv=>whnf
 refine .data _ (coded_ok 10) rfl rfl ?_
 conv=>whnf
 refine .data _ (oindex_ok e.zo e.opts 10 hl) rfl rfl ?_
 conv=>whnf
 have hlt:=qp0 (fun o=>o.code == 10) e.opts
 have hsp:yt e.opts=yt e.opts:=rfl
 conv at hsp=>rhs;unfold yt
 generalize idxI (fun o=>o.code == 10) e.opts=i at hlt hsp ⊢
 refine⟨fun h1=>?_,fun h1=>?_⟩
 ·have h1:i<0:=of_decide_eq_true h1
  rw [if_pos h1] at hsp
  rw[hsp]
  conv=>whnf
  repeat'(first|exact ⟨⟩|exact rfl|exact .inr rfl|exact .inl rfl|exact fun _ _=>rfl|exact noI|apply And.intro)
 have h1:¬ i<0:=of_decide_eq_false h1
 rw [if_neg h1] at hsp
 conv=>whnf
 refine⟨by omega,?_⟩
 conv=>whnf
 obtain⟨q,hq⟩:∃ q,e.opts.getD i.toNat default=q:=⟨_,rfl⟩
 have hq2:e.opts[i.toNat]? = some q:=by rw[<-hq,List.getD,List.getElem?_eq_getElem (by omega)];rfl
 have hqd:=hd q (List.mem_of_getElem? hq2)
 rw [hq] at hsp ⊢
 have hmin:(if (8:Int)<(q.data.length:Int) then (8:Int) else (q.data.length:Int))=((min 8 q.data.length:Nat):Int):=by split <;> omega
 rw[hmin]
 refine⟨by omega,?_⟩
 conv=>whnf
 refine⟨by omega,?_⟩
 conv=>whnf
 have e1:sub q.data 0 ((min 8 q.data.length:Nat):Int)=q.data.take 8:=by
  unfold sub
  rw[Int.toNat_natCast]
  simp
 have e2:sub q.data ((min 8 q.data.length:Nat):Int) (q.data.length:Int)=q.data.drop 8:=by
  unfold sub
  rw[Int.toNat_natCast,Int.toNat_natCast,List.take_of_length_le (by simp)]
  rcases Nat.le_total 8 q.data.length with h|h
  ·rw[Nat.min_eq_left h]
  ·rw[Nat.min_eq_right h,List.drop_eq_nil_of_le (Nat.le_refl _),List.drop_eq_nil_of_le h]
 rw[e1,e2]
 refine oD (qu3 _ _) rfl rfl ?_
 conv=>whnf
 unfold qn1 at hsp
 refine⟨fun h2=>?_,fun h2=>?_⟩
 ·have h2:jb (q.data.take 8) (q.data.drop 8)=false:=by simpa using h2
  rw [h2,if_neg (by simp)] at hsp
  rw[hsp]
  conv=>whnf
  repeat'(first|exact ⟨⟩|exact rfl|exact .inr rfl|exact .inl rfl|exact fun _ _=>rfl|exact noI|apply And.intro)
 ·have h2:jb (q.data.take 8) (q.data.drop 8)=true:=by simpa using h2
  rw [h2,if_pos rfl] at hsp
  rw[hsp]
  conv=>whnf
  repeat'(first|exact ⟨⟩|exact rfl|exact .inr rfl|exact .inl rfl|exact fun _ _=>rfl|exact noI|apply And.intro)
def ye(m:Msg)(ver bad:Int):Int :=
 if m.asks.length≠1\/0<m.says.length\/0<m.heads.length\/bad=2 then 1 else
 if m.op≠0 then 4 else
 if ver > 0 then 16 else
 if (m.asks.getD 0 default).cl≠1\/Go.bits BinOp.and IntKind.u16 m.bits 256=0 then 5 else
 if (m.asks.getD 0 default).ty=0\/(m.asks.getD 0 default).ty=41\/(251<=(m.asks.getD 0 default).ty/\(m.asks.getD 0 default).ty<=255) then 5 else -1
theorem vcode_ok(m:Msg)(e:Ed)(bad:Int):FnOk Tryz.prog 55 [.agg m.cells,.agg e.cells,.d (.int .i64 bad)] (.d (.int .i64 (ye m e.ver bad))):=by
 refine qi (TT:=TT) (IN:=qa []) qd qc mixed 1000 Tryz.func55 rfl (qb Tryz.func55 (by kernel_rfl) rfl) rfl 60 (by kernel_rfl) ?_
 have hsp:ye m e.ver bad=ye m e.ver bad:=rfl
 conv at hsp=>rhs;unfold ye
 conv=>whnf
 refine⟨fun h1=>?_,fun h1=>?_⟩
 ·have h1:m.asks.length≠1:=by simp at h1;omega
  rw [if_pos (.inl h1)] at hsp
  rw[hsp]
  conv=>whnf
  repeat(first|(refine brT rfl ?_;conv=>whnf)|(refine brF rfl ?_;conv=>whnf))
  try exact rfl
 have h1:¬ m.asks.length≠1:=by simp at h1;omega
 conv=>whnf
 refine⟨fun h2=>?_,fun h2=>?_⟩
 ·have h2:0<m.says.length:=by
   have h:(m.says.length:Int) > 0:=of_decide_eq_true h2
   omega
  rw [if_pos (.inr (.inl h2))] at hsp
  rw[hsp]
  conv=>whnf
  repeat(first|(refine brT rfl ?_;conv=>whnf)|(refine brF rfl ?_;conv=>whnf))
  try exact rfl
 have h2:¬ 0<m.says.length:=by
  have h:¬ (m.says.length:Int) > 0:=of_decide_eq_false h2
  omega
 conv=>whnf
 refine⟨fun h3=>?_,fun h3=>?_⟩
 ·have h3:0<m.heads.length:=by
   have h:(m.heads.length:Int) > 0:=of_decide_eq_true h3
   omega
  rw [if_pos (.inr (.inr (.inl h3)))] at hsp
  rw[hsp]
  conv=>whnf
  repeat(first|(refine brT rfl ?_;conv=>whnf)|(refine brF rfl ?_;conv=>whnf))
  try exact rfl
 have h3:¬ 0<m.heads.length:=by
  have h:¬ (m.heads.length:Int) > 0:=of_decide_eq_false h3
  omega
 conv=>whnf
 refine⟨fun h4=>?_,fun h4=>?_⟩
 ·have h4:bad=2:=by simpa using h4
  rw [if_pos (.inr (.inr (.inr h4)))] at hsp
  rw[hsp]
  conv=>whnf
  try exact rfl
 have h4:¬ bad=2:=by simpa using h4
 rw [if_neg (by rintro (h|h|h|h) <;> contradiction)] at hsp
 have hq2:m.asks[0]? = some (m.asks.getD 0 default):=by rw[List.getD,List.getElem?_eq_getElem (by omega)];rfl
 conv=>whnf
 refine⟨by omega,?_⟩
 conv=>whnf
 rw[show(0:Int).toNat=0 from rfl]
 generalize m.asks.getD 0 default=q at hsp ⊢
 refine oD (op_ok m) rfl rfl ?_
 conv=>whnf
 refine⟨fun h5=>?_,fun h5=>?_⟩
 ·have h5:m.op≠0:=by simpa using h5
  rw [if_pos h5] at hsp
  rw[hsp]
  conv=>whnf
  try exact rfl
 have h5:¬ m.op≠0:=by simpa using h5
 rw [if_neg h5] at hsp
 conv=>whnf
 refine⟨fun h6=>?_,fun h6=>?_⟩
 ·have h6:e.ver > 0:=of_decide_eq_true h6
  rw [if_pos h6] at hsp
  rw[hsp]
  conv=>whnf
  try exact rfl
 have h6:¬ e.ver > 0:=of_decide_eq_false h6
 rw [if_neg h6] at hsp
 conv=>whnf
 refine⟨fun h7=>?_,fun h7=>?_⟩
 ·have h7a:q.cl≠1:=by simpa using h7
  rw [if_pos (.inl h7a)] at hsp
  rw[hsp]
  conv=>whnf
  refine brT h7 ?_
  conv=>whnf
  try exact rfl
 have h7:¬ q.cl≠1:=by simpa using h7
 conv=>whnf
 refine⟨fun h8=>?_,fun h8=>?_⟩
 ·have h8:Go.bits BinOp.and IntKind.u16 m.bits 256=0:=by simpa using h8
  rw [if_pos (.inr h8)] at hsp
  rw[hsp]
  conv=>whnf
  try exact rfl
 have h8:¬ Go.bits BinOp.and IntKind.u16 m.bits 256=0:=by simpa using h8
 rw [if_neg (by rintro (h|h) <;> contradiction)] at hsp
 conv=>whnf
 refine⟨fun h9=>?_,fun h9=>?_⟩
 ·have h9a:q.ty=0:=by simpa using h9
  rw [if_pos (.inl h9a)] at hsp
  rw[hsp]
  conv=>whnf
  refine brT h9 ?_
  conv=>whnf
  try exact rfl
 have h9:¬ q.ty=0:=by simpa using h9
 conv=>whnf
 refine⟨fun h10=>?_,fun h10=>?_⟩
 ·have h10a:q.ty=41:=by simpa using h10
  rw [if_pos (.inr (.inl h10a))] at hsp
  rw[hsp]
  conv=>whnf
  refine brT h10 ?_
  conv=>whnf
  try exact rfl
 have h10:¬ q.ty=41:=by simpa using h10
 conv=>whnf
 refine⟨fun h11=>?_,fun h11=>?_⟩
 ·have h11:251<=q.ty:=of_decide_eq_true h11
  conv=>whnf
  refine⟨fun h12=>?_,fun h12=>?_⟩
  ·have h12:q.ty<=255:=of_decide_eq_true h12
   rw [if_pos (.inr (.inr ⟨h11,h12⟩))] at hsp
   rw[hsp]
   conv=>whnf
   try exact rfl
  have h12:¬ q.ty<=255:=of_decide_eq_false h12
  rw [if_neg (by rintro (h|h|h) <;> omega)] at hsp
  rw[hsp]
  conv=>whnf
  try exact rfl
 ·have h11:¬ 251<=q.ty:=of_decide_eq_false h11
  rw [if_neg (by rintro (h|h|h) <;> omega)] at hsp
  rw[hsp]
  conv=>whnf
  try exact rfl
structure Sm where
 key:List UInt8
 text:List UInt8
 n:Int
instance:Inhabited Sm:=⟨⟨[],[],0⟩⟩
def Sm.enc(s:Sm):List DV:=[.str s.key,.str s.text,.int .u64 s.n]
def smsD(z:Bool)(l:List Sm):DV:=.sl z l.length 3 (fun i=>(l.getD i default).enc)
structure Hs where
 ideal:Bool
 z:Bool
 tab:List Sm
def Hs.cells(h:Hs):List SV:=[.d (.bool h.ideal),.d (smsD h.z h.tab)]
def xq(key s:List UInt8)(e:Sm):Bool:=(e.key == key) && (e.text == s)
theorem place_ok(h:Hs)(key s:List UInt8)(hl:h.tab.length<=1000):FnOk Tryz.prog 177 [.agg h.cells,.d (.str key),.d (.str s)] (.d (.int .i64 (idxI (xq key s) h.tab))):=by
 refine qi (TT:=TT) (IN:=qa [(220,Tryz.f220,2),(221,Tryz.f221,3)]) qd (qt (qt qc Tryz.func221 (by kernel_rfl) (by kernel_rfl)) Tryz.func220 (by kernel_rfl) (by kernel_rfl)) mixed 1000 Tryz.func177 rfl (qb Tryz.func177 (by kernel_rfl) rfl) rfl 8 (by kernel_rfl) ?_
 conv=>whnf
 refine .inv Nat (fun i=>i<=h.tab.length/\∀ x ∈ h.tab.take i,xq key s x=false) (fun i=>[(8,.d (.int .i64 i))]) (fun _=>[]) (fun i=>h.tab.length - i) ⟨0,[0,1,2],⟨Nat.zero_le _,fun x hx=>by simp at hx⟩,?_⟩ ?_
 ·conv=>whnf
  repeat'(first|exact ⟨⟩|exact rfl|exact fun _=>Iff.rfl|exact fun _ _=>rfl|exact renM_ent rfl _|apply And.intro)
 rintro i ⟨hi,hall⟩
 conv=>whnf
 refine⟨fun c5=>?_,fun c5=>?_⟩
 ·have c5':i<h.tab.length:=(by have h:(i:Int)<h.tab.length:=of_decide_eq_true c5;omega)
  obtain⟨q,hq⟩:∃ q,h.tab.getD i default=q:=⟨_,rfl⟩
  have hq2:h.tab[i]? = some q:=by rw[<-hq,List.getD,List.getElem?_eq_getElem c5'];rfl
  have htk:h.tab.take (i+1)=h.tab.take i++[q]:=by rw[List.take_add_one,hq2];rfl
  have hw1:=w64s i (by omega)
  have hno:xq key s q=false->∀ x ∈ h.tab.take (i+1),xq key s x=false:=fun h1 x hx=>by
   rw [htk,List.mem_append,List.mem_singleton] at hx
   rcases hx with hx|rfl
   ·exact hall x hx
   ·exact h1
  conv=>whnf
  refine⟨by omega,?_⟩
  conv=>whnf
  rw[Int.toNat_natCast,hq]
  refine⟨fun h1=>?_,fun h1=>?_⟩
  ·have h1:(q.key == key)=true:=h1
   conv=>whnf
   refine⟨fun h2=>?_,fun h2=>?_⟩
   ·have h2:(q.text == s)=true:=h2
    rw[qi0 hq2 (by unfold xq;rw[h1,h2];rfl) hall]
    conv=>whnf
    try exact rfl
   ·have h2:(q.text == s)=false:=h2
    conv=>whnf
    refine⟨i+1,[0,1,2],⟨c5',hno (by unfold xq;rw[h1,h2];rfl)⟩,by omega,?_⟩
    conv=>whnf
    rw[hw1]
    repeat'(first|exact ⟨⟩|exact rfl|exact fun _=>Iff.rfl|exact fun _ _=>rfl|exact renM_ent rfl _|apply And.intro)
  ·have h1:(q.key == key)=false:=h1
   conv=>whnf
   refine⟨i+1,[0,1,2],⟨c5',hno (by unfold xq;rw[h1];rfl)⟩,by omega,?_⟩
   conv=>whnf
   rw[hw1]
   repeat'(first|exact ⟨⟩|exact rfl|exact fun _=>Iff.rfl|exact fun _ _=>rfl|exact renM_ent rfl _|apply And.intro)
 ·have hic:i=h.tab.length:=(by have h:¬ (i:Int)<h.tab.length:=of_decide_eq_false c5;omega)
  rw [hic,List.take_length] at hall
  rw[qs8 hall]
  conv=>whnf
  try exact rfl
def zu(h:Hs)(key s:List UInt8):Int × Int :=
 if (sumF key s).2≠0\/h.ideal=false then sumF key s else
 if idxI (xq key s) h.tab<0 then (0,0) else ((h.tab.getD (idxI (xq key s) h.tab).toNat default).n,0)
theorem keyed_ok(h:Hs)(key s:List UInt8)(hl:h.tab.length<=1000)(hs:s.length<4611686018427387904):FnOk Tryz.prog 124 [.agg h.cells,.d (.str key),.d (.str s)] (.tup [.d (.int .u64 (zu h key s).1),.d (.int .i64 (zu h key s).2)]):=by
 refine qi (TT:=TT) (IN:=qa []) qd qc mixed 1000 Tryz.func124 rfl (qb Tryz.func124 (by kernel_rfl) rfl) rfl 35 (by kernel_rfl) ?_
 have hsm:=sum_ok key s hs
 conv=>whnf
 refine oD hsm rfl rfl ?_
 conv=>whnf
 refine⟨fun h1=>?_,fun h1=>?_⟩
 ·have h1:(sumF key s).2≠0:=by simpa using h1
  have e:zu h key s=sumF key s:=by unfold zu;rw[if_pos (.inl h1)]
  rw[e]
  conv=>whnf
  try exact⟨rfl,rfl,True.intro⟩
 have h1:(sumF key s).2=0:=by simpa using h1
 conv=>whnf
 refine⟨fun h2=>?_,fun h2=>?_⟩
 ·have h2:h.ideal=false:=by simpa using h2
  have e:zu h key s=sumF key s:=by unfold zu;rw[if_pos (.inr h2)]
  rw[e]
  conv=>whnf
  try exact⟨rfl,rfl,True.intro⟩
 have h2:h.ideal=true:=by simpa using h2
 have e:zu h key s=if idxI (xq key s) h.tab<0 then (0,0) else ((h.tab.getD (idxI (xq key s) h.tab).toNat default).n,0):=by unfold zu;rw [if_neg (fun hh=>hh.elim (fun h=>h h1) (fun h=>by rw [h2] at h;cases h))]
 have hpl:=place_ok h key s hl
 have hlt:=qp0 (xq key s) h.tab
 generalize idxI (xq key s) h.tab=j at e hpl hlt
 rw[e]
 conv=>whnf
 refine oD hpl rfl rfl ?_
 conv=>whnf
 refine⟨fun h3=>?_,fun h3=>?_⟩
 ·rw[if_pos (of_decide_eq_true h3)]
  conv=>whnf
  try exact⟨rfl,rfl,True.intro⟩
 ·have h3:¬ j<0:=of_decide_eq_false h3
  rw[if_neg h3]
  conv=>whnf
  refine⟨by omega,?_⟩
  conv=>whnf
  try exact⟨rfl,rfl,True.intro⟩
def Rdr.has(r:Rdr):Bool:=!r.bad && decide (r.p<r.s.length)
def Rdr.opt(r:Rdr):Rdr × Opt :=
 let a:=r.num 2
 let b:=a.1.num 2
 let c:=b.1.raw (IntKind.i64.wrap b.2)
 (c.1,⟨IntKind.u16.wrap a.2,c.2⟩)
def Rdr.opts:Nat->Rdr->List Opt->Option (List Opt)
 |0,_,l=>some l
 |n+1,r,l=>bif r.has then bif r.opt.1.bad then none else Rdr.opts n r.opt.1 (l++[r.opt.2]) else some l
def Ed.of(r:RR)(l:List Opt):Ed:=⟨true,r.cl,IntKind.u8.wrap (r.ttl.fdiv (2 ^ 24)),IntKind.u8.wrap (r.ttl.fdiv (2 ^ 16)),IntKind.u16.wrap r.ttl,Nat.beq l.length 0,l⟩
def k8(r:RR):Ed × Int :=
 if r.nm≠[0] then (Ed.no,2) else match Rdr.opts r.d.length ⟨r.d,0,false⟩ [] with
  |some l=>(Ed.of r l,0)
  |none=>(Ed.no,2)
def optI(l:List RR):Int:=idxI (fun r=>r.ty == 41) l
def Msg.get(m:Msg):Ed × Int :=
 if 0<=optI m.says\/0<=optI m.heads then (Ed.no,2) else
 if optI m.extra<0 then (Ed.no,0) else
 if 0<=optI (m.extra.drop ((optI m.extra).toNat+1)) then (Ed.no,4) else
 k8 (m.extra.getD (optI m.extra).toNat default)
theorem Rdr.opt_lt{r:Rdr}(h:r.opt.1.bad=false):r.p<r.opt.1.p:=by
 have hm:∀ (r:Rdr) (n:Int),(r.raw n).1.bad=false->r.bad=false/\(r.raw n).1.p=r.p+n.toNat:=fun r n h=>by
  unfold Rdr.raw at h ⊢
  split
  ·rename_i hb;rw [if_pos hb] at h;rw [hb] at h;cases h
  ·rename_i hb
   rw [if_neg hb] at h
   split
   ·rename_i hc;rw [if_pos hc] at h;cases h
   ·exact⟨by simpa using hb,rfl⟩
 unfold Rdr.opt at h ⊢
 dsimp only at h ⊢
 obtain⟨h1,e1⟩:=hm _ _ h
 obtain⟨h2,e2⟩:=hm _ _ h1
 obtain⟨h3,e3⟩:=hm _ _ h2
 rw[e1]
 have e2:((r.num 2).1.num 2).1.p=(r.num 2).1.p+2:=e2
 have e3:(r.num 2).1.p=r.p+2:=e3
 omega
theorem Rdr.opt_s(r:Rdr):r.opt.1.s=r.s:=by
 unfold Rdr.opt
 dsimp only
 rw[Rdr.raw_s,Rdr.num_s,Rdr.num_s]
theorem opt_cat(l:List Opt)(q:Opt)(j:Nat)(hj:j<l.length+1):catF l.length (fun j=>(l.getD j default).enc) (je q.enc 2) j=((l++[q]).getD j default).enc:=by
 unfold catF
 split
 ·rename_i h
  show(l.getD j default).enc=_
  rw[List.getD,List.getD,List.getElem?_append_left h]
 ·rename_i h
  have:j=l.length:=by omega
  subst this
  rw[Nat.sub_self,List.getD,List.getElem?_append_right (Nat.le_refl _),Nat.sub_self]
  rfl
theorem Rdr.opts_end{n:Nat}{r:Rdr}{l:List Opt}(h:r.has=false):Rdr.opts n r l=some l:=by
 cases n with
 |zero=>rfl
 |succ n=>unfold Rdr.opts;rw[h];rfl
structure OpS where
 r:Rdr
 l:List Opt
 n:Nat
theorem drop_rrs(z:Bool)(l:List RR)(i:Nat):AEq (.d (.sl z (l.length - i) 5 (fun j=>(l.getD (i+j) default).enc))) (.d (rrsD z (l.drop i))):=by
 have:(l.drop i).length=l.length - i:=by simp
 unfold rrsD
 rw[this]
 refine AEq.row (fun j hj=>?_)
 rw[List.getD,List.getD,List.getElem?_drop]
set_option maxRecDepth 100000 in
theorem get_ok(m:Msg)(h1:m.says.length<4611686018427387904)(h2:m.heads.length<4611686018427387904)(h3:m.extra.length<4611686018427387904)(hd:∀ r ∈ m.extra,r.d.length<1099511627776):FnOk Tryz.prog 26 [.agg m.cells] (.tup [.agg m.get.1.cells,.d (.int .i64 m.get.2)]):=by
 refine qi (TT:=TT) (IN:=qa [(74,Tryz.f74,1),(136,Tryz.f136,2),(67,Tryz.f67,1),(70,Tryz.f70,1)]) qd (qt (qt (qt (qt qc Tryz.func70 (by kernel_rfl) (by kernel_rfl)) Tryz.func67 (by kernel_rfl) (by kernel_rfl)) Tryz.func136 (by kernel_rfl) (by kernel_rfl)) Tryz.func74 (by kernel_rfl) (by kernel_rfl)) mixed 1000 Tryz.func26 rfl (qb Tryz.func26 (by kernel_rfl) rfl) rfl 74 (by kernel_rfl) ?_
 have hsp:m.get=m.get:=rfl
 conv at hsp=>rhs;unfold Msg.get
 conv=>whnf
 refine oD (typed_ok 41) rfl rfl ?_
 conv=>whnf
 refine oD (qu5 m.zs m.says 41 h1) rfl rfl ?_
 conv=>whnf
 refine⟨fun c1=>?_,fun c1=>?_⟩
 ·have c1:0<=optI m.says:=of_decide_eq_true c1
  rw [if_pos (.inl c1)] at hsp
  rw[hsp]
  conv=>whnf
  repeat(first|(refine brT rfl ?_;conv=>whnf)|(refine brF rfl ?_;conv=>whnf))
  repeat'(first|exact ⟨⟩|exact rfl|exact .inr rfl|exact .inl rfl|exact fun _ _=>rfl|exact noI|apply And.intro)
 have c1:¬ 0<=optI m.says:=of_decide_eq_false c1
 conv=>whnf
 refine oD (qu5 m.zh m.heads 41 h2) rfl rfl ?_
 conv=>whnf
 refine⟨fun c2=>?_,fun c2=>?_⟩
 ·have c2:0<=optI m.heads:=of_decide_eq_true c2
  rw [if_pos (.inr c2)] at hsp
  rw[hsp]
  conv=>whnf
  repeat(first|(refine brT rfl ?_;conv=>whnf)|(refine brF rfl ?_;conv=>whnf))
  repeat'(first|exact ⟨⟩|exact rfl|exact .inr rfl|exact .inl rfl|exact fun _ _=>rfl|exact noI|apply And.intro)
 have c2:¬ 0<=optI m.heads:=of_decide_eq_false c2
 rw [if_neg (by rintro (h|h) <;> contradiction)] at hsp
 conv=>whnf
 refine oD (qs4 m.ze m.extra 41 h3) rfl rfl ?_
 conv=>whnf
 have hlt:=qp0 (fun r:RR=>r.ty == 41) m.extra
 unfold optI at hsp
 generalize idxI (fun r:RR=>r.ty == 41) m.extra=i at hlt hsp ⊢
 refine⟨fun c3=>?_,fun c3=>?_⟩
 ·have c3:i<0:=of_decide_eq_true c3
  rw [if_pos c3] at hsp
  rw[hsp]
  conv=>whnf
  repeat'(first|exact ⟨⟩|exact rfl|exact .inr rfl|exact .inl rfl|exact fun _ _=>rfl|exact noI|apply And.intro)
 have c3:¬ i<0:=of_decide_eq_false c3
 rw [if_neg c3] at hsp
 obtain⟨k,rfl⟩:∃ k:Nat,i=k:=⟨i.toNat,by omega⟩
 have hw1:=w64s k (by omega)
 conv=>whnf
 rw[hw1]
 refine⟨by omega,?_⟩
 conv=>whnf
 rw [Int.toNat_natCast] at hsp
 rw[show((m.extra.length:Int) - ((k+1:Nat):Int)).toNat=m.extra.length - (k+1) by omega,Int.toNat_natCast]
 refine oD ((qu5 m.ze (m.extra.drop (k+1)) 41 (by simp;omega)).convA ⟨drop_rrs _ _ _,.refl _,True.intro⟩) rfl rfl ?_
 conv=>whnf
 refine⟨fun c4=>?_,fun c4=>?_⟩
 ·have c4:0<=idxI (fun r:RR=>r.ty == 41) (m.extra.drop (k+1)):=of_decide_eq_true c4
  rw [if_pos c4] at hsp
  rw[hsp]
  conv=>whnf
  repeat'(first|exact ⟨⟩|exact rfl|exact .inr rfl|exact .inl rfl|exact fun _ _=>rfl|exact noI|apply And.intro)
 have c4:¬ 0<=idxI (fun r:RR=>r.ty == 41) (m.extra.drop (k+1)):=of_decide_eq_false c4
 rw [if_neg c4] at hsp
 conv=>whnf
 refine⟨by omega,?_⟩
 conv=>whnf
 rw[Int.toNat_natCast]
 have hq2:m.extra[k]? = some (m.extra.getD k default):=by rw[List.getD,List.getElem?_eq_getElem (by omega)];rfl
 have hqd:=hd _ (List.mem_of_getElem? hq2)
 generalize m.extra.getD k default=q at hsp hqd ⊢
 unfold k8 at hsp
 refine⟨fun c5=>?_,fun c5=>?_⟩
 ·have c5:q.nm≠[0]:=by simpa using c5
  rw [if_pos c5] at hsp
  rw[hsp]
  conv=>whnf
  repeat'(first|exact ⟨⟩|exact rfl|exact .inr rfl|exact .inl rfl|exact fun _ _=>rfl|exact noI|apply And.intro)
 have c5:¬ q.nm≠[0]:=by simpa using c5
 rw [if_neg c5] at hsp
 conv=>whnf
 refine⟨by decide,?_⟩
 conv=>whnf
 refine⟨by decide,?_⟩
 conv=>whnf
 refine .rel _ (vt (fun _=>rfl) (qk2 q.d) [_,_,_,_,_,_,_] (fun _=>rfl)) (fun x ks' hR=>?_)
 obtain⟨rfl,rfl⟩:=hR
 conv=>whnf
 refine .nilC 4 5 192 2 (fun _=>[]) _ _ _ _ rfl rfl ?_
 have hr0:(Rdr.mk q.d 0 false).Ok:=⟨by show q.d.length<_;omega,Nat.zero_le _⟩
 refine .inv OpS (fun x=>x.r.Ok/\x.r.s.length<1099511627776/\x.r.s.length - x.r.p<=x.n/\x.l.length+x.n=q.d.length/\Rdr.opts x.n x.r x.l=Rdr.opts q.d.length ⟨q.d,0,false⟩ []) (fun _=>[]) (fun x=>[(7,x.r.kb),(8,.row 192 2 x.l.length .iff (fun j=>(x.l.getD j default).enc))])
  (fun x=>x.n) ⟨⟨⟨q.d,0,false⟩,[],q.d.length⟩,[0,1,2,3,4,5,6,7,8],⟨hr0,hqd,Nat.sub_le _ _,Nat.zero_add _,rfl⟩,?_⟩ ?_
 ·conv=>whnf
  repeat'(first|exact ⟨⟩|exact rfl|(intro i hi;exact absurd hi (Nat.not_lt_zero _))|apply And.intro)
 intro x hx
 obtain⟨kr,ks,kn,kl,hrest⟩:=hx
 conv=>whnf
 generalize x.r=r at kr ks kn hrest ⊢
 generalize x.l=l at kl hrest ⊢
 generalize x.n=n at kn kl hrest ⊢
 have hql:=kr.len
 have hqp:=kr.p
 have hsub:IntKind.i64.wrap ((r.s.length:Int) - r.p)=(r.s.length:Int) - r.p:=ql _ (by omega)
 refine⟨fun c6=>?_,fun c6=>?_⟩
 ·have c6:r.bad=true:=c6
  rw [Rdr.opts_end (by unfold Rdr.has;rw [c6];rfl)] at hrest
  rw [<-hrest] at hsp
  have hsp:m.get=(Ed.of q l,0):=hsp
  rw[hsp]
  conv=>whnf
  try (refine brF rfl ?_;conv=>whnf)
  repeat'(first|exact ⟨⟩|exact rfl|exact .inr rfl|exact .inl rfl|exact fun _ _=>rfl|exact noI|apply And.intro)
 have c6:r.bad=false:=c6
 conv=>whnf
 rw[hsub]
 refine⟨fun c7=>?_,fun c7=>?_⟩
 ·have c7:r.p<r.s.length:=by
   have h:(r.s.length:Int) - r.p > 0:=of_decide_eq_true c7
   omega
  obtain⟨n,rfl⟩:∃ k,n=k+1:=⟨n - 1,by omega⟩
  have hhas:r.has=true:=by unfold Rdr.has;rw[c6,decide_eq_true c7];rfl
  conv at hrest=>lhs;unfold Rdr.opts
  rw [hhas,cond_true] at hrest
  have hlt:=r.opt_lt
  have hos:=r.opt_s
  unfold Rdr.opt at hrest hlt hos
  dsimp only at hrest hlt hos
  conv=>whnf
  refine .rel _ (qw (yg r kr 2 (.inr (.inl rfl))) [_,_,_,_,_,_,_] [_] _ rfl rfl) (fun x ks' hR=>?_)
  obtain⟨_,q1,⟨rfl,rfl⟩,rfl,rfl⟩:=hR
  have ka:=kr.num 2
  generalize r.num 2=a at ka hrest hlt hos ⊢
  conv=>whnf
  refine .rel _ (qw (yg a.1 ka 2 (.inr (.inl rfl))) [_,_,_,_,_,_,_] [_] _ rfl rfl) (fun x ks' hR=>?_)
  obtain⟨_,q1,⟨rfl,rfl⟩,rfl,rfl⟩:=hR
  have kb:=ka.num 2
  generalize a.1.num 2=b at kb hrest hlt hos ⊢
  conv=>whnf
  refine .rel _ (qw (kg b.1 kb (IntKind.i64.wrap b.2) (by rw[IntKind.wrap_i64];omega)) [_,_,_,_,_,_,_] [_] _ rfl rfl) (fun x ks' hR=>?_)
  obtain⟨_,q1,⟨rfl,rfl⟩,rfl,rfl⟩:=hR
  have kc:=kb.raw (IntKind.i64.wrap b.2)
  generalize b.1.raw (IntKind.i64.wrap b.2)=c at kc hrest hlt hos ⊢
  conv=>whnf
  refine⟨fun c8=>?_,fun c8=>?_⟩
  ·have c8:c.1.bad=true:=c8
   rw [c8,cond_true] at hrest
   rw [<-hrest] at hsp
   have hsp:m.get=(Ed.no,2):=hsp
   rw[hsp]
   conv=>whnf
   try (refine brT rfl ?_;conv=>whnf)
   repeat'(first|exact ⟨⟩|exact rfl|exact .inr rfl|exact .inl rfl|exact fun _ _=>rfl|exact noI|apply And.intro)
  have c8:c.1.bad=false:=c8
  rw [c8,cond_false] at hrest
  have hlt:=hlt c8
  conv=>whnf
  refine⟨by omega,?_⟩
  conv=>whnf
  refine⟨⟨c.1,l++[⟨IntKind.u16.wrap a.2,c.2⟩],n⟩,[0,1,2,3,4,5,6,7,11],⟨kc,by rw[hos];exact ks,by rw[hos];show r.s.length - c.1.p<=n;omega,by rw[List.length_append];simp only[List.length_cons,List.length_nil];omega,hrest⟩,Nat.lt_succ_self n,?_⟩
  conv=>whnf
  repeat'(first|exact ⟨⟩|exact rfl|apply And.intro)
  all_goals try exact fun _ _=>rfl
  ·show l.length+1=(l++[_]).length
   rw[List.length_append]
   rfl
  ·intro j hj
   exact opt_cat l ⟨IntKind.u16.wrap a.2,c.2⟩ j hj
 ·have c7:¬ r.p<r.s.length:=by
   have h:¬ (r.s.length:Int) - r.p > 0:=of_decide_eq_false c7
   omega
  rw [Rdr.opts_end (by unfold Rdr.has;rw [decide_eq_false c7,Bool.and_false])] at hrest
  rw [<-hrest] at hsp
  have hsp:m.get=(Ed.of q l,0):=hsp
  rw[hsp]
  conv=>whnf
  repeat'(first|exact ⟨⟩|exact rfl|exact .inr rfl|exact .inl rfl|exact fun _ _=>rfl|exact noI|apply And.intro)
def zv(s:List UInt8):Int × Int × Int :=
 if s.length<12 then (0,0,5) else
 let a:=(Rdr.mk s 0 false).num 2
 (IntKind.u16.wrap a.2,IntKind.u16.wrap (a.1.num 2).2,0)
set_option maxRecDepth 100000 in
theorem mhead_ok(s:List UInt8)(hs:s.length<4611686018427387904):FnOk Tryz.prog 54 [.d (.str s)] (.tup [.d (.int .u16 (zv s).1),.d (.int .u16 (zv s).2.1),.d (.int .i64 (zv s).2.2)]):=by
 refine qi (TT:=TT) (IN:=qa []) qd qc mixed 1000 Tryz.func54 rfl (qb Tryz.func54 (by kernel_rfl) rfl) rfl 18 (by kernel_rfl) ?_
 conv=>whnf
 refine⟨fun h1=>?_,fun h1=>?_⟩
 ·have h:s.length<12:=by
   have h:(s.length:Int)<12:=of_decide_eq_true h1
   omega
  have e:zv s=(0,0,5):=by unfold zv;rw[if_pos h]
  rw[e]
  conv=>whnf
  exact⟨rfl,rfl,rfl,True.intro⟩
 have h:¬ s.length<12:=by
  have h:¬ (s.length:Int)<12:=of_decide_eq_false h1
  omega
 have e:zv s=(IntKind.u16.wrap ((Rdr.mk s 0 false).num 2).2,IntKind.u16.wrap (((Rdr.mk s 0 false).num 2).1.num 2).2,0):=by unfold zv;rw[if_neg h]
 rw[e]
 have hr:(Rdr.mk s 0 false).Ok:=⟨hs,Nat.zero_le _⟩
 conv=>whnf
 refine .rel _ (qk2 s) (fun x ks' hR=>?_)
 obtain⟨rfl,rfl⟩:=hR
 conv=>whnf
 refine .rel _ (qw (yg ⟨s,0,false⟩ hr 2 (.inr (.inl rfl))) [] [] _ rfl rfl) (fun x ks' hR=>?_)
 obtain⟨_,q,⟨rfl,rfl⟩,rfl,rfl⟩:=hR
 have ha:=hr.num 2
 generalize (Rdr.mk s 0 false).num 2=a at ha ⊢
 conv=>whnf
 refine .rel _ (qw (yg a.1 ha 2 (.inr (.inl rfl))) [] [] _ rfl rfl) (fun x ks' hR=>?_)
 obtain⟨_,q,⟨rfl,rfl⟩,rfl,rfl⟩:=hR
 conv=>whnf
 exact⟨rfl,rfl,rfl,True.intro⟩
set_option maxRecDepth 100000 in
theorem qs5(y:Bool)(a:List Q)(h:y=true->a=[])(ha:a.length<=1000000):FnOk Tryz.prog 45 [.d (qsD y a)] (.d (qsD y a)):=by
 refine qi (TT:=TT) (IN:=qa []) qd qc mixed 1000 Tryz.func45 rfl (qb Tryz.func45 (by kernel_rfl) rfl) rfl 7 (by kernel_rfl) ?_
 conv=>whnf
 refine⟨fun h1=>?_,fun h1=>?_⟩
 ·have h1:y=true:=h1
  rw[h h1,h1]
  conv=>whnf
  exact⟨rfl,rfl,.inl rfl,fun i hi=>absurd hi (Nat.not_lt_zero _)⟩
 ·have h1:y=false:=h1
  rw[h1]
  conv=>whnf
  refine⟨by omega,?_⟩
  conv=>whnf
  refine⟨rfl,Nat.zero_add _,.inr rfl,fun i hi=>?_⟩
  unfold catF
  rw[if_neg (Nat.not_lt_zero _),Nat.sub_zero]
inductive NA (s:List UInt8):Nat->Nat->List (List UInt8)->Nat->Prop
 |done {b p:Nat}:p<s.length->bt s p=0->NA s b p [] (p+1)
 |lab {b p:Nat} {l:List UInt8} {ls:List (List UInt8)} {e:Nat}:okL l->(s.drop p).take (1+l.length)=lab l->NA s b (p+1+l.length) ls e->NA s b p (l :: ls) e
 |ptr {b p t:Nat} {ls:List (List UInt8)} {e:Nat}:p+1<s.length->192<=bt s p->t=(bt s p - 192) * 256+bt s (p+1)->t<b->NA s t t ls e->NA s b p ls (p+2)
theorem bt_app(s t:List UInt8)(p:Nat)(h:p<s.length):bt (s++t) p=bt s p:=by
 unfold bt
 rw[List.getElem?_append_left h]
theorem qx8{s l:List UInt8}{p:Nat}(h:(s.drop p).take (1+l.length)=lab l):p+1+l.length<=s.length:=by
 have:=congrArg List.length h
 rw [xl,List.length_take,List.length_drop] at this
 omega
theorem bt_of_take{s l:List UInt8}{p:Nat}(hl:okL l)(h:(s.drop p).take (1+l.length)=lab l):bt s p=l.length:=by
 have h1:bt (lab l++[]) 0=l.length:=vg l [] hl
 rw [List.append_nil,<-h] at h1
 rw[<-h1]
 unfold bt
 rw[List.getElem?_take,if_pos (by omega),List.getElem?_drop,Nat.add_zero]
theorem NA.app{s:List UInt8}(t:List UInt8){b p:Nat}{ls:List (List UInt8)}{e:Nat}(h:NA s b p ls e):NA (s++t) b p ls e:=by
 induction h with
 |done h1 h2=>exact .done (by rw[List.length_append];omega) (by rw[bt_app _ _ _ h1];exact h2)
 |lab h1 h2 _ ih =>
  have h3:=qx8 h2
  refine .lab h1 ?_ ih
  rw[List.drop_append_of_le_length (by omega),List.take_append_of_le_length (by rw[List.length_drop];omega)]
  exact h2
 |ptr h1 h2 h3 h4 _ ih =>
  refine .ptr (by rw[List.length_append];omega) (by rw[bt_app _ _ _ (by omega)];exact h2) ?_ h4 ih
  rw[bt_app _ _ _ (by omega),bt_app _ _ _ h1]
  exact h3
theorem rnGo_na{s:List UInt8}{b p:Nat}{ls:List (List UInt8)}{e:Nat}(h:NA s b p ls e):∀ (f:Nat) (bh:Option Nat) (nm:List UInt8),nm.length+(mk ls).length<=255->(400 - nm.length) * (s.length+1)+b+1<=f ->
 rnGo s f b p bh nm=(nm++mk ls,some (bh.getD e)):=by
 induction h with
 |done h1 h2 =>
  intro f bh nm hn hf
  have:(mk []).length=1:=rfl
  cases f with
  |zero=>omega
  |succ f =>
   unfold rnGo
   rw[if_pos ⟨h1,by omega⟩,if_pos h2]
   rfl
 |@lab b p l ls e h1 h2 _ ih =>
  intro f bh nm hn hf
  have h3:=qx8 h2
  have h4:=bt_of_take h1 h2
  have h5:=h1.1
  have h6:=h1.2
  have hp:=qa3 ls
  have hlen:(mk (l :: ls)).length=1+l.length+(mk ls).length:=by simp[mk,xl]
  cases f with
  |zero=>omega
  |succ f =>
   unfold rnGo
   rw[if_pos ⟨by omega,by omega⟩,if_neg (by omega),if_pos (by omega),h4,h2]
   have h7:(nm++lab l).length=nm.length+1+l.length:=by rw[List.length_append,xl];omega
   rw[ih f bh (nm++lab l) (by omega) ?_]
   ·simp[mk]
   ·rw[h7]
    have h8:(400 - (nm.length+1+l.length)+1) * (s.length+1)<=(400 - nm.length) * (s.length+1):=Nat.mul_le_mul_right _ (by omega)
    rw [Nat.add_mul] at h8
    omega
 |@ptr b p t ls e h1 h2 h3 h4 _ ih =>
  intro f bh nm hn hf
  have hp:=qa3 ls
  cases f with
  |zero=>omega
  |succ f =>
   unfold rnGo
   rw[if_pos ⟨by omega,by omega⟩,if_neg (by omega),if_neg (by omega),if_pos ⟨h2,h1⟩,<-h3,if_neg (by omega)]
   rw[ih f (some (bh.getD (p+2))) nm hn (by omega)]
   rfl
theorem name_na{s:List UInt8}{p:Nat}{ls:List (List UInt8)}{e:Nat}(h:NA s p p ls e)(hl:∀ l ∈ ls,okL l)(hn:(mk ls).length<=255):(Rdr.mk s p false).name=(⟨s,e,false⟩,mk ls):=by
 have h1:yo s p=(mk ls,some e):=by
  have:=rnGo_na h (wx s p []+1) none [] (by simpa using hn) (Nat.le_refl _)
  unfold yo
  simpa using this
 exact Rdr.name_ok rfl h1 ((ql6 _).2 ⟨hn,ls,hl,rfl⟩)
def RO(w:Wr):Prop:=∀ x ∈ w.rests,∃ ls k e,(∀ l ∈ ls,okL l)/\x.1=mk ls/\x.2=((k:Nat):Int)/\k<16384/\k<w.buf.length/\NA w.buf k k ls e
theorem qh9{w:Wr}{s:List UInt8}(h:(w.piece s).full=false):w.fits s=true/\w.piece s = { w with buf:=w.buf++s }/\w.full=false:=by
 unfold Wr.piece at h ⊢
 split at h
 ·rename_i hf
  refine⟨hf,by rw[if_pos hf],?_⟩
  unfold Wr.fits at hf
  cases hw:w.full
  ·rfl
  ·rw [hw] at hf;simp at hf
 ·cases h
theorem RO.more{w w':Wr}(h:RO w){d:List UInt8}(hb:w'.buf=w.buf++d)(hr:w'.rests=w.rests):RO w':=by
 intro x hx
 rw [hr] at hx
 obtain⟨ls,k,e,h1,h2,h3,h4,h5,h6⟩:=h x hx
 refine⟨ls,k,e,h1,h2,h3,h4,by rw[hb,List.length_append];omega,?_⟩
 rw[hb]
 exact h6.app d
theorem be2(n:Nat)(h:n<65536):be 2 (n:Int)=[UInt8.ofNat (n / 256),UInt8.ofNat (n % 256)]:=by
 have h1:be 2 (n:Int)=[UInt8.ofNat (IntKind.u8.wrap ((n:Int).fdiv 256)).toNat,UInt8.ofNat (IntKind.u8.wrap ((n:Int).fdiv 1)).toNat]:=rfl
 rw[h1,Int.fdiv_eq_ediv_of_nonneg _ (by decide),Int.fdiv_eq_ediv_of_nonneg _ (by decide),IntKind.wrap_u8,IntKind.wrap_u8]
 congr 2
 ·omega
 ·congr 1
  omega
theorem qc7{w:Wr}{s:List UInt8}(h:(w.piece s).full=false):(w.piece s).rests=w.rests/\(w.piece s).buf=w.buf++s/\(w.piece s).limit=w.limit:=by
 rw[(qh9 h).2.1]
 exact⟨rfl,rfl,rfl⟩
theorem qz7(l:List UInt8)(ls:List (List UInt8)):(mk (l :: ls)).length=1+l.length+(mk ls).length:=by simp[mk,xl]
theorem NA.fin(s:List UInt8)(b:Nat):NA (s++[0]) b s.length [] (s.length+1):=by
 refine .done (by simp) ?_
 unfold bt
 rw[List.getElem?_append_right (Nat.le_refl _),Nat.sub_self]
 rfl
theorem nameGo_back(p:Bool)(st:Nat):∀ (m:Nat) (w:Wr) (ls:List (List UInt8)),(∀ l ∈ ls,okL l)->ls.length<=m->st<=w.buf.length ->
 (∀ x ∈ w.rests,(mk ls).length<x.1.length\/∃ ls' k e,(∀ l ∈ ls',okL l)/\x.1=mk ls'/\x.2=((k:Nat):Int)/\k<16384/\k<st/\NA w.buf k k ls' e) ->
 (Wr.nameGo p m w (mk ls)).full=false ->
 ∃ d new,(Wr.nameGo p m w (mk ls)).buf=w.buf++d/\(Wr.nameGo p m w (mk ls)).rests=w.rests++new /\
  (∀ b,st<=b->NA (w.buf++d) b w.buf.length ls (w.buf.length+d.length)) /\
  (∀ x ∈ new,∃ ls' k,(∀ l ∈ ls',okL l)/\x.1=mk ls'/\x.2=((k:Nat):Int)/\k<16384/\w.buf.length<=k/\k<w.buf.length+d.length/\NA (w.buf++d) k k ls' (w.buf.length+d.length)):=by
 have nil:∀ w:Wr,(w.piece (mk [])).full=false->∃ d new,(w.piece (mk [])).buf=w.buf++d/\(w.piece (mk [])).rests=w.rests++new /\
  (∀ b,st<=b->NA (w.buf++d) b w.buf.length [] (w.buf.length+d.length)) /\
  (∀ x ∈ new,∃ ls' k,(∀ l ∈ ls',okL l)/\x.1=mk ls'/\x.2=((k:Nat):Int)/\k<16384/\w.buf.length<=k/\k<w.buf.length+d.length/\NA (w.buf++d) k k ls' (w.buf.length+d.length)):=by
  intro w h
  obtain⟨h1,h2,_⟩:=qc7 h
  exact⟨[0],[],h2,by rw[h1,List.append_nil],fun b _=>NA.fin w.buf b,fun x hx=>by cases hx⟩
 intro m
 induction m with
 |zero =>
  intro w ls hl hm hst hr hf
  cases ls with
  |nil=>exact nil w hf
  |cons l ls=>simp at hm
 |succ m ih =>
  intro w ls hl hm hst hr hf
  cases ls with
  |nil =>
   have e:Wr.nameGo p (m+1) w (mk [])=w.piece (mk []):=by
    show(if 1<(mk []).length then _ else w.piece (mk []))=_
    exact if_neg (by decide)
   rw [e] at hf ⊢
   exact nil w hf
  |cons l ls =>
   have hol:=hl l (List.mem_cons_self ..)
   have hls:∀ x ∈ ls,okL x:=fun x hx=>hl x (List.mem_cons_of_mem _ hx)
   have hlen:=qz7 l ls
   have hp:=qa3 ls
   have h1:bt (mk (l :: ls)) 0=l.length:=vg l (mk ls) hol
   have h2:(mk (l :: ls)).take (1+l.length)=lab l:=qn3 l (mk ls)
   have h3:(mk (l :: ls)).drop (1+l.length)=mk ls:=u3 l (mk ls)
   have hol1:=hol.1
   -- one label,then the rest
   have go:∀ (w1:Wr) (add:List (List UInt8 × Int)),w1.buf=w.buf++lab l->w1.rests=w.rests++add->(∀ x ∈ add,x=(mk (l :: ls),(w.buf.length:Int))/\w.buf.length<16384) ->
    (Wr.nameGo p m w1 (mk ls)).full=false->∃ d new,(Wr.nameGo p m w1 (mk ls)).buf=w.buf++d/\(Wr.nameGo p m w1 (mk ls)).rests=w.rests++new /\
    (∀ b,st<=b->NA (w.buf++d) b w.buf.length (l :: ls) (w.buf.length+d.length)) /\
    (∀ x ∈ new,∃ ls' k,(∀ l ∈ ls',okL l)/\x.1=mk ls'/\x.2=((k:Nat):Int)/\k<16384/\w.buf.length<=k/\k<w.buf.length+d.length/\NA (w.buf++d) k k ls' (w.buf.length+d.length)):=by
    intro w1 add hb1 hr1 hadd hf1
    have hbl:w1.buf.length=w.buf.length+1+l.length:=by rw[hb1,List.length_append,xl];omega
    obtain⟨d,new,k1,k2,k3,k4⟩:=ih w1 ls hls (by simpa using hm) (by omega) (fun x hx=>by
     rw [hr1] at hx
     rcases List.mem_append.1 hx with hx|hx
     ·rcases hr x hx with h|⟨ls',k,e,a1,a2,a3,a4,a5,a6⟩
      ·exact .inl (by omega)
      ·exact .inr ⟨ls',k,e,a1,a2,a3,a4,a5,by rw[hb1];exact a6.app _⟩
     ·rw[(hadd x hx).1]
      exact .inl (by show(mk ls).length<(mk (l :: ls)).length;omega)) hf1
    have hdd:(lab l++d).length=1+l.length+d.length:=by rw[List.length_append,xl]
    have hww:w1.buf++d=w.buf++(lab l++d):=by rw[hb1,List.append_assoc]
    have hna:∀ b,st<=b->NA (w.buf++(lab l++d)) b w.buf.length (l :: ls) (w.buf.length+(lab l++d).length):=by
     intro b hb
     refine .lab hol ?_ ?_
     ·rw[List.drop_left,<-xl,List.take_left]
     ·have:=k3 b hb
      rw [hww,hbl] at this
      rw[hdd,show w.buf.length+(1+l.length+d.length)=w.buf.length+1+l.length+d.length by omega]
      exact this
    refine⟨lab l++d,add++new,by rw[k1,hww],by rw[k2,hr1,List.append_assoc],hna,fun x hx=>?_⟩
    rcases List.mem_append.1 hx with hx|hx
    ·obtain⟨rfl,hlt⟩:=hadd x hx
     exact⟨l :: ls,w.buf.length,hl,rfl,rfl,hlt,Nat.le_refl _,by omega,hna _ hst⟩
    ·obtain⟨ls',k,a1,a2,a3,a4,a5,a6,a7⟩:=k4 x hx
     refine⟨ls',k,a1,a2,a3,a4,by omega,by omega,?_⟩
     rw [hww,hbl] at a7
     rw[hdd,show w.buf.length+(1+l.length+d.length)=w.buf.length+1+l.length+d.length by omega]
     exact a7
   have e:Wr.nameGo p (m+1) w (mk (l :: ls))=(match fndS w.rests (mk (l :: ls)) with
    |some a=>if p then w.num 2 (49152+a) else
     if w.fits (lab l) then Wr.nameGo p m (w.piece (lab l)) (mk ls) else w.piece (lab l)
    |none =>
     if w.fits (lab l) then Wr.nameGo p m (if w.buf.length<16384 then { w.piece (lab l) with rests:=w.rests++[(mk (l :: ls),(w.buf.length:Int))] } else w.piece (lab l)) (mk ls)
     else w.piece (lab l)):=by
    show(if 1<(mk (l :: ls)).length then _ else _)=_
    rw[if_pos (by omega),h1,h2,h3]
    try rfl
   rw [e] at hf ⊢
   clear e
   have fit:∀ {X:Wr},(if w.fits (lab l) then X else w.piece (lab l)).full=false->w.fits (lab l)=true:=by
    intro X h
    cases hx:w.fits (lab l)
    ·rw [hx,if_neg (by simp)] at h
     rw [(qh9 h).1] at hx
     cases hx
    ·rfl
   cases hfd:fndS w.rests (mk (l :: ls)) with
   |some a =>
    rw [hfd] at hf
    cases p with
    |false =>
     simp only [Bool.false_eq_true,if_false] at hf ⊢
     have hfit:=fit hf
     rw [if_pos hfit] at hf ⊢
     exact go (w.piece (lab l)) [] (by unfold Wr.piece;rw[if_pos hfit]) (by unfold Wr.piece;rw[if_pos hfit];exact(List.append_nil _).symm) (fun x hx=>by cases hx) hf
    |true =>
     simp only [if_true] at hf ⊢
     rcases hr _ (fndS_mem hfd) with h|⟨ls',k,e,a1,a2,a3,a4,a5,a6⟩
     ·exact absurd h (Nat.lt_irrefl _)
     ·have a2:mk (l :: ls)=mk ls':=a2
      have a3:a=(k:Int):=a3
      have:=mk_inj hl a1 a2
      subst this
      subst a3
      have hbe:be 2 (49152+(k:Int))=[UInt8.ofNat ((49152+k) / 256),UInt8.ofNat ((49152+k) % 256)]:=be2 (49152+k) (by omega)
      unfold Wr.num at hf ⊢
      rw [hbe] at hf ⊢
      obtain⟨b1,b2,_⟩:=qc7 hf
      refine⟨_,[],b2,by rw[b1,List.append_nil],fun b hb=>?_,fun x hx=>by cases hx⟩
      have c1:bt (w.buf++[UInt8.ofNat ((49152+k) / 256),UInt8.ofNat ((49152+k) % 256)]) w.buf.length=(49152+k) / 256:=by
       unfold bt
       rw[List.getElem?_append_right (Nat.le_refl _),Nat.sub_self]
       show(UInt8.ofNat ((49152+k) / 256)).toNat=_
       exact wp (by omega)
      have c2:bt (w.buf++[UInt8.ofNat ((49152+k) / 256),UInt8.ofNat ((49152+k) % 256)]) (w.buf.length+1)=(49152+k) % 256:=by
       unfold bt
       rw[List.getElem?_append_right (by omega),show w.buf.length+1 - w.buf.length=1 by omega]
       show(UInt8.ofNat ((49152+k) % 256)).toNat=_
       exact wp (by omega)
      exact .ptr (t:=k) (by simp) (by rw[c1];omega) (by rw[c1,c2];omega) (by omega) (a6.app _)
   |none =>
    rw [hfd] at hf
    simp only at hf ⊢
    have hfit:=fit hf
    rw [if_pos hfit] at hf ⊢
    have hpc:w.piece (lab l) = { w with buf:=w.buf++lab l }:=by unfold Wr.piece;rw[if_pos hfit]
    by_cases hlt:w.buf.length<16384
    ·rw [if_pos hlt] at hf ⊢
     rw [hpc] at hf ⊢
     exact go _ [(mk (l :: ls),(w.buf.length:Int))] rfl rfl (fun x hx=>⟨List.mem_singleton.1 hx,hlt⟩) hf
    ·rw [if_neg hlt] at hf ⊢
     rw [hpc] at hf ⊢
     exact go _ [] rfl (List.append_nil _).symm (fun x hx=>by cases hx) hf
theorem mk_many(ls:List (List UInt8)):ls.length<=(mk ls).length:=by
 induction ls with
 |nil=>exact Nat.zero_le _
 |cons l ls ih=>rw[qz7];simp only[List.length_cons];omega
def Reads{α:Type}(w w1:Wr)(f:Rdr->Rdr × α)(v:α):Prop:=∀ S,w1.buf <+: S->f ⟨S,w.buf.length,false⟩=(⟨S,w1.buf.length,false⟩,v)
theorem qs7{w:Wr}(hw:w.full=false)(hro:RO w){n:List UInt8}(hn:qq n)(p:Bool)(hf:(w.name n p).full=false) :
 RO (w.name n p)/\w.buf <+: (w.name n p).buf/\Reads w (w.name n p) Rdr.name n:=by
 obtain⟨h255,ls,hl,rfl⟩:=(ql6 n).1 hn
 have e:w.name (mk ls) p=Wr.nameGo p (mk ls).length w (mk ls):=by
  unfold Wr.name
  rw[if_neg (by rw[hw];simp[hn])]
 rw [e] at hf ⊢
 obtain⟨d,new,h1,h2,h3,h4⟩:=nameGo_back p w.buf.length _ w ls hl (mk_many ls) (Nat.le_refl _) (fun x hx=>by
  obtain⟨ls',k,e,a1,a2,a3,a4,a5,a6⟩:=hro x hx
  exact .inr ⟨ls',k,e,a1,a2,a3,a4,a5,a6⟩) hf
 refine⟨fun x hx=>?_,⟨d,h1.symm⟩,fun S ⟨t,ht⟩=>?_⟩
 ·rw [h2] at hx
  rw[h1]
  rcases List.mem_append.1 hx with hx|hx
  ·obtain⟨ls',k,e,a1,a2,a3,a4,a5,a6⟩:=hro x hx
   exact⟨ls',k,e,a1,a2,a3,a4,by rw[List.length_append];omega,a6.app d⟩
  ·obtain⟨ls',k,a1,a2,a3,a4,a5,a6,a7⟩:=h4 x hx
   exact⟨ls',k,_,a1,a2,a3,a4,by rw[List.length_append];omega,a7⟩
 ·rw[<-ht,h1]
  have:=name_na ((h3 _ (Nat.le_refl _)).app t) hl h255
  rw[this,List.length_append]
theorem ux(b x t:List UInt8):(Rdr.mk (b++x++t) b.length false).raw x.length=(⟨b++x++t,(b++x).length,false⟩,x):=by
 unfold Rdr.raw
 rw[if_neg (by simp),if_neg (by simp;omega)]
 have e1:(((b++x++t).drop b.length).take x.length)=x:=by
  rw[List.append_assoc,List.drop_left,List.take_left]
 simp only[Int.toNat_natCast]
 rw[e1,List.length_append]
theorem numOf2(n:Nat)(h:n<65536):j3 (be 2 (n:Int))=n:=by
 rw[be2 n h]
 show(0 * 256+(UInt8.ofNat (n / 256)).toNat) * 256+(UInt8.ofNat (n % 256)).toNat=n
 rw[wp (by omega),wp (by omega)]
 omega
theorem numOf4(n:Nat)(h:n<4294967296):j3 (be 4 (n:Int))=n:=by
 have h1:be 4 (n:Int)=[UInt8.ofNat (IntKind.u8.wrap ((n:Int).fdiv 16777216)).toNat,UInt8.ofNat (IntKind.u8.wrap ((n:Int).fdiv 65536)).toNat,UInt8.ofNat (IntKind.u8.wrap ((n:Int).fdiv 256)).toNat,UInt8.ofNat (IntKind.u8.wrap ((n:Int).fdiv 1)).toNat]:=rfl
 rw[h1]
 rw[Int.fdiv_eq_ediv_of_nonneg _ (by decide),Int.fdiv_eq_ediv_of_nonneg _ (by decide),Int.fdiv_eq_ediv_of_nonneg _ (by decide),Int.fdiv_eq_ediv_of_nonneg _ (by decide)]
 show(((0 * 256+(UInt8.ofNat _).toNat) * 256+(UInt8.ofNat _).toNat) * 256+(UInt8.ofNat _).toNat) * 256+(UInt8.ofNat _).toNat=n
 have e:=u8_byte
 have e1:=e ((n:Int) / 16777216)
 have e2:=e ((n:Int) / 65536)
 have e3:=e ((n:Int) / 256)
 have e4:=e ((n:Int) / 1)
 rw [IntKind.wrap_u8] at e1 e2 e3 e4
 rw[IntKind.wrap_u8,IntKind.wrap_u8,IntKind.wrap_u8,IntKind.wrap_u8]
 omega
theorem x9{w:Wr}(hro:RO w)(k:Nat)(n:Nat)(hk:k=2/\n<65536\/k=4/\n<4294967296)(hf:(w.num k (n:Int)).full=false) :
 w.full=false/\RO (w.num k (n:Int))/\w.buf <+: (w.num k (n:Int)).buf/\Reads w (w.num k (n:Int)) (fun r=>r.num k) n:=by
 have hlen:(be k (n:Int)).length=k:=by rcases hk with⟨rfl,_⟩|⟨rfl,_⟩ <;> rfl
 have hnum:j3 (be k (n:Int))=n:=by
  rcases hk with⟨rfl,h⟩|⟨rfl,h⟩
  ·exact numOf2 n h
  ·exact numOf4 n h
 unfold Wr.num at hf ⊢
 obtain⟨h1,h2,h3⟩:=qc7 hf
 refine⟨(qh9 hf).2.2,hro.more h2 h1,⟨_,h2.symm⟩,fun S ⟨t,ht⟩=>?_⟩
 rw[<-ht,h2]
 have:=ux w.buf (be k (n:Int)) t
 rw [hlen] at this
 show(Rdr.mk (w.buf++be k (n:Int)++t) w.buf.length false).num k=_
 unfold Rdr.num
 rw[this]
 show(_,if false=true then 0 else j3 (be k (n:Int)))=_
 rw[if_neg (by simp),hnum]
def Wr.re(w:Wr)(b:List UInt8):Wr:={ w with buf:=b }
structure WOp(f:Wr->Wr):Prop where
 blind:∀ w,∃ d,(f w).buf=w.buf++d/\∀ b,b.length=w.buf.length->f (w.re b)=(f w).re (b++d)
 full:∀ w,(f w).full=false->w.full=false
 lim:∀ w,(f w).limit=w.limit
theorem WOp.id:WOp (fun w=>w):=⟨fun w=>⟨[],(List.append_nil _).symm,fun b _=>by rw[List.append_nil]⟩,fun _ h=>h,fun _=>rfl⟩
theorem WOp.comp{f g:Wr->Wr}(hf:WOp f)(hg:WOp g):WOp (fun w=>g (f w)):=by
 refine⟨fun w=>?_,fun w h=>hf.full w (hg.full _ h),fun w=>(hg.lim _).trans (hf.lim w)⟩
 obtain⟨d1,a1,a2⟩:=hf.blind w
 obtain⟨d2,b1,b2⟩:=hg.blind (f w)
 refine⟨d1++d2,by rw[b1,a1,List.append_assoc],fun b hb=>?_⟩
 show g (f (w.re b))=_
 rw[a2 b hb,b2 (b++d1) (by rw[a1,List.length_append,List.length_append,hb]),List.append_assoc]
theorem WOp.of{f:Wr->Wr}(h:∀ w,∃ g,WOp g/\f w=g w/\∀ b,b.length=w.buf.length->f (w.re b)=g (w.re b)):WOp f:=by
 refine⟨fun w=>?_,fun w=>?_,fun w=>?_⟩ <;> obtain⟨g,hg,h1,h2⟩:=h w
 ·obtain⟨d,a1,a2⟩:=hg.blind w
  refine⟨d,by rw[h1,a1],fun b hb=>?_⟩
  rw[h2 b hb,h1]
  exact a2 b hb
 ·rw[h1]
  exact hg.full w
 ·rw[h1]
  exact hg.lim w
theorem qc5(w:Wr){b:List UInt8}(s:List UInt8)(h:b.length=w.buf.length):(w.re b).fits s=w.fits s:=by
 show(!w.full && (decide (s.length=0) || decide ((s.length:Int)<=w.limit - b.length)))=_
 rw[h]
 rfl
theorem qe4(s:List UInt8):WOp (fun w=>w.piece s):=by
 refine⟨fun w=>?_,fun w h=>(qh9 h).2.2,fun w=>by show(w.piece s).limit=_;unfold Wr.piece;split <;> rfl⟩
 cases hf:w.fits s
 ·refine⟨[],by show(w.piece s).buf=_;unfold Wr.piece;rw[hf,List.append_nil];rfl,fun b hb=>?_⟩
  show(w.re b).piece s=(w.piece s).re (b++[])
  unfold Wr.piece
  rw[qc5 w s hb,hf,List.append_nil]
  rfl
 ·refine⟨s,by show(w.piece s).buf=_;unfold Wr.piece;rw[hf];rfl,fun b hb=>?_⟩
  show(w.re b).piece s=(w.piece s).re (b++s)
  unfold Wr.piece
  rw[qc5 w s hb,hf]
  rfl
theorem add_op(e:List UInt8 × Int):WOp (fun w=>{ w with rests:=w.rests++[e] }) :=
 ⟨fun w=>⟨[],(List.append_nil _).symm,fun b _=>by rw[List.append_nil];rfl⟩,fun _ h=>h,fun _=>rfl⟩
theorem nameGo_op(p:Bool):∀ (m:Nat) (n:List UInt8),WOp (fun w=>Wr.nameGo p m w n)
 |0,n=>qe4 n
 |m+1,n=>by
  have ih:=nameGo_op p m (n.drop (1+bt n 0))
  have hpc:=qe4 (n.take (1+bt n 0))
  refine WOp.of fun w=>?_
  by_cases h1:1<n.length
  ·cases h2:fndS w.rests n with
   |some a =>
    cases p with
    |true =>
     refine⟨fun w=>w.num 2 (49152+a),qe4 _,?_,fun b _=>?_⟩
     ·simp only[Wr.nameGo,if_pos h1,h2,if_true]
     ·simp only[Wr.nameGo,if_pos h1,Wr.re,h2,if_true]
    |false =>
     cases h3:w.fits (n.take (1+bt n 0)) with
     |true =>
      refine⟨_,hpc.comp ih,?_,fun b hb=>?_⟩
      ·simp only[Wr.nameGo,if_pos h1,h2,h3,if_true,Bool.false_eq_true,if_false]
      ·have h4:(w.re b).fits (n.take (1+bt n 0))=true:=(qc5 w _ hb).trans h3
       have h5:fndS (w.re b).rests n=some a:=h2
       simp only[Wr.nameGo,if_pos h1,h5,h4,if_true,Bool.false_eq_true,if_false]
     |false =>
      refine⟨_,hpc,?_,fun b hb=>?_⟩
      ·simp only[Wr.nameGo,if_pos h1,h2,h3,Bool.false_eq_true,if_false]
      ·have h4:(w.re b).fits (n.take (1+bt n 0))=false:=(qc5 w _ hb).trans h3
       have h5:fndS (w.re b).rests n=some a:=h2
       simp only[Wr.nameGo,if_pos h1,h5,h4,Bool.false_eq_true,if_false]
   |none =>
    cases h3:w.fits (n.take (1+bt n 0)) with
    |true =>
     have hpb:∀ w:Wr,w.fits (n.take (1+bt n 0))=true->(w.piece (n.take (1+bt n 0))).rests=w.rests:=fun w h=>by unfold Wr.piece;rw[if_pos h]
     by_cases h6:w.buf.length<16384
     ·refine⟨_,(hpc.comp (add_op (n,(w.buf.length:Int)))).comp ih,?_,fun b hb=>?_⟩
      ·simp only[Wr.nameGo,if_pos h1,h2,h3,if_true,if_pos h6,hpb w h3]
      ·have h4:(w.re b).fits (n.take (1+bt n 0))=true:=(qc5 w _ hb).trans h3
       have h5:fndS (w.re b).rests n=none:=h2
       have h7:(w.re b).buf.length=w.buf.length:=hb
       simp only[Wr.nameGo,if_pos h1,h5,h4,if_true,h7,if_pos h6,hpb _ h4]
     ·refine⟨_,hpc.comp ih,?_,fun b hb=>?_⟩
      ·simp only[Wr.nameGo,if_pos h1,h2,h3,if_true,if_neg h6]
      ·have h4:(w.re b).fits (n.take (1+bt n 0))=true:=(qc5 w _ hb).trans h3
       have h5:fndS (w.re b).rests n=none:=h2
       have h7:(w.re b).buf.length=w.buf.length:=hb
       simp only[Wr.nameGo,if_pos h1,h5,h4,if_true,h7,if_neg h6]
    |false =>
     refine⟨_,hpc,?_,fun b hb=>?_⟩
     ·simp only[Wr.nameGo,if_pos h1,h2,h3,Bool.false_eq_true,if_false]
     ·have h4:(w.re b).fits (n.take (1+bt n 0))=false:=(qc5 w _ hb).trans h3
      have h5:fndS (w.re b).rests n=none:=h2
      simp only[Wr.nameGo,if_pos h1,h5,h4,Bool.false_eq_true,if_false]
  ·refine⟨_,qe4 n,?_,fun b _=>?_⟩
   ·simp only[Wr.nameGo,if_neg h1]
   ·simp only[Wr.nameGo,if_neg h1]
theorem u6(n:List UInt8)(p:Bool):WOp (fun w=>w.name n p):=by
 refine WOp.of fun w=>?_
 by_cases h:w.full=true\/¬ qq n
 ·exact⟨_,WOp.id,by show w.name n p=_;unfold Wr.name;rw[if_pos h],fun b _=>by show(w.re b).name n p=_;unfold Wr.name;exact if_pos h⟩
 ·exact⟨_,nameGo_op p n.length n,by show w.name n p=_;unfold Wr.name;rw[if_neg h],fun b _=>by show(w.re b).name n p=_;unfold Wr.name;exact if_neg h⟩
theorem qi6(p:Bool)(l:List (List UInt8)):WOp (fun w=>w.names p l):=by
 induction l with
 |nil=>exact WOp.id
 |cons n l ih=>exact(u6 n p).comp ih
theorem jj(k:Nat)(n:Int):WOp (fun w=>w.num k n):=qe4 _
theorem qe0(width:Nat):∀ (m:Nat) (r:Rdr),WOp (fun w=>(w.copies width m r).1)
 |0,_=>WOp.id
 |m+1,_=>(jj width _).comp (qe0 width m _)
theorem uw(t:Int)(s:List UInt8):WOp (fun w=>(w.rdata t s).1):=by
 cases h:jx t s
 ·have e:(fun w:Wr=>(w.rdata t s).1)=fun w=>w:=funext fun w=>by unfold Wr.rdata;rw[h];rfl
  rw[e]
  exact WOp.id
 ·cases hl:j1 t s with
  |none =>
   have e:(fun w:Wr=>(w.rdata t s).1)=fun w=>w.piece s:=funext fun w=>by unfold Wr.rdata;rw[h,hl];rfl
   rw[e]
   exact qe4 s
  |some q =>
   obtain⟨p,x,l,r⟩:=q
   have e:(fun w:Wr=>(w.rdata t s).1)=fun w=>(((w.copies 2 p.1 ⟨x,0,false⟩).1.names (t != 33) l).copies 4 p.2.2 ⟨r,0,false⟩).1:=funext fun w=>by unfold Wr.rdata;rw[h,hl];rfl
   rw[e]
   exact((qe0 2 p.1 _).comp (qi6 _ l)).comp (qe0 4 p.2.2 _)
theorem WOp.pre{f:Wr->Wr}(h:WOp f)(w:Wr):w.buf <+: (f w).buf:=by
 obtain⟨d,h1,_⟩:=h.blind w
 exact⟨d,h1.symm⟩
theorem namesF_eq:∀ (n:Nat) (s:List UInt8) (l:List (List UInt8)) (r:List UInt8),zc n s=some (l,r)->l.flatten++r=s/\l.length=n/\∀ x ∈ l,qq x
 |0,s,l,r,h=>by
  obtain⟨rfl,rfl⟩:=Prod.mk.inj (Option.some.inj h)
  exact⟨rfl,rfl,fun x hx=>by cases hx⟩
 |n+1,s,l,r,h=>by
  simp only [zc] at h
  split at h
  ·cases h
  ·rename_i h0
   obtain⟨p,hp,h2⟩:=Option.map_eq_some_iff.1 h
   obtain⟨rfl,rfl⟩:=Prod.mk.inj h2
   obtain⟨a1,a2,a3⟩:=namesF_eq n _ _ _ hp
   refine⟨?_,by simp[a2],fun x hx=>?_⟩
   ·rw[List.flatten_cons,List.append_assoc,a1,List.take_append_drop]
   ·rcases List.mem_cons.1 hx with rfl|hx
    ·exact firstF_name s _ _ h0
    ·exact a3 x hx
theorem numOf_be(k:Nat)(hk:k=2\/k=4)(x:List UInt8)(hx:x.length=k):be k (j3 x:Nat)=x/\(k=2/\j3 x<65536\/k=4/\j3 x<4294967296):=by
 rcases hk with rfl|rfl
 ·obtain⟨a,b,rfl⟩:∃ a b,x=[a,b]:=(match x,hx with|[a,b],_=>⟨a,b,rfl⟩)
  have ha:=UInt8.toNat_lt a
  have hb:=UInt8.toNat_lt b
  have e:j3 [a,b]=a.toNat * 256+b.toNat:=by show(0 * 256+a.toNat) * 256+b.toNat=_;omega
  rw[e]
  refine⟨?_,.inl ⟨rfl,by omega⟩⟩
  rw[be2 _ (by omega)]
  have e1:(a.toNat * 256+b.toNat) / 256=a.toNat:=by omega
  have e2:(a.toNat * 256+b.toNat) % 256=b.toNat:=by omega
  rw[e1,e2,UInt8.ofNat_toNat,UInt8.ofNat_toNat]
 ·obtain⟨a,b,c,d,rfl⟩:∃ a b c d,x=[a,b,c,d]:=(match x,hx with|[a,b,c,d],_=>⟨a,b,c,d,rfl⟩)
  have ha:=UInt8.toNat_lt a
  have hb:=UInt8.toNat_lt b
  have hc:=UInt8.toNat_lt c
  have hd:=UInt8.toNat_lt d
  have e:j3 [a,b,c,d]=((a.toNat * 256+b.toNat) * 256+c.toNat) * 256+d.toNat:=by show(((0 * 256+a.toNat) * 256+b.toNat) * 256+c.toNat) * 256+d.toNat=_;omega
  rw[e]
  refine⟨?_,.inr ⟨rfl,by omega⟩⟩
  have h1:∀ n:Nat,be 4 (n:Int)=[UInt8.ofNat (IntKind.u8.wrap ((n:Int).fdiv 16777216)).toNat,UInt8.ofNat (IntKind.u8.wrap ((n:Int).fdiv 65536)).toNat,UInt8.ofNat (IntKind.u8.wrap ((n:Int).fdiv 256)).toNat,UInt8.ofNat (IntKind.u8.wrap ((n:Int).fdiv 1)).toNat]:=fun n=>rfl
  rw[h1]
  rw[Int.fdiv_eq_ediv_of_nonneg _ (by decide),Int.fdiv_eq_ediv_of_nonneg _ (by decide),Int.fdiv_eq_ediv_of_nonneg _ (by decide),Int.fdiv_eq_ediv_of_nonneg _ (by decide)]
  rw[IntKind.wrap_u8,IntKind.wrap_u8,IntKind.wrap_u8,IntKind.wrap_u8]
  generalize hN:((a.toNat * 256+b.toNat) * 256+c.toNat) * 256+d.toNat=N
  have e1:(((N:Int) / 16777216 % 256).toNat)=a.toNat:=by omega
  have e2:(((N:Int) / 65536 % 256).toNat)=b.toNat:=by omega
  have e3:(((N:Int) / 256 % 256).toNat)=c.toNat:=by omega
  have e4:(((N:Int) / 1 % 256).toNat)=d.toNat:=by omega
  rw[e1,e2,e3,e4,UInt8.ofNat_toNat,UInt8.ofNat_toNat,UInt8.ofNat_toNat,UInt8.ofNat_toNat]
theorem qq8(k:Nat)(hk:k=2\/k=4):∀ (m:Nat) (w:Wr) (x:List UInt8) (p:Nat),p+k * m=x.length->(w.copies k m ⟨x,p,false⟩).1.full=false ->
 (w.copies k m ⟨x,p,false⟩).1.buf=w.buf++x.drop p/\(w.copies k m ⟨x,p,false⟩).1.rests=w.rests
 |0,w,x,p,hp,_=>by
  show w.buf=w.buf++x.drop p/\_
  rw[List.drop_of_length_le (by omega),List.append_nil]
  exact⟨rfl,rfl⟩
 |m+1,w,x,p,hp,hf=>by
  have hmul:k * (m+1)=k * m+k:=rfl
  have hk0:0<k:=by omega
  have hraw:(Rdr.mk x p false).raw (k:Nat)=(⟨x,p+k,false⟩,(x.drop p).take k):=by
   unfold Rdr.raw
   rw[if_neg (by simp),if_neg (by show ¬ (((k:Nat):Int)<0\/((k:Nat):Int) > (x.length:Int) - p);omega),Int.toNat_natCast]
  have hnum:(Rdr.mk x p false).num k=(⟨x,p+k,false⟩,j3 ((x.drop p).take k)):=by
   unfold Rdr.num
   rw[hraw]
   rfl
  have hxl:((x.drop p).take k).length=k:=by rw[List.length_take,List.length_drop];omega
  obtain⟨hbe,_⟩:=numOf_be k hk _ hxl
  have e:w.copies k (m+1) ⟨x,p,false⟩=(w.piece ((x.drop p).take k)).copies k m ⟨x,p+k,false⟩:=by
   show(w.num k ((Rdr.mk x p false).num k).2).copies k m ((Rdr.mk x p false).num k).1=_
   rw[hnum]
   show(w.piece (be k ((j3 ((x.drop p).take k):Nat):Int))).copies k m _=_
   rw[hbe]
  rw [e] at hf ⊢
  obtain⟨a1,a2⟩:=qq8 k hk m _ x (p+k) (by omega) hf
  have hpf:(w.piece ((x.drop p).take k)).full=false:=(qe0 k m _).full _ hf
  obtain⟨b1,b2,_⟩:=qc7 hpf
  refine⟨?_,a2.trans b1⟩
  rw[a1,b2,List.append_assoc,<-List.drop_drop,List.take_append_drop]
theorem jc3(p:Bool):∀ (l:List (List UInt8)) (w:Wr),(∀ n ∈ l,qq n)->RO w->(w.names p l).full=false ->
 RO (w.names p l)/\∀ b,Reads w (w.names p l) (fun r=>Rdr.names l.length r b) (b++l.flatten)
 |[],w,_,hro,_=>⟨hro,fun b S _=>by show(_,b)=_;simp[Wr.names]⟩
 |n :: l,w,hl,hro,hf=>by
  have hf:((w.name n p).names p l).full=false:=hf
  have h1:=(qi6 p l).full _ hf
  have h0:=(u6 n p).full _ h1
  obtain⟨a1,_,a3⟩:=qs7 h0 hro (hl n (List.mem_cons_self ..)) p h1
  obtain⟨b1,b2⟩:=jc3 p l (w.name n p) (fun x hx=>hl x (List.mem_cons_of_mem _ hx)) a1 hf
  refine⟨b1,fun b S hS=>?_⟩
  show Rdr.names l.length (Rdr.mk S w.buf.length false).name.1 (b++(Rdr.mk S w.buf.length false).name.2)=_
  rw[a3 S (((qi6 p l).pre _).trans hS)]
  rw[List.flatten_cons,<-List.append_assoc]
  exact b2 (b++n) S hS
theorem formOf_cases{t:Int}{f:Nat × Nat × Nat}(h:jw t=some f):t≠1/\t≠28/\t≠16:=by
 unfold jw at h
 repeat'(split at h)
 all_goals first|omega|cases h
theorem qm2{w w1:Wr}{x:List UInt8}(h:w1.buf=w.buf++x):Reads w w1 (fun r=>r.raw x.length) x:=by
 intro S ⟨t,ht⟩
 have:=ux w.buf x t
 rw [<-h,ht] at this
 exact this
theorem rdata_back{w:Wr}(hro:RO w){t:Int}{s:List UInt8}(hs:jx t s=true)(hf:(w.rdata t s).1.full=false) :
 RO (w.rdata t s).1/\∀ S,(w.rdata t s).1.buf <+: S->(Rdr.mk S w.buf.length false).rdata t ((w.rdata t s).1.buf.length - w.buf.length:Nat)=(s,0) /\
  ((Rdr.mk S w.buf.length false).part ((w.rdata t s).1.buf.length - w.buf.length:Nat)).1=⟨S,(w.rdata t s).1.buf.length,false⟩:=by
 obtain⟨d,hd⟩:=(uw t s).pre w
 have hd:w.buf++d=(w.rdata t s).1.buf:=hd
 have hdl:(w.rdata t s).1.buf.length - w.buf.length=d.length:=by rw[<-hd,List.length_append];omega
 -- what lies there
 have body:RO (w.rdata t s).1/\(Rdr.mk (w.rdata t s).1.buf w.buf.length false).body t d.length=(⟨(w.rdata t s).1.buf,(w.rdata t s).1.buf.length,false⟩,s):=by
  cases hfo:jw t with
  |none =>
   have hl:j1 t s=none:=by unfold j1;rw[hfo];split <;> rfl
   have e:(w.rdata t s).1=w.piece s:=by unfold Wr.rdata;rw[hs,hl];rfl
   rw [e] at hf hd ⊢
   obtain⟨b1,b2,_⟩:=qc7 hf
   have:d=s:=List.append_cancel_left (hd.trans b2)
   subst this
   refine⟨hro.more b2 b1,?_⟩
   unfold Rdr.body
   rw[hfo]
   exact qm2 b2 _ (List.prefix_refl _)
  |some f =>
   obtain⟨t1,t2,t3⟩:=formOf_cases hfo
   have hcs:=hs
   unfold jx zi at hcs
   rw [if_neg t1,if_neg t2,if_neg t3,hfo] at hcs
   simp only [Bool.and_eq_true,decide_eq_true_eq] at hcs
   obtain⟨c1,c2⟩:=hcs
   obtain⟨⟨x,l,r⟩,hcut⟩:=Option.isSome_iff_exists.1 c2
   have hl:j1 t s=some (f,x,l,r):=by unfold j1;rw[if_pos c1,hfo];show(cutF f.1 f.2.1 f.2.2 s).map _=_;rw[hcut];rfl
   obtain⟨_,_,e1,e2,e3,e4⟩:=lookF_le hl
   obtain⟨n1,n2,n3⟩:=namesF_eq _ _ _ _ e3
   have hx:x.length=2 * f.1:=by rw[e1,List.length_take];omega
   have hcat:x++l.flatten++r=s:=by rw[List.append_assoc,n1,e1,List.take_append_drop]
   have e:(w.rdata t s).1=(((w.copies 2 f.1 ⟨x,0,false⟩).1.names (t != 33) l).copies 4 f.2.2 ⟨r,0,false⟩).1:=by unfold Wr.rdata;rw[hs,hl];rfl
   rw [e] at hf hd ⊢
   have f2:=(qe0 4 f.2.2 _).full _ hf
   have f1:=(qi6 _ l).full _ f2
   obtain⟨g1,g2⟩:=qq8 2 (.inl rfl) f.1 w x 0 (by omega) f1
   obtain⟨g3,g4⟩:=qq8 4 (.inr rfl) f.2.2 _ r 0 (by omega) hf
   rw [List.drop_zero] at g1 g3
   obtain⟨k1,k2⟩:=jc3 (t != 33) l _ n3 (hro.more g1 g2) f2
   refine⟨k1.more g3 g4,?_⟩
   have p2:((w.copies 2 f.1 ⟨x,0,false⟩).1.names (t != 33) l).buf <+: _:=(qe0 4 f.2.2 ⟨r,0,false⟩).pre ((w.copies 2 f.1 ⟨x,0,false⟩).1.names (t != 33) l)
   have p1:(w.copies 2 f.1 ⟨x,0,false⟩).1.buf <+: ((w.copies 2 f.1 ⟨x,0,false⟩).1.names (t != 33) l).buf:=(qi6 (t != 33) l).pre (w.copies 2 f.1 ⟨x,0,false⟩).1
   clear f1 f2 e g2 g4 k1 hf hd
   generalize (((w.copies 2 f.1 ⟨x,0,false⟩).1.names (t != 33) l).copies 4 f.2.2 ⟨r,0,false⟩).1=w3 at p2 g3 ⊢
   generalize (w.copies 2 f.1 ⟨x,0,false⟩).1.names (t != 33) l=w2 at p2 p1 g3 k2
   generalize (w.copies 2 f.1 ⟨x,0,false⟩).1=w1 at p1 g1 k2
   have r1:∀ S,w1.buf <+: S->(Rdr.mk S w.buf.length false).raw x.length=(⟨S,w1.buf.length,false⟩,x):=qm2 g1
   have r3:∀ S,w3.buf <+: S->(Rdr.mk S w2.buf.length false).raw r.length=(⟨S,w3.buf.length,false⟩,r):=qm2 g3
   have k2:∀ b S,w2.buf <+: S->Rdr.names l.length ⟨S,w1.buf.length,false⟩ b=(⟨S,w2.buf.length,false⟩,b++l.flatten):=k2
   unfold Rdr.body
   rw[hfo]
   show(((Rdr.names f.2.1 ((Rdr.mk _ w.buf.length false).raw (2 * (f.1:Int))).1 ((Rdr.mk _ w.buf.length false).raw (2 * (f.1:Int))).2).1.raw (4 * (f.2.2:Int))).1,_++((Rdr.names f.2.1 ((Rdr.mk _ w.buf.length false).raw (2 * (f.1:Int))).1 ((Rdr.mk _ w.buf.length false).raw (2 * (f.1:Int))).2).1.raw (4 * (f.2.2:Int))).2)=_
   have q1:(2 * (f.1:Int))=((x.length:Nat):Int):=by omega
   have q2:(4 * (f.2.2:Int))=((r.length:Nat):Int):=by omega
   rw[q1,q2,r1 _ (p1.trans p2),<-n2,k2 x _ p2,r3 _ (List.prefix_refl _)]
   show(_,x++l.flatten++r)=_
   rw[hcat]
 refine⟨body.1,fun S hS=>?_⟩
 rw[hdl]
 have hraw:=qm2 hd.symm S hS
 have hraw:(Rdr.mk S w.buf.length false).raw (d.length:Nat)=(⟨S,(w.rdata t s).1.buf.length,false⟩,d):=hraw
 have htake:S.take (w.rdata t s).1.buf.length=(w.rdata t s).1.buf:=by
  obtain⟨u,hu⟩:=hS
  rw[<-hu,List.take_left]
 have hpart:(Rdr.mk S w.buf.length false).part (d.length:Nat)=(⟨S,(w.rdata t s).1.buf.length,false⟩,⟨(w.rdata t s).1.buf,w.buf.length,false⟩):=by
  unfold Rdr.part
  rw[hraw]
  show(_,if false=true then _ else (⟨S.take (w.rdata t s).1.buf.length,if false=true then 0 else w.buf.length,false⟩:Rdr))=_
  rw[if_neg (by simp),if_neg (by simp),htake]
 refine⟨?_,by rw[hpart]⟩
 unfold Rdr.rdata
 rw[hpart]
 show(if false=true then _ else _)=_
 rw[if_neg (by simp)]
 show(if (((Rdr.mk (w.rdata t s).1.buf w.buf.length false).body t (d.length:Nat)).1.bad || decide (0<((Rdr.mk (w.rdata t s).1.buf w.buf.length false).body t (d.length:Nat)).1.s.length - ((Rdr.mk (w.rdata t s).1.buf w.buf.length false).body t (d.length:Nat)).1.p) || !jx t ((Rdr.mk (w.rdata t s).1.buf w.buf.length false).body t (d.length:Nat)).2)=true then _ else (((Rdr.mk (w.rdata t s).1.buf w.buf.length false).body t (d.length:Nat)).2,(0:Int)))=_
 rw[body.2]
 show(if (false || decide (0<(w.rdata t s).1.buf.length - (w.rdata t s).1.buf.length) || !jx t s)=true then _ else (s,(0:Int)))=_
 rw[hs,Nat.sub_self]
 rfl
theorem jb6(w:Wr)(r:RR):(w.record r).1.limit=w.limit:=by
 unfold Wr.record
 split
 ·have hset:∀ (a:Wr) (i n:Int),(a.set i n).limit=a.limit:=fun a i n=>by unfold Wr.set;split <;> rfl
  exact(hset _ _ _).trans (((((((u6 r.nm true).comp (jj 2 r.ty)).comp (jj 2 r.cl)).comp (jj 4 r.ttl)).comp (jj 2 0)).comp (uw r.ty r.d)).lim w)
 ·rfl
theorem record_back{w:Wr}(hok:w.Ok)(hlim:w.limit<=65536)(hro:RO w){r:RR}(hc:r.check=true)(ho:r.Ok)(hf:(w.record r).1.full=false) :
 w.full=false/\RO (w.record r).1/\w.buf <+: (w.record r).1.buf/\∀ S,(w.record r).1.buf <+: S->(Rdr.mk S w.buf.length false).recd=(⟨S,(w.record r).1.buf.length,false⟩,r,0):=by
 have hcs:=hc
 simp only [RR.check,Bool.and_eq_true,Bool.or_eq_true,decide_eq_true_eq,beq_iff_eq] at hcs
 obtain⟨⟨c1,c2⟩,c3⟩:=hcs
 obtain⟨ty,hty⟩:∃ n:Nat,r.ty=n:=⟨r.ty.toNat,by have:=ho.ty;omega⟩
 obtain⟨cl,hcl⟩:∃ n:Nat,r.cl=n:=⟨r.cl.toNat,by have:=ho.cl;omega⟩
 obtain⟨tt,htt⟩:∃ n:Nat,r.ttl=n:=⟨r.ttl.toNat,by have:=ho.ttl;omega⟩
 have hty':ty<65536:=by have:=ho.ty;omega
 have hcl':cl<65536:=by have:=ho.cl;omega
 have htt':tt<4294967296:=by have:=ho.ttl;omega
 generalize hw0:w.name r.nm true=wa
 generalize hwb:wa.num 2 r.ty=wb
 generalize hwc:wb.num 2 r.cl=wc
 generalize hwd:wc.num 4 r.ttl=w1
 obtain⟨d,hd1,hd2⟩:=(uw r.ty r.d).blind (w1.num 2 0)
 have hd1:((w1.num 2 0).rdata r.ty r.d).1.buf=(w1.num 2 0).buf++d:=hd1
 have hoks:((w1.num 2 0).rdata r.ty r.d).1.Ok:=by
  rw[<-hwd,<-hwc,<-hwb,<-hw0]
  exact Wr.Ok.rdata (((((hok.name _ _).num _ _).num _ _).num _ _).num _ _) _ _
 have hlims:((w1.num 2 0).rdata r.ty r.d).1.limit=w.limit:=by
  rw[<-hwd,<-hwc,<-hwb,<-hw0]
  exact((((((u6 r.nm true).comp (jj 2 r.ty)).comp (jj 2 r.cl)).comp (jj 4 r.ttl)).comp (jj 2 0)).comp (uw r.ty r.d)).lim w
 have hrec:w.record r=(((w1.num 2 0).rdata r.ty r.d).1.set w1.buf.length (IntKind.u16.wrap ((((w1.num 2 0).rdata r.ty r.d).1.buf.length:Int) - (w1.num 2 0).buf.length)),((w1.num 2 0).rdata r.ty r.d).2):=by
  rw[<-hwd,<-hwc,<-hwb,<-hw0]
  unfold Wr.record
  rw[if_pos hc]
 have hsetf:∀ (a:Wr) (i n:Int),(a.set i n).full=a.full:=fun a i n=>by unfold Wr.set;split <;> rfl
 rw [hrec] at hf ⊢
 have hf:(((w1.num 2 0).rdata r.ty r.d).1.set w1.buf.length (IntKind.u16.wrap ((((w1.num 2 0).rdata r.ty r.d).1.buf.length:Int) - (w1.num 2 0).buf.length))).full=false:=hf
 rw [hsetf] at hf
 have hf2:=(uw r.ty r.d).full _ hf
 obtain⟨hfit,hpc,hf1⟩:=qh9 hf2
 have hpc:w1.num 2 0 = { w1 with buf:=w1.buf++be 2 0 }:=hpc
 have hlen2:((w1.num 2 0).buf).length=w1.buf.length+2:=by rw[hpc];show(w1.buf++be 2 0).length=_;rw[List.length_append];rfl
 have hdlen:d.length<=65535:=by
  have:=hoks.len
  rw [hd1,List.length_append,hlims,hlen2] at this
  omega
 have hL:IntKind.u16.wrap ((((w1.num 2 0).rdata r.ty r.d).1.buf.length:Int) - (w1.num 2 0).buf.length)=(d.length:Int):=by
  rw[hd1,List.length_append,IntKind.wrap_u16]
  omega
 rw[hL]
 have hfitL:w1.fits (be 2 (d.length:Int))=true:=hfit
 have hpcL:w1.num 2 (d.length:Int) = { w1 with buf:=w1.buf++be 2 (d.length:Int) }:=by
  show w1.piece _=_
  unfold Wr.piece
  rw[if_pos hfitL]
 have hre:w1.num 2 (d.length:Int)=(w1.num 2 0).re (w1.buf++be 2 (d.length:Int)):=by rw[hpcL,hpc];rfl
 have hrd:=hd2 (w1.buf++be 2 (d.length:Int)) (by rw[List.length_append,hlen2];rfl)
 have hrd:(((w1.num 2 0).re (w1.buf++be 2 (d.length:Int))).rdata r.ty r.d).1=((w1.num 2 0).rdata r.ty r.d).1.re (w1.buf++be 2 (d.length:Int)++d):=hrd
 rw [<-hre] at hrd
 have hset:((w1.num 2 0).rdata r.ty r.d).1.set w1.buf.length (d.length:Int)=((w1.num 2 (d.length:Int)).rdata r.ty r.d).1:=by
  rw[hrd]
  unfold Wr.set
  have hbl:((w1.num 2 0).rdata r.ty r.d).1.buf.length=w1.buf.length+2+d.length:=by rw[hd1,List.length_append,hlen2]
  rw[if_neg (by rw[hbl];omega),Int.toNat_natCast,hd1,hpc]
  unfold Wr.re
  congr 1
  show two (w1.buf++be 2 0++d) w1.buf.length _ _=_
  unfold two
  rw[List.append_assoc,List.take_left,List.append_assoc]
  congr 1
  rw[be2 _ (show d.length<65536 by omega)]
  have q0:(w1.buf++(be 2 0++d)).drop (w1.buf.length+2)=d:=by
   rw[<-List.drop_drop,List.drop_left]
   rfl
  rw[q0]
  have q1:(d.length:Int).fdiv 256=((d.length / 256:Nat):Int):=by rw[Int.fdiv_eq_ediv_of_nonneg _ (by decide)];omega
  rw[q1,IntKind.wrap_u8,IntKind.wrap_u8]
  show _ :: _ :: d=[_,_]++d
  congr 2
  congr 2
  omega
 rw[hset]
 have hfR:((w1.num 2 (d.length:Int)).rdata r.ty r.d).1.full=false:=by rw[hrd];exact hf
 clear hrec hset hre hd2 hoks hlims hf hf2 hfit hfitL
 have fL:(w1.num 2 (d.length:Int)).full=false:=(uw r.ty r.d).full _ hfR
 have f1:w1.full=false:=(jj 2 _).full _ fL
 rw [<-hwd] at f1
 have fc:wc.full=false:=(jj 4 _).full _ f1
 rw [<-hwc] at fc
 have fb:wb.full=false:=(jj 2 _).full _ fc
 rw [<-hwb] at fb
 have fa:wa.full=false:=(jj 2 _).full _ fb
 rw [<-hw0] at fa
 have f0:w.full=false:=(u6 r.nm true).full _ fa
 obtain⟨ra,pa,va⟩:=qs7 f0 hro c1 true fa
 rw [hw0] at ra pa va
 rw [hty] at fb hwb
 obtain⟨_,rb,pb,vb⟩:=x9 ra 2 ty (.inl ⟨rfl,hty'⟩) fb
 rw [hwb] at rb pb vb
 rw [hcl] at fc hwc
 obtain⟨_,rc,pc,vc⟩:=x9 rb 2 cl (.inl ⟨rfl,hcl'⟩) fc
 rw [hwc] at rc pc vc
 rw [htt] at f1 hwd
 obtain⟨_,rd,pd,vd⟩:=x9 rc 4 tt (.inr ⟨rfl,htt'⟩) f1
 rw [hwd] at rd pd vd
 obtain⟨_,re,pe,ve⟩:=x9 rd 2 d.length (.inl ⟨rfl,by omega⟩) fL
 obtain⟨rf,vf⟩:=rdata_back re c2 hfR
 have pf:=(uw r.ty r.d).pre (w1.num 2 (d.length:Int))
 refine⟨f0,rf,(((pa.trans pb).trans pc).trans pd).trans (pe.trans pf),fun S hS=>?_⟩
 obtain⟨vf1,vf2⟩:=vf S hS
 have hS:((w1.num 2 (d.length:Int)).rdata r.ty r.d).1.buf <+: S:=hS
 have s5:=pf.trans hS
 have s4:=pe.trans s5
 have s3:=pd.trans s4
 have s2:=pc.trans s3
 have s1:=pb.trans s2
 have hdl:((w1.num 2 (d.length:Int)).rdata r.ty r.d).1.buf.length - (w1.num 2 (d.length:Int)).buf.length=d.length:=by
  rw[hrd,hpcL]
  show(w1.buf++be 2 (d.length:Int)++d).length - (w1.buf++be 2 (d.length:Int)).length=_
  simp only[List.length_append]
  omega
 rw [hdl] at vf1 vf2
 unfold Rdr.recd
 rw[va S s1]
 dsimp only
 have vb:(Rdr.mk S wa.buf.length false).num 2=_:=vb S s2
 rw[vb]
 dsimp only
 have vc:(Rdr.mk S wb.buf.length false).num 2=_:=vc S s3
 rw[vc]
 dsimp only
 have vd:(Rdr.mk S wc.buf.length false).num 4=_:=vd S s4
 rw[vd]
 dsimp only
 have ve:(Rdr.mk S w1.buf.length false).num 2=_:=ve S s5
 rw[ve]
 dsimp only
 rw[if_neg (by simp)]
 have x1:IntKind.u16.wrap (ty:Int)=r.ty:=by rw[IntKind.wrap_u16,hty];omega
 have x2:IntKind.i64.wrap (d.length:Int)=(d.length:Int):=ql _ (by omega)
 have x3:IntKind.u16.wrap (cl:Int)=r.cl:=by rw[IntKind.wrap_u16,hcl];omega
 have x4:IntKind.u32.wrap (tt:Int)=r.ttl:=by rw[IntKind.wrap_u32,htt];omega
 rw[x1,x2,x3,x4,vf1,vf2]
 dsimp only
 rw[if_neg (by simp),if_neg (by rintro ⟨h1,h2⟩;rcases c3 with h|h <;> omega)]
theorem asks_op(l:List Q):WOp (fun w=>w.asks l):=by
 induction l with
 |nil=>exact WOp.id
 |cons q l ih=>exact(((u6 q.nm true).comp (jj 2 q.ty)).comp (jj 2 q.cl)).comp ih
theorem record_full{w:Wr}{r:RR}(h:(w.record r).1.full=false):w.full=false:=by
 unfold Wr.record at h
 split at h
 ·have hsetf:∀ (a:Wr) (i n:Int),(a.set i n).full=a.full:=fun a i n=>by unfold Wr.set;split <;> rfl
  exact((((((u6 r.nm true).comp (jj 2 r.ty)).comp (jj 2 r.cl)).comp (jj 4 r.ttl)).comp (jj 2 0)).comp (uw r.ty r.d)).full w ((hsetf _ _ _).symm.trans h)
 ·exact h
theorem qh7:∀ (l:List RR) (w:Wr),(w.recs l).full=false->w.full=false
 |[],_,h=>h
 |r :: l,w,h=>record_full (qh7 l (w.record r).1 h)
theorem qn5:∀ (l:List RR) (w:Wr),(w.recs l).limit=w.limit
 |[],_=>rfl
 |r :: l,w=>(qn5 l (w.record r).1).trans (jb6 w r)
theorem qo4:∀ (l:List RR) {w:Wr},w.Ok->(w.recs l).Ok
 |[],_,h=>h
 |r :: l,_,h=>qo4 l (h.record r)
theorem asks_Ok:∀ (l:List Q) {w:Wr},w.Ok->(w.asks l).Ok
 |[],_,h=>h
 |q :: l,_,h=>asks_Ok l (((h.name q.nm true).num 2 q.ty).num 2 q.cl)
theorem asks_back:∀ (l:List Q) (w:Wr),(∀ q ∈ l,qq q.nm/\q.Ok)->RO w->(w.asks l).full=false ->
 RO (w.asks l)/\w.buf <+: (w.asks l).buf/\∀ S acc,(w.asks l).buf <+: S->Rdr.qs l.length ⟨S,w.buf.length,false⟩ acc=(⟨S,(w.asks l).buf.length,false⟩,acc++l,true)
 |[],w,_,hro,_=>⟨hro,List.prefix_refl _,fun S acc _=>by show(_,acc,true)=(_,acc++[],true);rw[List.append_nil];rfl⟩
 |q :: l,w,hl,hro,hf=>by
  obtain⟨hn,ho⟩:=hl q (List.mem_cons_self ..)
  obtain⟨ty,hty⟩:∃ n:Nat,q.ty=n:=⟨q.ty.toNat,by have:=ho.ty;omega⟩
  obtain⟨cl,hcl⟩:∃ n:Nat,q.cl=n:=⟨q.cl.toNat,by have:=ho.cl;omega⟩
  have hty':ty<65536:=by have:=ho.ty;omega
  have hcl':cl<65536:=by have:=ho.cl;omega
  have e:w.asks (q :: l)=(((w.name q.nm true).num 2 q.ty).num 2 q.cl).asks l:=rfl
  rw [e] at hf ⊢
  have fc:=(asks_op l).full _ hf
  have fb:=(jj 2 q.cl).full _ fc
  have fa:=(jj 2 q.ty).full _ fb
  have f0:=(u6 q.nm true).full _ fa
  have fa:(w.name q.nm true).full=false:=fa
  have fb:((w.name q.nm true).num 2 q.ty).full=false:=fb
  have fc:(((w.name q.nm true).num 2 q.ty).num 2 q.cl).full=false:=fc
  obtain⟨ra,pa,va⟩:=qs7 f0 hro hn true fa
  generalize w.name q.nm true=wa at ra pa va fa fb fc hf ⊢
  rw [hty] at fb fc hf ⊢
  obtain⟨_,rb,pb,vb⟩:=x9 ra 2 ty (.inl ⟨rfl,hty'⟩) fb
  generalize wa.num 2 (ty:Int)=wb at rb pb vb fb fc hf ⊢
  rw [hcl] at fc hf ⊢
  obtain⟨_,rc,pc,vc⟩:=x9 rb 2 cl (.inl ⟨rfl,hcl'⟩) fc
  generalize wb.num 2 (cl:Int)=wc at rc pc vc fc hf ⊢
  obtain⟨rd,pd,vd⟩:=asks_back l wc (fun x hx=>hl x (List.mem_cons_of_mem _ hx)) rc hf
  refine⟨rd,((pa.trans pb).trans pc).trans pd,fun S acc hS=>?_⟩
  have s3:=pd.trans hS
  have s2:=pc.trans s3
  have s1:=pb.trans s2
  show(if (((Rdr.mk S w.buf.length false).name.1.num 2).1.num 2).1.bad then _ else _)=_
  have va:(Rdr.mk S w.buf.length false).name=(⟨S,wa.buf.length,false⟩,q.nm):=va S s1
  have vb:(Rdr.mk S wa.buf.length false).num 2=(⟨S,wb.buf.length,false⟩,ty):=vb S s2
  have vc:(Rdr.mk S wb.buf.length false).num 2=(⟨S,wc.buf.length,false⟩,cl):=vc S s3
  rw[va]
  dsimp only
  rw[vb]
  dsimp only
  rw[vc]
  dsimp only
  rw[if_neg (by simp)]
  have x1:IntKind.u16.wrap (ty:Int)=q.ty:=by rw[IntKind.wrap_u16,hty];omega
  have x3:IntKind.u16.wrap (cl:Int)=q.cl:=by rw[IntKind.wrap_u16,hcl];omega
  rw[x1,x3,vd S (acc++[q]) hS]
  simp
theorem qm1:∀ (l:List RR) (w:Wr),(∀ r ∈ l,r.check=true/\r.Ok)->w.Ok->w.limit<=65535->RO w->(w.recs l).full=false ->
 RO (w.recs l)/\w.buf <+: (w.recs l).buf/\∀ S acc,(w.recs l).buf <+: S->Rdr.rs l.length ⟨S,w.buf.length,false⟩ acc=(⟨S,(w.recs l).buf.length,false⟩,acc++l,0)
 |[],w,_,_,_,hro,_=>⟨hro,List.prefix_refl _,fun S acc _=>by show(_,acc,(0:Int))=(_,acc++[],(0:Int));rw[List.append_nil];rfl⟩
 |r :: l,w,hl,hok,hlim,hro,hf=>by
  obtain⟨hc,ho⟩:=hl r (List.mem_cons_self ..)
  have e:w.recs (r :: l)=(w.record r).1.recs l:=rfl
  rw [e] at hf ⊢
  have fa:=qh7 l _ hf
  obtain⟨_,ra,pa,va⟩:=record_back hok (Int.le_trans hlim (by decide)) hro hc ho fa
  obtain⟨rd,pd,vd⟩:=qm1 l (w.record r).1 (fun x hx=>hl x (List.mem_cons_of_mem _ hx)) (hok.record r) (by rw[jb6];exact hlim) ra hf
  refine⟨rd,pa.trans pd,fun S acc hS=>?_⟩
  show(if (Rdr.mk S w.buf.length false).recd.2.2≠0 then _ else Rdr.rs l.length (Rdr.mk S w.buf.length false).recd.1 (acc++[(Rdr.mk S w.buf.length false).recd.2.1]))=_
  rw[va S (pd.trans hS)]
  dsimp only
  rw[if_neg (by simp),vd S (acc++[r]) hS]
  simp
def Msg.again(m:Msg):Msg:=Msg.of m.id m.bits m.asks m.says m.heads m.extra
theorem lm_le(limit:Int):lm limit<=65535/\lm limit<=limit:=by unfold lm;split <;> omega
theorem msg_back{m:Msg}(hm:m.Ok){limit:Int}(hlo : -9223372036854775808<=limit)(hc:m.check=true)(hf:(m.last limit).full=false) :
 Msg.read (m.last limit).buf=(m.again,0)/\((m.last limit).buf.length:Int)<=limit:=by
 have hcs:=hc
 simp only [Msg.check,Bool.and_eq_true,decide_eq_true_eq] at hcs
 obtain⟨⟨⟨⟨⟨⟨⟨l1,l2⟩,l3⟩,l4⟩,k1⟩,k2⟩,k3⟩,k4⟩:=hcs
 have hl:=lm_le limit
 have hw0:(Wr.mk [] (lm limit) false []).Ok:=⟨by show _<=lm limit;unfold lm;split <;> omega,by show lm limit<=_;omega,.inl rfl,fun e he=>by cases he⟩
 have hro0:RO (Wr.mk [] (lm limit) false []):=fun x hx=>by cases hx
 have hlim0:(Wr.mk [] (lm limit) false []).limit=lm limit:=rfl
 have hlen0:(Wr.mk [] (lm limit) false []).buf.length=0:=rfl
 unfold Msg.last at hf ⊢
 generalize Wr.mk [] (lm limit) false []=w0 at hw0 hro0 hlim0 hlen0 hf ⊢
 obtain⟨id,hid⟩:∃ n:Nat,m.id=n:=⟨m.id.toNat,by have:=hm.id;omega⟩
 obtain⟨bs,hbs⟩:∃ n:Nat,m.bits=n:=⟨m.bits.toNat,by have:=hm.bits;omega⟩
 have hid':id<65536:=by have:=hm.id;omega
 have hbs':bs<65536:=by have:=hm.bits;omega
 have f9:=qh7 _ _ hf
 have f8:=qh7 _ _ f9
 have f7:=qh7 _ _ f8
 have f6:(w0.head m).full=false:=(asks_op m.asks).full _ f7
 unfold Wr.head at f6 f7 f8 f9 hf ⊢
 rw [hid,hbs] at f6 f7 f8 f9 hf ⊢
 have f5:=(jj 2 (m.extra.length:Int)).full _ f6
 have f4:=(jj 2 (m.heads.length:Int)).full _ f5
 have f3:=(jj 2 (m.says.length:Int)).full _ f4
 have f2:=(jj 2 (m.asks.length:Int)).full _ f3
 have f1:=(jj 2 (bs:Int)).full _ f2
 obtain⟨_,r1,p1,v1⟩:=x9 hro0 2 id (.inl ⟨rfl,hid'⟩) f1
 have o1:=hw0.num 2 (id:Int)
 have m1:=(jj 2 (id:Int)).lim w0
 have n1:(w0.num 2 (id:Int)).limit=w0.limit:=m1
 generalize w0.num 2 (id:Int)=w1 at *
 obtain⟨_,r2,p2,v2⟩:=x9 r1 2 bs (.inl ⟨rfl,hbs'⟩) f2
 have o2:=o1.num 2 (bs:Int)
 have n2:(w1.num 2 (bs:Int)).limit=w1.limit:=(jj 2 (bs:Int)).lim w1
 generalize w1.num 2 (bs:Int)=w2 at *
 obtain⟨_,r3,p3,v3⟩:=x9 r2 2 m.asks.length (.inl ⟨rfl,by omega⟩) f3
 have o3:=o2.num 2 (m.asks.length:Int)
 have n3:(w2.num 2 (m.asks.length:Int)).limit=w2.limit:=(jj 2 (m.asks.length:Int)).lim w2
 generalize w2.num 2 (m.asks.length:Int)=w3 at *
 obtain⟨_,r4,p4,v4⟩:=x9 r3 2 m.says.length (.inl ⟨rfl,by omega⟩) f4
 have o4:=o3.num 2 (m.says.length:Int)
 have n4:(w3.num 2 (m.says.length:Int)).limit=w3.limit:=(jj 2 (m.says.length:Int)).lim w3
 generalize w3.num 2 (m.says.length:Int)=w4 at *
 obtain⟨_,r5,p5,v5⟩:=x9 r4 2 m.heads.length (.inl ⟨rfl,by omega⟩) f5
 have o5:=o4.num 2 (m.heads.length:Int)
 have n5:(w4.num 2 (m.heads.length:Int)).limit=w4.limit:=(jj 2 (m.heads.length:Int)).lim w4
 generalize w4.num 2 (m.heads.length:Int)=w5 at *
 obtain⟨_,r6,p6,v6⟩:=x9 r5 2 m.extra.length (.inl ⟨rfl,by omega⟩) f6
 have o6:=o5.num 2 (m.extra.length:Int)
 have n6:(w5.num 2 (m.extra.length:Int)).limit=w5.limit:=(jj 2 (m.extra.length:Int)).lim w5
 have b6:(w5.num 2 (m.extra.length:Int)).buf=w5.buf++be 2 (m.extra.length:Int):=(qc7 f6).2.1
 generalize w5.num 2 (m.extra.length:Int)=w6 at *
 obtain⟨r7,p7,v7⟩:=asks_back m.asks w6 (fun q hq=>⟨of_decide_eq_true (List.all_eq_true.mp k1 q hq),hm.asks q hq⟩) r6 f7
 have o7:=asks_Ok m.asks o6
 have n7:(w6.asks m.asks).limit=w6.limit:=(asks_op m.asks).lim w6
 generalize w6.asks m.asks=w7 at *
 have hl7:w7.limit=lm limit:=by rw[n7,n6,n5,n4,n3,n2,n1,hlim0]
 obtain⟨r8,p8,v8⟩:=qm1 m.says w7 (fun r hr=>⟨List.all_eq_true.mp k2 r hr,hm.says r hr⟩) o7 (by omega) r7 f8
 have o8:=qo4 m.says o7
 have n8:=qn5 m.says w7
 generalize w7.recs m.says=w8 at *
 obtain⟨r9,p9,v9⟩:=qm1 m.heads w8 (fun r hr=>⟨List.all_eq_true.mp k3 r hr,hm.heads r hr⟩) o8 (by omega) r8 f9
 have o9:=qo4 m.heads o8
 have n9:=qn5 m.heads w8
 generalize w8.recs m.heads=w9 at *
 obtain⟨_,p10,v10⟩:=qm1 m.extra w9 (fun r hr=>⟨List.all_eq_true.mp k4 r hr,hm.extra r hr⟩) o9 (by omega) r9 hf
 have o10:=qo4 m.extra o9
 have n10:=qn5 m.extra w9
 generalize w9.recs m.extra=w10 at *
 have q9:=p10
 have q8:=p9.trans q9
 have q7:=p8.trans q8
 have q6:=p7.trans q7
 have q5:=p6.trans q6
 have q4:=p5.trans q5
 have q3:=p4.trans q4
 have q2:=p3.trans q3
 have q1:=p2.trans q2
 have g1:=v1 _ q1
 have g2:=v2 _ q2
 have g3:=v3 _ q3
 have g4:=v4 _ q4
 have g5:=v5 _ q5
 have g6:=v6 _ q6
 dsimp only at g1 g2 g3 g4 g5 g6
 rw [hlen0] at g1
 have g7:=v7 _ [] q7
 have g8:=v8 _ [] q8
 have g9:=v9 _ [] q9
 have g10:=v10 _ [] (List.prefix_refl _)
 rw [List.nil_append] at g7 g8 g9 g10
 -- twelve bytes at least
 have pos:∀ {S:List UInt8} {a b k:Nat},(Rdr.mk S a false).num 2=(⟨S,b,false⟩,k)->b=a+2/\b<=S.length:=by
  intro S a b k h
  have h1:((Rdr.mk S a false).raw ((2:Nat):Int)).1=⟨S,b,false⟩:=congrArg Prod.fst h
  unfold Rdr.raw at h1
  rw [if_neg (by simp)] at h1
  split at h1
  ·have:=congrArg Rdr.bad h1
   cases this
  ·rename_i hc
   have h2:a+(((2:Nat):Int)).toNat=b:=congrArg Rdr.p h1
   rw [Int.toNat_natCast] at h2
   have hc:¬ (((2:Nat):Int)<0\/((2:Nat):Int) > (S.length:Int) - a):=hc
   omega
 have t1:=pos g1
 have t2:=pos g2
 have t3:=pos g3
 have t4:=pos g4
 have t5:=pos g5
 have t6:=pos g6
 have h12:12<=w10.buf.length:=by omega
 constructor
 ·unfold Msg.read
  rw[if_neg (by omega)]
  rw[g1]
  dsimp only
  rw[g2]
  dsimp only
  rw[g3]
  dsimp only
  rw[g4]
  dsimp only
  rw[g5]
  dsimp only
  rw[g6]
  dsimp only
  unfold Rdr.rest
  rw[if_neg (by omega),g7]
  dsimp only
  rw[if_neg (by simp)]
  unfold Rdr.sec
  rw[g8]
  dsimp only
  rw[if_neg (by simp),g9]
  dsimp only
  rw[if_neg (by simp),g10]
  dsimp only
  rw[if_neg (by simp)]
  unfold Rdr.fin
  rw[if_neg (by simp)]
  have x1:IntKind.u16.wrap (id:Int)=m.id:=by rw[IntKind.wrap_u16,hid];omega
  have x2:IntKind.u16.wrap (bs:Int)=m.bits:=by rw[IntKind.wrap_u16,hbs];omega
  rw[x1,x2]
  rfl
 ·have:=o10.len
  rw [n10,n9,n8,hl7] at this
  omega
structure Msg.Fld(m:Msg):Prop where
 id:0<=m.id/\m.id<=65535
 bits:0<=m.bits/\m.bits<=65535
 asks:∀ q ∈ m.asks,q.Ok
 says:∀ r ∈ m.says,r.Ok
 heads:∀ r ∈ m.heads,r.Ok
 extra:∀ r ∈ m.extra,r.Ok
 za:m.za=true->m.asks=[]
theorem Msg.Fld.ok{m:Msg}(h:m.Fld)(hs:m.asks.length<=1000000):m.Ok:=⟨h.id,h.bits,h.asks,h.says,h.heads,h.extra,by omega⟩
def Msg.reply(m:Msg)(code:Int):Msg:=⟨m.id,Go.bits BinOp.or IntKind.u16 (Go.bits BinOp.and IntKind.u16 m.bits 30976) (Go.bits BinOp.or IntKind.u16 32768 (IntKind.u16.wrap (Go.bits BinOp.and IntKind.i64 code 15))),m.za,m.asks,true,[],true,[],true,[]⟩
set_option maxRecDepth 100000 in
theorem reply_ok(m:Msg)(code:Int)(h:m.za=true->m.asks=[])(ha:m.asks.length<=1000000):FnOk Tryz.prog 131 [.agg m.cells,.d (.int .i64 code)] (.agg (m.reply code).cells):=by
 refine qi (TT:=TT) (IN:=qa []) qd qc mixed 1000 Tryz.func131 rfl (qb Tryz.func131 (by kernel_rfl) rfl) rfl 20 (by kernel_rfl) ?_
 conv=>whnf
 refine .data _ (qs5 m.za m.asks h ha) rfl rfl ?_
 conv=>whnf
 repeat'(first|exact ⟨⟩|exact rfl|exact .inr rfl|exact .inl rfl|exact fun _ _=>rfl|exact noI|apply And.intro)
theorem raw_bad{r:Rdr}{n:Int}(h:(r.raw n).1.bad=false):r.bad=false:=by
 unfold Rdr.raw at h
 split at h
 ·rename_i hb;rw [hb] at h;cases h
 ·rename_i hb
  cases hr:r.bad
  ·rfl
  ·exact absurd hr hb
theorem qf4{r:Rdr}{n:Nat}(h:(r.num n).1.bad=false):r.bad=false:=raw_bad h
theorem jc5{r:Rdr}(h:r.name.1.bad=false):qq r.name.2:=by
 unfold Rdr.name at h ⊢
 split at h
 ·rename_i hb;rw [hb] at h;cases h
 ·rename_i hb
  split at h
  ·rename_i hn
   rw[if_neg hb,if_pos hn]
   exact hn
  ·cases h
theorem qf8(n:Int):0<=IntKind.u16.wrap n/\IntKind.u16.wrap n<=65535:=by rw[IntKind.wrap_u16];omega
theorem u32_in(n:Int):0<=IntKind.u32.wrap n/\IntKind.u32.wrap n<=4294967295:=by rw[IntKind.wrap_u32];omega
theorem qs_right:∀ (n:Nat) (r:Rdr) (l:List Q),(∀ q ∈ l,qq q.nm/\q.Ok)->(r.qs n l).2.2=true->(∀ q ∈ (r.qs n l).2.1,qq q.nm/\q.Ok)/\(r.qs n l).2.1.length=l.length+n
 |0,r,l,hl,_=>⟨hl,rfl⟩
 |n+1,r,l,hl,h=>by
  unfold Rdr.qs at h ⊢
  split at h
  ·cases h
  ·rename_i hb
   rw[if_neg hb]
   have hb:((r.name.1.num 2).1.num 2).1.bad=false:=by simpa using hb
   have hn:=jc5 (qf4 (qf4 hb))
   obtain⟨h1,h2⟩:=qs_right n _ (l++[⟨r.name.2,IntKind.u16.wrap (r.name.1.num 2).2,IntKind.u16.wrap ((r.name.1.num 2).1.num 2).2⟩]) (fun q hq=>by
    rcases List.mem_append.1 hq with hq|hq
    ·exact hl q hq
    ·rw[List.mem_singleton.1 hq]
     exact⟨hn,⟨qf8 _,qf8 _⟩⟩) h
   refine⟨h1,?_⟩
   rw[h2,List.length_append]
   show l.length+1+n=l.length+(n+1)
   omega
theorem rdata_right{r:Rdr}{t w:Int}(h:(r.rdata t w).2=0):jx t (r.rdata t w).1=true:=by
 unfold Rdr.rdata at h ⊢
 split at h
 ·cases h
 ·rename_i hb
  rw[if_neg hb]
  dsimp only at h ⊢
  split at h
  ·cases h
  ·rename_i hc
   rw[if_neg hc]
   simp only [Bool.or_eq_true,Bool.not_eq_true',decide_eq_true_eq,not_or] at hc
   simpa using hc.2
theorem recd_right{r:Rdr}(h:r.recd.2.2=0):r.recd.2.1.check=true/\r.recd.2.1.Ok:=by
 unfold Rdr.recd at h ⊢
 dsimp only at h ⊢
 split at h
 ·cases h
 ·rename_i hb
  rw[if_neg hb]
  split at h
  ·rename_i hx
   exact absurd h hx
  ·rename_i hx
   rw[if_neg hx]
   have hb:(((((r.name).1.num 2).1.num 2).1.num 4).1.num 2).1.bad=false:=by simpa using hb
   have hn:=jc5 (qf4 (qf4 (qf4 (qf4 hb))))
   have hx:¬ ((((((r.name).1.num 2).1.num 2).1.num 4).1.num 2).1.rdata (IntKind.u16.wrap (r.name.1.num 2).2) (IntKind.i64.wrap ((((r.name.1.num 2).1.num 2).1.num 4).1.num 2).2)).2≠0:=hx
   have hd:=rdata_right (Decidable.not_not.1 hx)
   constructor
   ·unfold RR.check
    simp only[Bool.and_eq_true,Bool.or_eq_true,decide_eq_true_eq,beq_iff_eq]
    refine⟨⟨hn,hd⟩,?_⟩
    split
    ·exact .inl (by decide)
    ·rename_i hc
     by_cases h1:IntKind.u32.wrap ((((r.name.1.num 2).1.num 2).1.num 4).2:Int) > 2147483647
     ·exact .inr (Decidable.byContradiction fun h2=>hc ⟨h1,h2⟩)
     ·exact .inl (by omega)
   ·refine⟨qf8 _,qf8 _,?_⟩
    dsimp only
    split
    ·omega
    ·exact u32_in _
theorem rs_right:∀ (n:Nat) (r:Rdr) (l:List RR),(∀ q ∈ l,q.check=true/\q.Ok)->(r.rs n l).2.2=0->(∀ q ∈ (r.rs n l).2.1,q.check=true/\q.Ok)/\(r.rs n l).2.1.length=l.length+n
 |0,r,l,hl,_=>⟨hl,rfl⟩
 |n+1,r,l,hl,h=>by
  unfold Rdr.rs at h ⊢
  split at h
  ·rename_i hb;exact absurd h hb
  ·rename_i hb
   rw[if_neg hb]
   have hg:=recd_right (Decidable.not_not.1 hb)
   obtain⟨h1,h2⟩:=rs_right n _ (l++[r.recd.2.1]) (fun q hq=>by
    rcases List.mem_append.1 hq with hq|hq
    ·exact hl q hq
    ·rw[List.mem_singleton.1 hq]
     exact hg) h
   refine⟨h1,?_⟩
   rw[h2,List.length_append]
   show l.length+1+n=l.length+(n+1)
   omega
theorem qd5{r:Rdr}{n:Nat}{k:Rdr->List RR->Msg × Int}(P:Msg × Int->Prop)(hno:∀ e,e≠0->P (Msg.no,e))(hk:∀ r1 x,(∀ q ∈ x,q.check=true/\q.Ok)->x.length=n->P (k r1 x)):P (r.sec n k):=by
 unfold Rdr.sec
 split
 ·rename_i h;exact hno _ h
 ·rename_i h
  obtain⟨h1,h2⟩:=rs_right n r [] (fun q hq=>by cases hq) (Decidable.not_not.1 h)
  exact hk _ _ h1 (by simpa using h2)
structure Right(m:Msg):Prop where
 check:m.check=true
 fld:m.Fld
theorem qr2(s:List UInt8):((Msg.read s).2≠0/\(Msg.read s).1=Msg.no)\/((Msg.read s).2=0/\Right (Msg.read s).1):=by
 have hno:∀ e:Int,e≠0->((Msg.no,e).2≠0/\(Msg.no,e).1=Msg.no)\/((Msg.no,e).2=0/\Right (Msg.no,e).1):=fun e h=>.inl ⟨h,rfl⟩
 unfold Msg.read
 split
 ·exact hno 5 (by decide)
 dsimp only
 unfold Rdr.rest
 split
 ·exact hno 7 (by decide)
 rename_i hc
 split
 ·exact hno 5 (by decide)
 rename_i hq
 obtain⟨q1,q2⟩:=qs_right _ _ [] (fun q hq=>by cases hq) (by simpa using hq)
 refine qd5 (fun p=>(p.2≠0/\p.1=Msg.no)\/(p.2=0/\Right p.1)) hno fun r1 x hx lx=>?_
 refine qd5 (fun p=>(p.2≠0/\p.1=Msg.no)\/(p.2=0/\Right p.1)) hno fun r2 y hy ly=>?_
 refine qd5 (fun p=>(p.2≠0/\p.1=Msg.no)\/(p.2=0/\Right p.1)) hno fun r3 z hz lz=>?_
 unfold Rdr.fin
 split
 ·exact hno 6 (by decide)
 refine .inr ⟨rfl,?_,⟨qf8 _,qf8 _,fun q hq=>(q1 q hq).2,fun r hr=>(hx r hr).2,fun r hr=>(hy r hr).2,fun r hr=>(hz r hr).2,fun h=>?_⟩⟩
 ·unfold Msg.check Msg.of
  simp only[Bool.and_eq_true,decide_eq_true_eq,List.all_eq_true]
  rw[q2]
  simp only[List.length_nil]
  exact⟨⟨⟨⟨⟨⟨⟨by omega,by omega⟩,by omega⟩,by omega⟩,fun q hq=>(q1 q hq).1⟩,fun r hr=>(hx r hr).1⟩,fun r hr=>(hy r hr).1⟩,fun r hr=>(hz r hr).1⟩
 ·exact List.length_eq_zero_iff.1 (Nat.eq_of_beq_eq_true h)
structure Rq where
 m:Msg
 e:Ed
 client:List UInt8
 server:List UInt8
 code:Int
def Rq.cells(r:Rq):List SV:=[.d (.int .u16 r.m.id),.d (.int .u16 r.m.bits),.d (qsD r.m.za r.m.asks),.d (rrsD r.m.zs r.m.says),.d (rrsD r.m.zh r.m.heads),.d (rrsD r.m.ze r.m.extra),
 .d (.bool r.e.there),.d (.int .u16 r.e.size),.d (.int .u8 r.e.high),.d (.int .u8 r.e.ver),.d (.int .u16 r.e.flags),.d (optsD r.e.zo r.e.opts),.d (.str r.client),.d (.str r.server),.d (.int .i64 r.code)]
def vl(m:Msg):Rq :=
 if m.get.2≠0 then ⟨m,Ed.no,[],[],1⟩ else
 if (yt m.get.1.opts).2.2=0 then ⟨m,m.get.1,(yt m.get.1.opts).1,(yt m.get.1.opts).2.1,ye m m.get.1.ver (yt m.get.1.opts).2.2⟩
 else ⟨m,m.get.1,[],[],ye m m.get.1.ver (yt m.get.1.opts).2.2⟩
def look(s:List UInt8):Rq :=
 if (zv s).2.2≠0\/Go.bits BinOp.and IntKind.u16 (zv s).2.1 32768≠0 then ⟨Msg.no,Ed.no,[],[],-2⟩ else
 if (Msg.read s).2≠0 then ⟨⟨(zv s).1,(zv s).2.1,true,[],true,[],true,[],true,[]⟩,Ed.no,[],[],1⟩ else vl (Msg.read s).1
theorem opts_fit:∀ (n:Nat) (r:Rdr) (l l':List Opt),Rdr.opts n r l=some l'->(∀ o ∈ l,o.data.length<=r.s.length)->l'.length<=l.length+n/\∀ o ∈ l',o.data.length<=r.s.length
 |0,r,l,l',h,hl=>by
  cases h
  exact⟨by omega,hl⟩
 |n+1,r,l,l',h,hl=>by
  unfold Rdr.opts at h
  cases hh:r.has
  ·rw [hh,cond_false] at h
   cases h
   exact⟨by omega,hl⟩
  ·rw [hh,cond_true] at h
   cases hb:r.opt.1.bad
   ·rw [hb,cond_false] at h
    obtain⟨h1,h2⟩:=opts_fit n r.opt.1 (l++[r.opt.2]) l' h (fun o ho=>by
     rw[Rdr.opt_s]
     rcases List.mem_append.1 ho with ho|ho
     ·exact hl o ho
     ·rw[List.mem_singleton.1 ho]
      have hs:∀ (r:Rdr) (n:Int),(r.raw n).2.length<=r.s.length:=fun r n=>by
       unfold Rdr.raw
       split
       ·exact Nat.zero_le _
       ·split
        ·exact Nat.zero_le _
        ·show((r.s.drop r.p).take n.toNat).length<=_
         simp
         omega
      have:=hs (((r.num 2).1.num 2).1) (IntKind.i64.wrap ((r.num 2).1.num 2).2)
      rw [Rdr.num_s,Rdr.num_s] at this
      exact this)
    rw [Rdr.opt_s] at h2
    refine⟨?_,h2⟩
    rw [List.length_append] at h1
    simp only [List.length_cons,List.length_nil] at h1
    omega
   ·rw [hb,cond_true] at h
    cases h
theorem get_fit(m:Msg)(hd:∀ r ∈ m.extra,r.d.length<1099511627776):m.get.1.opts.length<1099511627776/\∀ o ∈ m.get.1.opts,o.data.length<1099511627776:=by
 have no:Ed.no.opts.length<1099511627776/\∀ o ∈ Ed.no.opts,o.data.length<1099511627776:=⟨by decide,fun o ho=>by cases ho⟩
 have hlt:=qp0 (fun r:RR=>r.ty == 41) m.extra
 unfold Msg.get
 split
 ·exact no
 split
 ·exact no
 rename_i hi
 split
 ·exact no
 unfold k8
 split
 ·exact no
 split
 ·rename_i l hl
  have hi:¬ idxI (fun r:RR=>r.ty == 41) m.extra<0:=hi
  have hm:m.extra.getD (optI m.extra).toNat default ∈ m.extra:=by
   have:m.extra[(optI m.extra).toNat]? = some (m.extra.getD (optI m.extra).toNat default):=by
    rw[List.getD,List.getElem?_eq_getElem (by unfold optI;omega)];rfl
   exact List.mem_of_getElem? this
  have hq:=hd _ hm
  obtain⟨h1,h2⟩:=opts_fit _ _ [] l hl (fun o ho=>by cases ho)
  refine⟨?_,fun o ho=>Nat.lt_of_le_of_lt (h2 o ho) hq⟩
  show l.length<_
  simp only [List.length_nil] at h1
  omega
 ·exact no
theorem qu0(r:Rq)(h:r.m.za=true->r.m.asks=[])(ha:r.m.asks.length<=1000000):FnOk Tryz.prog 37 [.agg r.cells] (.agg (Msg.mk r.m.id r.m.bits r.m.za r.m.asks true [] true [] true []).cells):=by
 refine qi (TT:=TT) (IN:=qa []) qd qc mixed 1000 Tryz.func37 rfl (qb Tryz.func37 (by kernel_rfl) rfl) rfl 13 (by kernel_rfl) ?_
 conv=>whnf
 refine .data _ (qs5 r.m.za r.m.asks h ha) rfl rfl ?_
 conv=>whnf
 repeat'(first|exact ⟨⟩|exact rfl|exact .inr rfl|exact .inl rfl|exact fun _ _=>rfl|exact noI|apply And.intro)
theorem qn2(s:List UInt8)(hs:s.length<1099511627776):FnOk Tryz.prog 21 [.d (.str s)] (.agg (look s).cells):=by
 refine qi (TT:=TT) (IN:=qa []) qd qc mixed 1000 Tryz.func21 rfl (qb Tryz.func21 (by kernel_rfl) rfl) rfl 67 (by kernel_rfl) ?_
 have hsp:look s=look s:=rfl
 conv at hsp=>rhs;unfold look
 have hh:=mhead_ok s (by omega)
 generalize zv s=p at hsp hh
 conv=>whnf
 refine oD hh rfl rfl ?_
 conv=>whnf
 refine⟨fun h1=>?_,fun h1=>?_⟩
 ·have h1:p.2.2≠0:=by simpa using h1
  rw [if_pos (.inl h1)] at hsp
  rw[hsp]
  conv=>whnf
  repeat(first|(refine brT rfl ?_;conv=>whnf)|(refine brF rfl ?_;conv=>whnf))
  repeat'(first|exact ⟨⟩|exact rfl|exact .inr rfl|exact .inl rfl|exact fun _ _=>rfl|exact noI|apply And.intro)
 have h1:¬ p.2.2≠0:=by simpa using h1
 conv=>whnf
 refine⟨fun h2=>?_,fun h2=>?_⟩
 ·have h2:Go.bits BinOp.and IntKind.u16 p.2.1 32768≠0:=by simpa using h2
  rw [if_pos (.inr h2)] at hsp
  rw[hsp]
  conv=>whnf
  repeat(first|(refine brT rfl ?_;conv=>whnf)|(refine brF rfl ?_;conv=>whnf))
  repeat'(first|exact ⟨⟩|exact rfl|exact .inr rfl|exact .inl rfl|exact fun _ _=>rfl|exact noI|apply And.intro)
 have h2:¬ Go.bits BinOp.and IntKind.u16 p.2.1 32768≠0:=by simpa using h2
 rw [if_neg (by rintro (h|h) <;> contradiction)] at hsp
 conv=>whnf
 have hr:=qu7 s hs
 refine oD hr rfl rfl ?_
 conv=>whnf
 refine⟨fun h3=>?_,fun h3=>?_⟩
 ·have h3:(Msg.read s).2≠0:=by simpa using h3
  rw [if_pos h3] at hsp
  rw[hsp]
  conv=>whnf
  repeat(first|(refine brT rfl ?_;conv=>whnf)|(refine brF rfl ?_;conv=>whnf))
  repeat'(first|exact ⟨⟩|exact rfl|exact .inr rfl|exact .inl rfl|exact fun _ _=>rfl|exact noI|apply And.intro)
 have h3:¬ (Msg.read s).2≠0:=by simpa using h3
 rw [if_neg h3] at hsp
 rcases qr2 s with⟨e1,_⟩|⟨_,hm⟩
 ·exact absurd e1 h3
 clear hr
 generalize (Msg.read s).1=m at hsp hm ⊢
 have hc:=hm.check
 simp only [Msg.check,Bool.and_eq_true,decide_eq_true_eq,List.all_eq_true] at hc
 obtain⟨⟨⟨⟨⟨⟨⟨l1,l2⟩,l3⟩,l4⟩,_⟩,_⟩,_⟩,hx⟩:=hc
 have hd:∀ r ∈ m.extra,r.d.length<1099511627776:=fun r hr=>by
  have:=hx r hr
  simp only [RR.check,jx,Bool.and_eq_true,decide_eq_true_eq] at this
  omega
 obtain⟨g1,g2⟩:=get_fit m hd
 unfold vl at hsp
 conv=>whnf
 refine oD (get_ok m (by omega) (by omega) (by omega) hd) rfl rfl ?_
 conv=>whnf
 refine⟨fun h4=>?_,fun h4=>?_⟩
 ·have h4:m.get.2≠0:=by simpa using h4
  rw [if_pos h4] at hsp
  rw[hsp]
  conv=>whnf
  repeat'(first|exact ⟨⟩|exact rfl|exact .inr rfl|exact .inl rfl|exact fun _ _=>rfl|exact noI|apply And.intro)
 have h4:¬ m.get.2≠0:=by simpa using h4
 rw [if_neg h4] at hsp
 conv=>whnf
 refine oD (qr7 m.get.1 (by omega) (fun o ho=>by have:=g2 o ho;omega)) rfl rfl ?_
 have hcd:=vcode_ok m m.get.1 (yt m.get.1.opts).2.2
 generalize m.get.1=e at hsp hcd ⊢
 generalize yt e.opts=c at hsp hcd ⊢
 conv=>whnf
 refine⟨fun h5=>?_,fun h5=>?_⟩
 ·have h5:c.2.2=0:=by simpa using h5
  rw [if_pos h5] at hsp
  rw[hsp]
  conv=>whnf
  refine oD hcd rfl rfl ?_
  conv=>whnf
  repeat'(first|exact ⟨⟩|exact rfl|exact .inr rfl|exact .inl rfl|exact fun _ _=>rfl|exact noI|apply And.intro)
 ·have h5:¬ c.2.2=0:=by simpa using h5
  rw [if_neg h5] at hsp
  rw[hsp]
  conv=>whnf
  refine oD hcd rfl rfl ?_
  conv=>whnf
  repeat'(first|exact ⟨⟩|exact rfl|exact .inr rfl|exact .inl rfl|exact fun _ _=>rfl|exact noI|apply And.intro)
theorem uv{w:Wr}{s:List UInt8}(hf:w.full=false)(h:(s.length:Int)<=w.limit - w.buf.length):w.piece s = { w with buf:=w.buf++s }:=by
 have:w.fits s=true:=by
  unfold Wr.fits
  rw[hf]
  simp[h]
 unfold Wr.piece
 rw[if_pos this]
def Room(w v:Wr)(n:Nat):Prop:=v.full=false/\v.limit=w.limit/\v.buf.length<=w.buf.length+n
theorem qa9{w:Wr}{s:List UInt8}(hf:w.full=false)(h:(s.length:Int)<=w.limit - w.buf.length):Room w (w.piece s) s.length:=by
 rw[uv hf h]
 exact⟨hf,rfl,by show(w.buf++s).length<=_;rw[List.length_append];omega⟩
theorem z7{w:Wr}{x:Int}(hf:w.full=false)(h:(2:Int)<=w.limit - w.buf.length):Room w (w.num 2 x) 2:=qa9 (s:=be 2 x) hf h
theorem yf{a b c:Wr}{m n:Nat}(h:Room a b m)(k:Room b c n):Room a c (m+n):=⟨k.1,k.2.1.trans h.2.1,by have:=h.2.2;have:=k.2.2;omega⟩
theorem qf2{a b:Wr}{m n:Nat}(h:Room a b m)(hm:m<=n):Room a b n:=⟨h.1,h.2.1,by have:=h.2.2;omega⟩
theorem qs3:∀ (m:Nat) (w:Wr) (n:List UInt8),w.full=false->(n.length:Int)<=w.limit - w.buf.length->Room w (Wr.nameGo true m w n) n.length
 |0,w,n,hf,h=>qa9 hf h
 |m+1,w,n,hf,h=>by
  have htd:n.length=(n.take (1+bt n 0)).length+(n.drop (1+bt n 0)).length:=by
   rw[<-List.length_append,List.take_append_drop]
  have ht:((n.take (1+bt n 0)).length:Int)<=w.limit - w.buf.length:=by omega
  unfold Wr.nameGo
  split
  ·rename_i h1
   split
   ·rw[if_pos rfl]
    exact qf2 (z7 hf (by omega)) (by omega)
   ·split
    ·rename_i hfit
     have hp:=qa9 hf ht
     split
     ·have hq:Room w { w.piece (n.take (1+bt n 0)) with rests:=w.rests++[(n,(w.buf.length:Int))] } (n.take (1+bt n 0)).length:=hp
      have:=qs3 m _ (n.drop (1+bt n 0)) hq.1 (by rw[hq.2.1];have:=hq.2.2;omega)
      rw[htd]
      exact yf hq this
     ·have:=qs3 m _ (n.drop (1+bt n 0)) hp.1 (by rw[hp.2.1];have:=hp.2.2;omega)
      rw[htd]
      exact yf hp this
    ·exact qf2 (qa9 hf ht) (by omega)
  ·exact qa9 hf h
theorem read_head(s:List UInt8)(h:(Msg.read s).2=0):zv s=((Msg.read s).1.id,(Msg.read s).1.bits,0):=by
 have key:(Msg.read s).2≠0\/zv s=((Msg.read s).1.id,(Msg.read s).1.bits,0):=by
  unfold Msg.read zv
  split
  ·exact .inl (by decide)
  dsimp only
  unfold Rdr.rest
  split
  ·exact .inl (by decide)
  split
  ·exact .inl (by decide)
  refine qd5 (fun p=>p.2≠0\/_=(p.1.id,p.1.bits,0)) (fun e he=>.inl he) fun r1 x hx lx=>?_
  refine qd5 (fun p=>p.2≠0\/_=(p.1.id,p.1.bits,0)) (fun e he=>.inl he) fun r2 y hy ly=>?_
  refine qd5 (fun p=>p.2≠0\/_=(p.1.id,p.1.bits,0)) (fun e he=>.inl he) fun r3 z hz lz=>?_
  unfold Rdr.fin
  split
  ·exact .inl (by decide)
  try exact .inr rfl
 exact key.resolve_left (fun hn=>hn h)
structure Res(r:Rq):Prop where
 code:r.code = -1
 asks:r.m.asks.length=1
 cl:(r.m.asks.getD 0 default).cl=1
 nm:qq (r.m.asks.getD 0 default).nm
 qr:Go.bits BinOp.and IntKind.u16 r.m.bits 32768=0
 says:r.m.says=[]
theorem code_cases(m:Msg)(ver bad:Int):(ye m ver bad=1\/ye m ver bad=4\/ye m ver bad=5\/ye m ver bad=16)\/(ye m ver bad = -1/\m.asks.length=1/\m.says=[]/\(m.asks.getD 0 default).cl=1):=by
 unfold ye
 split
 ·exact .inl (.inl rfl)
 rename_i h1
 split
 ·exact .inl (.inr (.inl rfl))
 split
 ·exact .inl (.inr (.inr (.inr rfl)))
 split
 ·exact .inl (.inr (.inr (.inl rfl)))
 rename_i h2
 split
 ·exact .inl (.inr (.inr (.inl rfl)))
 ·refine .inr ⟨rfl,?_,?_,?_⟩
  ·exact Decidable.byContradiction fun h=>h1 (.inl h)
  ·have:¬ 0<m.says.length:=fun h=>h1 (.inr (.inl h))
   exact List.length_eq_zero_iff.1 (by omega)
  ·exact Decidable.byContradiction fun h=>h2 (.inl h)
theorem look_cases(s:List UInt8):((look s).code = -2/\(look s).m=Msg.no)\/((look s).code=1\/(look s).code=4\/(look s).code=5\/(look s).code=16)\/Res (look s):=by
 unfold look
 split
 ·exact .inl ⟨rfl,rfl⟩
 rename_i h1
 split
 ·exact .inr (.inl (.inl rfl))
 rename_i h2
 have h2:(Msg.read s).2=0:=Decidable.not_not.1 h2
 have hh:=read_head s h2
 rcases qr2 s with⟨e1,_⟩|⟨_,hm⟩
 ·exact absurd h2 e1
 have hqr:Go.bits BinOp.and IntKind.u16 (Msg.read s).1.bits 32768=0:=by
  rw [hh] at h1
  exact Decidable.byContradiction fun h=>h1 (.inr h)
 generalize (Msg.read s).1=m at hqr hm ⊢
 unfold vl
 split
 ·exact .inr (.inl (.inl rfl))
 have hn:∀ q ∈ m.asks,qq q.nm:=fun q hq=>by
  have:=hm.check
  simp only [Msg.check,Bool.and_eq_true,decide_eq_true_eq,List.all_eq_true] at this
  exact this.1.1.1.2 q hq
 have hr:∀ bad:Int,(ye m m.get.1.ver bad=1\/ye m m.get.1.ver bad=4\/ye m m.get.1.ver bad=5\/ye m m.get.1.ver bad=16)\/(ye m m.get.1.ver bad = -1/\m.asks.length=1/\m.says=[]/\(m.asks.getD 0 default).cl=1/\qq (m.asks.getD 0 default).nm):=fun bad=>by
  rcases code_cases m m.get.1.ver bad with h|⟨k1,k2,k3,k4⟩
  ·exact .inl h
  ·refine .inr ⟨k1,k2,k3,k4,hn _ ?_⟩
   have:m.asks[0]? = some (m.asks.getD 0 default):=by rw[List.getD,List.getElem?_eq_getElem (by omega)];rfl
   exact List.mem_of_getElem? this
 split
 ·rcases hr (yt m.get.1.opts).2.2 with h|⟨k1,k2,k3,k4,k5⟩
  ·exact .inr (.inl h)
  ·exact .inr (.inr ⟨k1,k2,k4,k5,hqr,k3⟩)
 ·rcases hr (yt m.get.1.opts).2.2 with h|⟨k1,k2,k3,k4,k5⟩
  ·exact .inr (.inl h)
  ·exact .inr (.inr ⟨k1,k2,k4,k5,hqr,k3⟩)
def frB(s:List UInt8):List UInt8:=be 2 (s.length:Int)++s
theorem qk3(s:List UInt8):(frB s).length=2+s.length:=by
 unfold frB
 rw[List.length_append]
 rfl
theorem frame_ok(s:List UInt8)(hs:s.length<=60000):FnOk Tryz.prog 31 [.d (.str s)] (.tup [.d (.str (frB s)),.d (.int .i64 0)]):=by
 refine qi (TT:=TT) (IN:=qa []) qd qc mixed 1000 Tryz.func31 rfl (qb Tryz.func31 (by kernel_rfl) rfl) rfl 23 (by kernel_rfl) ?_
 conv=>whnf
 refine brF (decide_eq_false (by omega)) ?_
 conv=>whnf
 have hlim:IntKind.i64.wrap (2+(s.length:Int))=2+(s.length:Int):=ql _ (by omega)
 rw[hlim]
 refine .rel _ (qf1 (2+(s.length:Int))) (fun r ks' hR=>?_)
 obtain⟨rfl,rfl⟩:=hR
 have hok:(Wr.mk [] (2+(s.length:Int)) false []).Ok:=⟨by show _<=2+(s.length:Int);omega,by show 2+(s.length:Int)<=_;omega,.inl rfl,fun e he=>by cases he⟩
 conv=>whnf
 refine .rel _ (COk.thing Wr.fl (yk _ hok 2 (.inr (.inl rfl)) (IntKind.u64.wrap (s.length:Int))) [] [] _ rfl rfl) (fun x ks' hR=>?_)
 obtain⟨_,wq,⟨rfl,rfl⟩,rfl,rfl⟩:=hR
 have hok:=hok.num 2 (IntKind.u64.wrap (s.length:Int))
 conv=>whnf
 refine .rel _ (COk.thing Wr.fl (qc1 _ hok s (by omega)) [] [] _ rfl rfl) (fun x ks' hR=>?_)
 obtain⟨_,wq,⟨rfl,rfl⟩,rfl,rfl⟩:=hR
 conv=>whnf
 refine .rel _ (COk.thing Wr.fl (qg1 _) [] [] _ rfl rfl) (fun x ks' hR=>?_)
 obtain⟨_,wq,⟨rfl,rfl⟩,rfl,rfl⟩:=hR
 have hw:IntKind.u64.wrap (s.length:Int)=s.length:=by rw[IntKind.wrap_u64];omega
 have hbl:(be 2 (s.length:Int)).length=2:=rfl
 have e:((Wr.mk [] (2+(s.length:Int)) false []).num 2 (IntKind.u64.wrap (s.length:Int))).piece s=⟨frB s,2+(s.length:Int),false,[]⟩:=by
  rw[hw]
  have e1:(Wr.mk [] (2+(s.length:Int)) false []).num 2 (s.length:Int)=⟨be 2 (s.length:Int),2+(s.length:Int),false,[]⟩:=uv rfl (by show((be 2 (s.length:Int)).length:Int)<=2+(s.length:Int) - 0;rw[hbl];omega)
  have e2:(Wr.mk (be 2 (s.length:Int)) (2+(s.length:Int)) false []).piece s=⟨frB s,2+(s.length:Int),false,[]⟩:=uv rfl (by show(s.length:Int)<=2+(s.length:Int) - ((be 2 (s.length:Int)).length:Int);rw[hbl];omega)
  rw[e1,e2]
 rw[e]
 conv=>whnf
 try exact⟨rfl,rfl,True.intro⟩
theorem at_ok(r:Rdr)(hb:r.bad=false):COk Tryz.prog 195 [.ptr 0 0] [r.kb] (fun s k=>∃ r1,k=[Rdr.kb r1]/\(s = .d (.int .i64 r.p)/\r1=r)):=by
 refine ya (TT:=TT) (IN:=qa [(67,Tryz.f67,1)]) qd (qt qc Tryz.func67 (by kernel_rfl) (by kernel_rfl)) mixed 1000 Tryz.func195 rfl (qb Tryz.func195 (by kernel_rfl) rfl) 8 (by kernel_rfl) ?_
 conv=>whnf
 refine brF hb ?_
 conv=>whnf
 refine⟨[0],.d (.int .i64 r.p),[r.kb],rfl,rfl,rfl,?_,r,rfl,rfl,rfl⟩
 repeat'(first|exact ⟨⟩|exact rfl|exact fun _=>Iff.rfl|exact fun _ _=>rfl|exact renM_ent rfl _|apply And.intro)
theorem atE(r:Rdr)(hb:r.bad=false)(pre rest:List KB)(σ:Nat->Nat)(hσ:σ=sig (List.range' pre.length 1) (pre.length+(1+rest.length))){al':List SV}(ha:mapL σ [.ptr 0 0]=al') :
 COk Tryz.prog 195 al' (pre++(r.kb :: rest)) (fun s k=>s = .d (.int .i64 r.p)/\k=pre++(r.kb :: rest)) :=
 (qw (at_ok r hb) pre rest σ hσ ha).imp fun s k ⟨s0,r1,⟨hs0,hr1⟩,hs,hk⟩=>⟨by rw[hs,hs0];rfl,by rw[hk,hr1]⟩
theorem num2_none(d:List UInt8)(p:Nat)(h:d.length<=p+1)(hp:p<=d.length):((Rdr.mk d p false).num 2)=(⟨d,p,true⟩,0):=by
 unfold Rdr.num Rdr.raw
 rw[if_neg (show ¬ (false=true) by decide),if_pos (.inr (by show((2:Nat):Int) > (d.length:Int) - (p:Int);omega))]
 rfl
theorem split_ok(s:List UInt8)(hs:s.length<=60000):FnOk Tryz.prog 88 [.d (.str (frB s))] (.tup [.d (.sl false 1 1 (strs [s])),.d (.str [])]):=by
 refine qi (TT:=TT) (IN:=qa [(145,Tryz.f145,1),(194,Tryz.f194,2),(67,Tryz.f67,1)]) qd (qt (qt (qt qc Tryz.func67 (by kernel_rfl) (by kernel_rfl)) Tryz.func194 (by kernel_rfl) (by kernel_rfl)) Tryz.func145 (by kernel_rfl) (by kernel_rfl)) mixed 1000 Tryz.func88 rfl (qb Tryz.func88 (by kernel_rfl) rfl) rfl 19 (by kernel_rfl) ?_
 have hfl:=qk3 s
 have hbl:(be 2 (s.length:Int)).length=2:=rfl
 have e1:(Rdr.mk (frB s) 0 false).num 2=(⟨frB s,2,false⟩,s.length):=by
  have h1:(Rdr.mk (frB s) 0 false).raw ((2:Nat):Int)=(⟨frB s,2,false⟩,be 2 (s.length:Int)):=by
   have:=ux [] (be 2 (s.length:Int)) s
   rw [hbl] at this
   simpa[hbl,frB] using this
  unfold Rdr.num
  rw[h1]
  show(_,if false=true then 0 else j3 (be 2 (s.length:Int)))=_
  rw[if_neg (by decide),numOf2 _ (by omega)]
 have e2:(Rdr.mk (frB s) 2 false).raw (s.length:Int)=(⟨frB s,2+s.length,false⟩,s):=by
  have:=ux (be 2 (s.length:Int)) s []
  rw [List.append_nil] at this
  have h4:(be 2 (s.length:Int)++s).length=2+s.length:=hfl
  rw [h4] at this
  exact this
 have e3:=num2_none (frB s) (2+s.length) (by omega) (by omega)
 have e4:(Rdr.mk (frB s) (2+s.length) true).raw 0=(⟨frB s,2+s.length,true⟩,[]):=rfl
 generalize frB s=d at hfl e1 e2 e3 e4 ⊢
 conv=>whnf
 refine .rel _ (vt (fun _=>rfl) (qk2 d) [_,_,_,_] (fun _=>rfl)) (fun x ks' hR=>?_)
 obtain⟨rfl,rfl⟩:=hR
 conv=>whnf
 have hr0:(Rdr.mk d 0 false).Ok:=⟨by show d.length<_;omega,Nat.zero_le _⟩
 have hr2:(Rdr.mk d 2 false).Ok:=⟨by show d.length<_;omega,by show 2<=d.length;omega⟩
 have hr3:(Rdr.mk d (2+s.length) false).Ok:=⟨by show d.length<_;omega,by show 2+s.length<=d.length;omega⟩
 have hr4:(Rdr.mk d (2+s.length) true).Ok:=⟨by show d.length<_;omega,by show 2+s.length<=d.length;omega⟩
 have hw:IntKind.i64.wrap (s.length:Int)=s.length:=ql _ (by omega)
 refine .once ?_
 conv=>whnf
 refine .rel _ (qw (yg _ hr0 2 (.inr (.inl rfl))) [_,_,_,_] [] _ rfl rfl) (fun x ks' hR=>?_)
 obtain⟨_,r1,⟨rfl,rfl⟩,rfl,rfl⟩:=hR
 rw[e1]
 conv=>whnf
 rw[hw]
 refine .rel _ (qw (kg _ hr2 (s.length:Int) (by omega)) [_,_,_,_] [] _ rfl rfl) (fun x ks' hR=>?_)
 obtain⟨_,r1,⟨rfl,rfl⟩,rfl,rfl⟩:=hR
 rw[e2]
 conv=>whnf
 refine brF rfl ?_
 conv=>whnf
 have esub:sub d ((2+s.length:Nat):Int) (d.length:Int)=[]:=by
  unfold sub
  rw[List.drop_eq_nil_of_le (by rw[Int.toNat_natCast];omega)]
  exact List.take_nil
 have hbd:0<=((2+s.length:Nat):Int)/\((2+s.length:Nat):Int)<=d.length/\(d.length:Int)<=d.length:=by omega
 apply Exists.intro
 apply Exists.intro
 refine⟨?_,?_⟩
 ·conv=>whnf
  repeat'(first|exact ⟨⟩|(with_reducible exact⟨rfl,rfl⟩)|(refine .mem _ _ (atE ⟨d,2+s.length,false⟩ rfl [_,_,_,_] [] _ rfl rfl) ?_;conv=>whnf)|(refine And.intro hbd ?_;conv=>whnf)|(apply And.intro <;> conv=>whnf)|exact⟨rfl,rfl⟩)
 conv=>whnf
 refine⟨by decide,?_⟩
 conv=>whnf
 refine .once ?_
 conv=>whnf
 refine .rel _ (qw (yg _ hr3 2 (.inr (.inl rfl))) [_,_,_,_] [_,_] _ rfl rfl) (fun x ks' hR=>?_)
 obtain⟨_,r1,⟨rfl,rfl⟩,rfl,rfl⟩:=hR
 rw[e3]
 conv=>whnf
 refine .rel _ (qw (kg _ hr4 (0:Int) (by omega)) [_,_,_,_] [_,_] _ rfl rfl) (fun x ks' hR=>?_)
 obtain⟨_,r1,⟨rfl,rfl⟩,rfl,rfl⟩:=hR
 rw[e4]
 conv=>whnf
 repeat(first|(refine brF rfl ?_;conv=>whnf)|(refine brT rfl ?_;conv=>whnf))
 repeat'(first|exact ⟨⟩|exact rfl|exact .inr rfl|exact .inl rfl|exact fun _ _=>rfl|exact noI|apply And.intro)
 try exact .inr rfl
 ·intro i hi
  match i,hi with
  |0,_=>rfl
  |i+1,h=>exact absurd h (by omega)
 ·conv=>whnf
  exact congrArg DV.str esub
theorem or64(x y:Nat)(hx:x<256)(hy:y<256):Go.bits BinOp.or IntKind.i64 (IntKind.i64.wrap (IntKind.i64.wrap (x:Int) * 2 ^ 8)) (IntKind.i64.wrap (y:Int))=((x * 256+y:Nat):Int):=by
 have e1:IntKind.i64.wrap (x:Int)=x:=ql _ (by omega)
 have e2:IntKind.i64.wrap ((x:Int) * 2 ^ 8)=((x * 256:Nat):Int):=by
  rw[show(x:Int) * 2 ^ 8=((x * 256:Nat):Int) by push_cast;rfl]
  exact ql _ (by omega)
 have e3:IntKind.i64.wrap (y:Int)=y:=ql _ (by omega)
 rw[e1,e2,e3]
 show IntKind.i64.wrap (((BitVec.ofInt 64 ((x * 256:Nat):Int) ||| BitVec.ofInt 64 (y:Int)).toNat:Nat):Int)=_
 rw[BitVec.toNat_or,ofInt_u64 _ (by omega),ofInt_u64 _ (by omega),nat_join 8 (x * 256) y (by omega) (by omega)]
 exact ql _ (by omega)
def uc(w:List UInt8):Bool:=decide (2<=w.length) && decide (((bt w 0 * 256+bt w 1:Nat):Int)<=(w.length:Int) - 2)
theorem whole_ok(b:Bool)(w:List UInt8)(hw:w.length<=1000000):FnOk Tryz.prog 87 [.d (.sl b w.length 1 (jc w))] (.d (.bool (uc w))):=by
 refine qi (TT:=TT) (IN:=qa []) qd qc mixed 1000 Tryz.func87 rfl (qb Tryz.func87 (by kernel_rfl) rfl) rfl 21 (by kernel_rfl) ?_
 unfold uc
 conv=>whnf
 refine⟨fun h1=>?_,fun h1=>?_⟩
 ·have h1:2<=w.length:=by have h:(w.length:Int) >= 2:=of_decide_eq_true h1;omega
  rw[decide_eq_true h1]
  conv=>whnf
  refine⟨⟨Int.le_refl 0,by omega⟩,?_⟩
  conv=>whnf
  refine⟨by decide,?_⟩
  conv=>whnf
  refine⟨⟨by decide,by omega⟩,?_⟩
  conv=>whnf
  have hx:bt w 0<256:=UInt8.toNat_lt _
  have hy:bt w 1<256:=UInt8.toNat_lt _
  have e1:=or64 (bt w 0) (bt w 1) hx hy
  have e2:IntKind.i64.wrap ((w.length:Int) - 2)=(w.length:Int) - 2:=ql _ (by omega)
  show DV.bool (decide (IntKind.i64.wrap ((w.length:Int) - 2) >= Go.bits BinOp.or IntKind.i64 (IntKind.i64.wrap (IntKind.i64.wrap (bt w 0:Int) * 2 ^ 8)) (IntKind.i64.wrap (bt w 1:Int))))=_
  rw[e1,e2,Bool.true_and]
 ·have hn:¬ 2<=w.length:=by have h:¬ (w.length:Int) >= 2:=of_decide_eq_false h1;omega
  rw[show decide (2<=w.length)=false from decide_eq_false hn]
  conv=>whnf
  repeat(first|(refine brF rfl ?_;conv=>whnf)|(refine brT rfl ?_;conv=>whnf))
  try exact rfl
theorem whole_row(b:Bool)(n:Nat)(f:Nat->List DV)(w:List UInt8)(hw:w.length<=1000000)(hn:n=w.length)(hf:∀ i,i<n->f i=jc w i):FnOk Tryz.prog 87 [.d (.sl b n 1 f)] (.d (.bool (uc w))):=by
 subst hn
 exact(whole_ok b w hw).convA ⟨AEq.row hf,True.intro⟩
def stF(a:Z × List UInt8):List KB:=[.cells 212 [.all 1],.row 5 1 a.2.length a.1 (jc a.2)]
theorem feed_part(a:Z × List UInt8)(s:List UInt8)(hz:a.1 = .iff\/a.1 = .no)(hl:a.2.length+s.length<=100000)(hw:uc (a.2++s)=false):COk Tryz.prog 33 [.ptr 0 0,.d (.str s)] [pk (stF a)] (fun r k=>∃ a1,k=[pk (stF a1)]/\(r = .tup [nilS,.d (.int .i64 0)]/\(a1.1=a.1/\a1.2=a.2++s))):=by
 refine COk.toThing stF (ws (TT:=TT) (IN:=qa []) qd qc mixed 1000 Tryz.func33 rfl (qb Tryz.func33 (by kernel_rfl) rfl) 49 (by kernel_rfl) rfl ?_ ?_)
 ·rintro r l ⟨a1,_,rfl,_⟩
  rfl
 obtain⟨z,w⟩:=a
 conv=>whnf
 have hl:w.length+s.length<=100000:=hl
 have hw:uc (w++s)=false:=hw
 refine brF (decide_eq_false (by show ¬ (s.length:Int) > IntKind.i64.wrap (131072 - (w.length:Int));rw[ql _ (by omega)];omega)) ?_
 conv=>whnf
 refine⟨by show(w.length+s.length) * 1<=_;omega,?_⟩
 have hcat:∀ i,i<w.length+s.length->catF w.length (jc w) (fun j=>[DV.int IntKind.u8 (qu s j)]) i=jc (w++s) i:=fun i hi=>jp w s i hi
 have hwh:=fun b=>whole_row b (w.length+s.length) (catF w.length (jc w) (fun j=>[DV.int IntKind.u8 (qu s j)])) (w++s) (by rw[List.length_append];omega) (by rw[List.length_append]) hcat
 rw [hw] at hwh
 have hz:z = .iff\/z = .no:=hz
 rcases hz with rfl|rfl
 all_goals conv=>whnf
 all_goals refine .one (.view (.d (.bool false)) _ [2] (hwh _) ⟨rfl,rfl⟩ rfl rfl ?_)
 all_goals conv=>whnf
 all_goals refine brT rfl ?_
 all_goals conv=>whnf
 ·refine⟨[0,2],.tup [nilS,.d (.int .i64 0)],stF (.iff,w++s),rfl,rfl,rfl,?_,(.iff,w++s),rfl,rfl,rfl,rfl⟩
  repeat'(first|exact ⟨⟩|exact rfl|exact fun _=>Iff.rfl|exact fun _ _=>rfl|exact ju _ _|exact(List.length_append ..).symm|exact jp _ _|apply And.intro)
 ·refine⟨[0,2],.tup [nilS,.d (.int .i64 0)],stF (.no,w++s),rfl,rfl,rfl,?_,(.no,w++s),rfl,rfl,rfl,rfl⟩
  repeat'(first|exact ⟨⟩|exact rfl|exact fun _=>Iff.rfl|exact fun _ _=>rfl|exact ju _ _|exact(List.length_append ..).symm|exact jp _ _|apply And.intro)
theorem whole_fr(t:List UInt8)(ht:t.length<=60000):uc (frB t)=true:=by
 have hb:be 2 (t.length:Int)=[UInt8.ofNat (t.length / 256),UInt8.ofNat (t.length % 256)]:=be2 _ (by omega)
 have h0:bt (frB t) 0=t.length / 256:=by
  unfold frB bt
  rw[hb]
  show(UInt8.ofNat (t.length / 256)).toNat=_
  exact wp (by omega)
 have h1:bt (frB t) 1=t.length % 256:=by
  unfold frB bt
  rw[hb]
  show(UInt8.ofNat (t.length % 256)).toNat=_
  exact wp (by omega)
 have hl:=qk3 t
 unfold uc
 rw[h0,h1,hl,decide_eq_true (by omega),decide_eq_true (by omega)]
 rfl
theorem whole_part(t:List UInt8)(ht:t.length<=60000)(c:Nat)(hc:c<(frB t).length):uc ((frB t).take c)=false:=by
 have hl:=qk3 t
 have htl:((frB t).take c).length=c:=by rw[List.length_take];omega
 unfold uc
 rw[htl]
 by_cases h2:2<=c
 ·have hb:be 2 (t.length:Int)=[UInt8.ofNat (t.length / 256),UInt8.ofNat (t.length % 256)]:=be2 _ (by omega)
  have hg:∀ i,i<2->bt ((frB t).take c) i=bt (frB t) i:=fun i hi=>by
   unfold bt
   rw[List.getElem?_take_of_lt (by omega)]
  have h0:bt (frB t) 0=t.length / 256:=by
   unfold frB bt
   rw[hb]
   show(UInt8.ofNat (t.length / 256)).toNat=_
   exact wp (by omega)
  have h1:bt (frB t) 1=t.length % 256:=by
   unfold frB bt
   rw[hb]
   show(UInt8.ofNat (t.length % 256)).toNat=_
   exact wp (by omega)
  rw[hg 0 (by omega),hg 1 (by omega),h0,h1,decide_eq_true h2,decide_eq_false (by omega)]
  rfl
 ·rw[decide_eq_false h2]
  rfl
theorem jc9(a:Z × List UInt8)(s t:List UInt8)(hz:a.1 = .iff\/a.1 = .no)(ht:t.length<=60000)(he:a.2++s=frB t):COk Tryz.prog 33 [.ptr 0 0,.d (.str s)] [pk (stF a)] (fun r k=>∃ a1,k=[pk (stF a1)]/\(r = .tup [.d (.sl false 1 1 (strs [t])),.d (.int .i64 0)]/\(a1.1 = .no/\a1.2=[]))):=by
 refine COk.toThing stF (ws (TT:=TT) (IN:=qa []) qd qc mixed 1000 Tryz.func33 rfl (qb Tryz.func33 (by kernel_rfl) rfl) 49 (by kernel_rfl) rfl ?_ ?_)
 ·rintro r l ⟨a1,_,rfl,_⟩
  rfl
 obtain⟨z,w⟩:=a
 have he:w++s=frB t:=he
 have hfl:=qk3 t
 have hl:w.length+s.length=2+t.length:=by rw[<-List.length_append,he,hfl]
 conv=>whnf
 refine brF (decide_eq_false (by show ¬ (s.length:Int) > IntKind.i64.wrap (131072 - (w.length:Int));rw[ql _ (by omega)];omega)) ?_
 conv=>whnf
 refine⟨by show(w.length+s.length) * 1<=_;omega,?_⟩
 have hcat:∀ i,i<w.length+s.length->catF w.length (jc w) (fun j=>[DV.int IntKind.u8 (qu s j)]) i=jc (frB t) i:=fun i hi=>by
  rw[<-he]
  exact jp w s i hi
 have hwh:=fun b=>whole_row b (w.length+s.length) (catF w.length (jc w) (fun j=>[DV.int IntKind.u8 (qu s j)])) (frB t) (by omega) (by omega) hcat
 rw [whole_fr t ht] at hwh
 have hbs:ji (w.length+s.length) (catF w.length (jc w) (fun j=>[DV.int IntKind.u8 (qu s j)]))=frB t:=by
  have e1:=ku (frB t)
  rw [hfl,<-hl] at e1
  refine Eq.trans ?_ e1
  unfold ji
  exact List.map_congr_left fun i hi=>by rw[hcat i (List.mem_range.1 hi)]
 have hoct:qj4 (w.length+s.length) (catF w.length (jc w) (fun j=>[DV.int IntKind.u8 (qu s j)])):=fun i hi=>⟨_,hcat i hi⟩
 have hsp:=split_ok t ht
 rw [<-hbs] at hsp
 have hz:z = .iff\/z = .no:=hz
 rcases hz with rfl|rfl
 all_goals conv=>whnf
 all_goals refine .one (.view (.d (.bool true)) _ [2] (hwh _) ⟨rfl,rfl⟩ rfl rfl ?_)
 all_goals conv=>whnf
 all_goals refine brF rfl ?_
 all_goals conv=>whnf
 all_goals refine⟨hoct,?_⟩
 all_goals conv=>whnf
 all_goals refine oD hsp rfl rfl ?_
 all_goals conv=>whnf
 all_goals refine⟨[0,3],.tup [.d (.sl false 1 1 (strs [t])),.d (.int .i64 0)],stF (.no,[]),rfl,rfl,rfl,?_,(.no,[]),rfl,rfl,rfl,rfl⟩
 all_goals repeat'(first|exact ⟨⟩|exact rfl|exact fun _=>Iff.rfl|exact fun _ _=>rfl|exact ju _ _|exact(List.length_append ..).symm|exact jp _ _|apply And.intro)
theorem snew_ok:COk Tryz.prog 32 [] [] (fun r k=>r = .ptr 0 0/\k=[pk (stF (.iff,[]))]):=by
 have h:COk Tryz.prog 32 [] [] (fun r k=>r = .ptr 0 0/\k=[.cells 212 [nilS]]):=by
  refine ya (TT:=TT) (IN:=qa []) qd qc mixed 1000 Tryz.func32 rfl (qb Tryz.func32 (by kernel_rfl) rfl) 3 (by kernel_rfl) ?_
  conv=>whnf
  refine⟨[0],.ptr 0 0,_,rfl,rfl,rfl,?_,rfl,rfl⟩
  repeat'(first|exact ⟨⟩|exact rfl|exact fun _=>Iff.rfl|exact fun _ _=>rfl|exact renM_ent rfl _|apply And.intro)
 refine((h.nilCell (R':=fun r k=>r = .ptr 0 0/\k=stF (.iff,[])) 5 1 (fun s k hh=>by obtain⟨rfl,rfl⟩:=hh;exact .inr ⟨0,0,_,_,_,_,jc [],rfl,rfl,rfl,rfl⟩)).packNew (fun s k ⟨h1,_⟩=>by rw[h1];rfl)).imp (fun s k ⟨k1,h1,h2,h3⟩=>⟨h2,by rw[h1,h3]⟩)
def ageF(now s:Int):Int:=IntKind.i64.wrap (IntKind.i32.wrap (IntKind.u32.wrap (IntKind.u32.wrap now - s)))
def freshF(now s:Int):Bool:=!(decide (ageF now s < -300) || decide (ageF now s > 3600))
theorem age_ok(now s:Int):FnOk Tryz.prog 123 [.d (.int .i64 now),.d (.int .u32 s)] (.d (.int .i64 (ageF now s))):=by
 refine qi (TT:=TT) (IN:=qa [(175,Tryz.f175,1)]) qd (qt qc Tryz.func175 (by kernel_rfl) (by kernel_rfl)) mixed 1000 Tryz.func123 rfl (qb Tryz.func123 (by kernel_rfl) rfl) rfl 9 (by kernel_rfl) ?_
 conv=>whnf
 try exact rfl
theorem fresh_ok(now s:Int):FnOk Tryz.prog 59 [.d (.int .i64 now),.d (.int .u32 s)] (.d (.int .i64 (if freshF now s then 0 else 10))):=by
 refine qi (TT:=TT) (IN:=qa []) qd qc mixed 1000 Tryz.func59 rfl (qb Tryz.func59 (by kernel_rfl) rfl) rfl 13 (by kernel_rfl) ?_
 have ha:=age_ok now s
 unfold freshF
 generalize ageF now s=a at ha ⊢
 conv=>whnf
 refine oD ha rfl rfl ?_
 conv=>whnf
 refine⟨fun h1=>?_,fun h1=>?_⟩
 ·rw[h1]
  conv=>whnf
  try exact rfl
 ·rw[h1]
  conv=>whnf
  refine⟨fun h2=>?_,fun h2=>?_⟩
  ·rw[h2]
   conv=>whnf
   try exact rfl
  ·rw[h2]
   conv=>whnf
   try exact rfl
theorem renew_ok(now s:Int):FnOk Tryz.prog 61 [.d (.int .i64 now),.d (.int .u32 s)] (.d (.bool (decide (ageF now s > 1800)))):=by
 refine qi (TT:=TT) (IN:=qa []) qd qc mixed 1000 Tryz.func61 rfl (qb Tryz.func61 (by kernel_rfl) rfl) rfl 7 (by kernel_rfl) ?_
 conv=>whnf
 refine oD (age_ok now s) rfl rfl ?_
 conv=>whnf
 try exact rfl
def zx:List UInt8:=[103,105,118,101]
def beginB:List UInt8:=[1,0,0,0]
def yc(at_:Int):List UInt8:=beginB++be 4 at_
def ue(client:List UInt8)(at_ addr:Int):List UInt8:=((zx++client)++yc at_)++be 4 addr
theorem w0ok(n:Int)(h:0<=n/\n<=1048576):(Wr.mk [] n false []).Ok:=⟨by show _<=n;omega,by show n<=_;omega,.inl rfl,fun e he=>by cases he⟩
theorem be4_len(n:Int):(be 4 n).length=4:=rfl
theorem text_ok(client:List UInt8)(at_ addr:Int)(hc:client.length=8):FnOk Tryz.prog 125 [.d (.str client),.d (.str (yc at_)),.d (.int .u32 addr)] (.d (.str (ue client at_ (IntKind.u64.wrap addr)))):=by
 refine qi (TT:=TT) (IN:=qa []) qd qc mixed 1000 Tryz.func125 rfl (qb Tryz.func125 (by kernel_rfl) rfl) rfl 33 (by kernel_rfl) ?_
 conv=>whnf
 have hh:(yc at_).length=8:=rfl
 rw[hc,hh]
 refine .rel _ (qf1 24) (fun r ks' hR=>?_)
 obtain⟨rfl,rfl⟩:=hR
 have hok:=w0ok 24 (by decide)
 conv=>whnf
 refine .rel _ (COk.thing Wr.fl (qc1 _ hok zx (by decide)) [] [] _ rfl rfl) (fun x ks' hR=>?_)
 obtain⟨_,wq,⟨rfl,rfl⟩,rfl,rfl⟩:=hR
 have hok:=hok.piece zx
 conv=>whnf
 refine .rel _ (COk.thing Wr.fl (qc1 _ hok client (by omega)) [] [] _ rfl rfl) (fun x ks' hR=>?_)
 obtain⟨_,wq,⟨rfl,rfl⟩,rfl,rfl⟩:=hR
 have hok:=hok.piece client
 conv=>whnf
 refine .rel _ (COk.thing Wr.fl (qc1 _ hok (yc at_) (by omega)) [] [] _ rfl rfl) (fun x ks' hR=>?_)
 obtain⟨_,wq,⟨rfl,rfl⟩,rfl,rfl⟩:=hR
 have hok:=hok.piece (yc at_)
 conv=>whnf
 refine .rel _ (COk.thing Wr.fl (yk _ hok 4 (.inr (.inr (.inl rfl))) (IntKind.u64.wrap addr)) [] [] _ rfl rfl) (fun x ks' hR=>?_)
 obtain⟨_,wq,⟨rfl,rfl⟩,rfl,rfl⟩:=hR
 conv=>whnf
 refine .rel _ (COk.thing Wr.fl (qg1 _) [] [] _ rfl rfl) (fun x ks' hR=>?_)
 obtain⟨_,wq,⟨rfl,rfl⟩,rfl,rfl⟩:=hR
 have e:((((Wr.mk [] 24 false []).piece zx).piece client).piece (yc at_)).num 4 (IntKind.u64.wrap addr)=⟨ue client at_ (IntKind.u64.wrap addr),24,false,[]⟩:=by
  have e1:(Wr.mk [] 24 false []).piece zx=⟨zx,24,false,[]⟩:=rfl
  have e2:(Wr.mk zx 24 false []).piece client=⟨zx++client,24,false,[]⟩:=uv rfl (by show(client.length:Int)<=24 - 4;omega)
  have e3:(Wr.mk (zx++client) 24 false []).piece (yc at_)=⟨(zx++client)++yc at_,24,false,[]⟩:=uv rfl (by show((yc at_).length:Int)<=24 - ((zx++client).length:Int);rw[hh,List.length_append,hc];decide)
  have e4:(Wr.mk ((zx++client)++yc at_) 24 false []).num 4 (IntKind.u64.wrap addr)=⟨ue client at_ (IntKind.u64.wrap addr),24,false,[]⟩:=uv rfl (by show((be 4 (IntKind.u64.wrap addr)).length:Int)<=24 - (((zx++client)++yc at_).length:Int);rw[be4_len,List.length_append,hh,List.length_append,hc];decide)
  rw[e1,e2,e3,e4]
 rw[e]
 conv=>whnf
 try exact rfl
def ckF(h:Hs)(secret client:List UInt8)(addr at_:Int):List UInt8 × Int :=
 if (zu h secret (ue client (IntKind.u64.wrap at_) (IntKind.u64.wrap addr))).2≠0 then ([],(zu h secret (ue client (IntKind.u64.wrap at_) (IntKind.u64.wrap addr))).2)
 else (yc (IntKind.u64.wrap at_)++leB (zu h secret (ue client (IntKind.u64.wrap at_) (IntKind.u64.wrap addr))).1,0)
theorem qt4(h:Hs)(hl:h.tab.length<=1000)(secret client:List UInt8)(addr at_:Int)(hc:client.length=8):FnOk Tryz.prog 60 [.agg h.cells,.d (.str secret),.d (.str client),.d (.int .u32 addr),.d (.int .u32 at_)] (.tup [.d (.str (ckF h secret client addr at_).1),.d (.int .i64 (ckF h secret client addr at_).2)]):=by
 refine qi (TT:=TT) (IN:=qa []) qd qc mixed 1000 Tryz.func60 rfl (qb Tryz.func60 (by kernel_rfl) rfl) rfl 41 (by kernel_rfl) ?_
 conv=>whnf
 refine .rel _ (vt (fun _=>rfl) (qf1 8) [_] (fun _=>rfl)) (fun r ks' hR=>?_)
 obtain⟨rfl,rfl⟩:=hR
 have hok:=w0ok 8 (by decide)
 conv=>whnf
 refine .rel _ (COk.thing Wr.fl (qc1 _ hok beginB (by decide)) [_] [] _ rfl rfl) (fun x ks' hR=>?_)
 obtain⟨_,wq,⟨rfl,rfl⟩,rfl,rfl⟩:=hR
 have hok:=hok.piece beginB
 conv=>whnf
 refine .rel _ (COk.thing Wr.fl (yk _ hok 4 (.inr (.inr (.inl rfl))) (IntKind.u64.wrap at_)) [_] [] _ rfl rfl) (fun x ks' hR=>?_)
 obtain⟨_,wq,⟨rfl,rfl⟩,rfl,rfl⟩:=hR
 conv=>whnf
 refine .rel _ (COk.thing Wr.fl (qg1 _) [_] [] _ rfl rfl) (fun x ks' hR=>?_)
 obtain⟨_,wq,⟨rfl,rfl⟩,rfl,rfl⟩:=hR
 have e:((Wr.mk [] 8 false []).piece beginB).num 4 (IntKind.u64.wrap at_)=⟨yc (IntKind.u64.wrap at_),8,false,[]⟩:=rfl
 rw[e]
 conv=>whnf
 have ht:=text_ok client (IntKind.u64.wrap at_) addr hc
 have hx:(ue client (IntKind.u64.wrap at_) (IntKind.u64.wrap addr)).length<4611686018427387904:=by
  show(((zx++client)++yc (IntKind.u64.wrap at_))++be 4 (IntKind.u64.wrap addr)).length<_
  simp only[List.length_append,hc,be4_len]
  show 4+8+8+4<4611686018427387904
  decide
 unfold ckF
 generalize ue client (IntKind.u64.wrap at_) (IntKind.u64.wrap addr)=tx at ht hx ⊢
 have hk:=keyed_ok h secret tx hl hx
 generalize zu h secret tx=p at hk ⊢
 refine .data _ ht rfl rfl ?_
 conv=>whnf
 refine .data _ hk rfl rfl ?_
 conv=>whnf
 refine⟨fun h1=>?_,fun h1=>?_⟩
 ·rw[if_pos (show p.2≠0 by simpa using h1)]
  conv=>whnf
  try exact⟨rfl,rfl,True.intro⟩
 ·rw[if_neg (show ¬ p.2≠0 by simpa using h1)]
  conv=>whnf
  refine oD (bytes_ok p.1) rfl rfl ?_
  conv=>whnf
  refine⟨(show 8+8<=9223372036854775807 by decide),?_⟩
  conv=>whnf
  try exact⟨rfl,rfl,True.intro⟩
def j8(h:Hs)(secret client:List UInt8)(addr now:Int):List UInt8 × Int:=if client.length≠8 then ([],2) else ckF h secret client addr (IntKind.u32.wrap now)
theorem make_ok(h:Hs)(hl:h.tab.length<=1000)(secret client:List UInt8)(addr now:Int):FnOk Tryz.prog 127 [.agg h.cells,.d (.str secret),.d (.str client),.d (.int .u32 addr),.d (.int .i64 now)] (.tup [.d (.str (j8 h secret client addr now).1),.d (.int .i64 (j8 h secret client addr now).2)]):=by
 refine qi (TT:=TT) (IN:=qa []) qd qc mixed 1000 Tryz.func127 rfl (qb Tryz.func127 (by kernel_rfl) rfl) rfl 19 (by kernel_rfl) ?_
 unfold j8
 conv=>whnf
 refine⟨fun h1=>?_,fun h1=>?_⟩
 ·rw [if_pos (show client.length≠8 by intro e;rw [e] at h1;cases h1)]
  conv=>whnf
  try exact⟨rfl,rfl,True.intro⟩
 ·have hc:client.length=8:=by simp at h1;omega
  rw[if_neg (by omega)]
  conv=>whnf
  have ho:FnOk Tryz.prog 175 [.d (.int .i64 now)] (.d (.int .u32 (IntKind.u32.wrap now))):=by
   refine qi (TT:=TT) (IN:=qa []) qd qc mixed 1000 Tryz.func175 rfl (qb Tryz.func175 (by kernel_rfl) rfl) rfl 4 (by kernel_rfl) ?_
   conv=>whnf
   try exact rfl
  refine .data _ ho rfl rfl ?_
  conv=>whnf
  refine .data _ (qt4 h hl secret client addr (IntKind.u32.wrap now) hc) rfl rfl ?_
  conv=>whnf
  try exact⟨rfl,rfl,True.intro⟩
theorem prefix_ok(s:List UInt8):FnOk Tryz.prog 56 [.d (.str s),.d (.str beginB)] (.d (.bool (decide (4<=s.length/\s.take 4=beginB)))):=by
 refine qi (TT:=TT) (IN:=qa [(119,Tryz.f119,2)]) qd (qt qc Tryz.func119 (by kernel_rfl) (by kernel_rfl)) mixed 1000 Tryz.func56 rfl (qb Tryz.func56 (by kernel_rfl) rfl) rfl 6 (by kernel_rfl) ?_
 conv=>whnf
 refine⟨fun h1=>?_,fun h1=>?_⟩
 ·have h1:4<=s.length:=by have h:(s.length:Int) >= ((4:Nat):Int):=of_decide_eq_true h1;omega
  conv=>whnf
  refine⟨by show 0<=0/\(0:Int)<=4/\(4:Int)<=s.length;omega,?_⟩
  conv=>whnf
  have e1:sub s 0 ((4:Nat):Int)=s.take 4:=by simp[sub]
  show DV.bool (sub s 0 ((4:Nat):Int) == beginB)=_
  rw[e1]
  refine congrArg DV.bool ?_
  rw[Bool.eq_iff_iff]
  simp[h1]
 ·have h1:¬ 4<=s.length:=by have h:¬ (s.length:Int) >= ((4:Nat):Int):=of_decide_eq_false h1;omega
  have hd:decide (4<=s.length/\s.take 4=beginB)=false:=decide_eq_false (fun h=>h1 h.1)
  rw[hd]
  conv=>whnf
  try exact rfl
def atF(server:List UInt8):Int:=IntKind.u32.wrap ((Rdr.mk (sub server 4 8) 0 false).num 4).2
def verF(h:Hs)(sn sw client server:List UInt8)(addr now:Int):Bool × Int :=
 if client.length≠8 then (false,2) else
 if server=[] then (false,3) else
 if server.length≠16\/server.take 4≠beginB then (false,2) else
 if freshF now (atF server)=false then (false,10) else
 if ckF h sn client addr (atF server)=(server,0) then (decide (ageF now (atF server) > 1800),0) else
 if ckF h sw client addr (atF server)=(server,0) then (true,0) else (false,6)
theorem verify_ok(h:Hs)(hl:h.tab.length<=1000)(sn sw client server:List UInt8)(addr now:Int):FnOk Tryz.prog 22 [.agg h.cells,.agg [.d (.str sn),.d (.str sw)],.d (.str client),.d (.str server),.d (.int .u32 addr),.d (.int .i64 now)] (.tup [.d (.bool (verF h sn sw client server addr now).1),.d (.int .i64 (verF h sn sw client server addr now).2)]):=by
 refine qi (TT:=TT) (IN:=qa []) qd qc mixed 1000 Tryz.func22 rfl (qb Tryz.func22 (by kernel_rfl) rfl) rfl 68 (by kernel_rfl) ?_
 unfold verF
 conv=>whnf
 refine⟨fun h1=>?_,fun h1=>?_⟩
 ·rw [if_pos (show client.length≠8 by intro e;rw [e] at h1;cases h1)]
  conv=>whnf
  try exact⟨rfl,rfl,True.intro⟩
 have hc:client.length=8:=by simp at h1;omega
 rw[if_neg (by omega)]
 conv=>whnf
 refine⟨fun h2=>?_,fun h2=>?_⟩
 ·rw[if_pos (show server=[] by simpa using h2)]
  conv=>whnf
  try exact⟨rfl,rfl,True.intro⟩
 rw[if_neg (show ¬ server=[] by simpa using h2)]
 conv=>whnf
 refine⟨fun h3=>?_,fun h3=>?_⟩
 ·rw [if_pos (.inl (show server.length≠16 by intro e;rw [e] at h3;cases h3))]
  conv=>whnf
  repeat(first|(refine brT rfl ?_;conv=>whnf)|(refine brF rfl ?_;conv=>whnf)|(refine .once ?_;conv=>whnf)|(refine⟨by decide,?_⟩;conv=>whnf)|(refine And.intro (Nat.le_of_ble_eq_true rfl) ?_;conv=>whnf))
  try exact⟨rfl,rfl,True.intro⟩
 have hs:server.length=16:=by simp at h3;omega
 conv=>whnf
 refine oD (prefix_ok server) rfl rfl ?_
 by_cases hp:server.take 4=beginB
 ·have hd:decide (4<=server.length/\server.take 4=beginB)=true:=decide_eq_true ⟨by omega,hp⟩
  rw[hd,if_neg (fun hh=>hh.elim (fun h=>h hs) (fun h=>h hp))]
  conv=>whnf
  repeat(first|(refine brF rfl ?_;conv=>whnf)|(refine brT rfl ?_;conv=>whnf))
  refine⟨by omega,?_⟩
  conv=>whnf
  have hsl:(sub server 4 8).length=4:=by simp[sub];omega
  refine .rel _ (vt (fun _=>rfl) (qk2 (sub server 4 8)) [_,_] (fun _=>rfl)) (fun x ks' hR=>?_)
  obtain⟨rfl,rfl⟩:=hR
  conv=>whnf
  have hr0:(Rdr.mk (sub server 4 8) 0 false).Ok:=⟨by show(sub server 4 8).length<_;omega,Nat.zero_le _⟩
  refine .rel _ (qw (yg _ hr0 4 (.inr (.inr (.inl rfl)))) [_,_] [] _ rfl rfl) (fun x ks' hR=>?_)
  obtain⟨_,r1,⟨rfl,rfl⟩,rfl,rfl⟩:=hR
  conv=>whnf
  have hfr:=fresh_ok now (atF server)
  have hrn:=renew_ok now (atF server)
  have hk1:=qt4 h hl sn client addr (atF server) hc
  have hk2:=qt4 h hl sw client addr (atF server) hc
  generalize ckF h sn client addr (atF server)=k1 at hk1 ⊢
  generalize ckF h sw client addr (atF server)=k2 at hk2 ⊢
  generalize freshF now (atF server)=fr at hfr ⊢
  generalize decide (ageF now (atF server) > 1800)=rn at hrn ⊢
  cases fr
  ·rw [if_neg (show ¬ (false=true) by decide)] at hfr
   rw[if_pos rfl]
   refine oD hfr rfl rfl ?_
   conv=>whnf
   repeat(first|(refine brT rfl ?_;conv=>whnf)|(refine brF rfl ?_;conv=>whnf)|(refine .once ?_;conv=>whnf)|(refine⟨by decide,?_⟩;conv=>whnf)|(refine And.intro (Nat.le_of_ble_eq_true rfl) ?_;conv=>whnf))
   try exact⟨rfl,rfl,True.intro⟩
  rw [if_pos rfl] at hfr
  rw[if_neg (show ¬ (true=false) by decide)]
  refine oD hfr rfl rfl ?_
  conv=>whnf
  repeat(first|(refine brT rfl ?_;conv=>whnf)|(refine brF rfl ?_;conv=>whnf)|(refine .once ?_;conv=>whnf)|(refine⟨by decide,?_⟩;conv=>whnf)|(refine And.intro (Nat.le_of_ble_eq_true rfl) ?_;conv=>whnf))
  refine oD hk1 rfl rfl ?_
  conv=>whnf
  refine⟨fun a1=>?_,fun a1=>?_⟩
  ·have a1:k1.2=0:=by simpa using a1
   conv=>whnf
   refine⟨fun b1=>?_,fun b1=>?_⟩
   ·have b1:k1.1=server:=by simpa using b1
    rw[if_pos (show k1=(server,0) from Prod.ext b1 a1)]
    conv=>whnf
    repeat(first|(refine brF rfl ?_;conv=>whnf)|(refine brT rfl ?_;conv=>whnf))
    refine oD hrn rfl rfl ?_
    conv=>whnf
    try exact⟨rfl,rfl,True.intro⟩
   ·have b1:¬ k1.1=server:=by simpa using b1
    rw[if_neg (show ¬ k1=(server,0) from fun e=>b1 (congrArg Prod.fst e))]
    conv=>whnf
    repeat(first|(refine brT rfl ?_;conv=>whnf)|(refine brF rfl ?_;conv=>whnf)|(refine .once ?_;conv=>whnf)|(refine⟨by decide,?_⟩;conv=>whnf)|(refine And.intro (Nat.le_of_ble_eq_true rfl) ?_;conv=>whnf))
    refine oD hk2 rfl rfl ?_
    conv=>whnf
    repeat(first|(refine brF rfl ?_;conv=>whnf)|(refine brT rfl ?_;conv=>whnf))
    refine⟨fun a2=>?_,fun a2=>?_⟩
    ·have a2:k2.2=0:=by simpa using a2
     conv=>whnf
     refine⟨fun b2=>?_,fun b2=>?_⟩
     ·have b2:k2.1=server:=by simpa using b2
      rw[if_pos (show k2=(server,0) from Prod.ext b2 a2)]
      conv=>whnf
      repeat(first|(refine brT rfl ?_;conv=>whnf)|(refine brF rfl ?_;conv=>whnf)|(refine .once ?_;conv=>whnf)|(refine⟨by decide,?_⟩;conv=>whnf)|(refine And.intro (Nat.le_of_ble_eq_true rfl) ?_;conv=>whnf))
      try exact⟨rfl,rfl,True.intro⟩
     ·have b2:¬ k2.1=server:=by simpa using b2
      rw[if_neg (show ¬ k2=(server,0) from fun e=>b2 (congrArg Prod.fst e))]
      conv=>whnf
      repeat(first|(refine brT rfl ?_;conv=>whnf)|(refine brF rfl ?_;conv=>whnf)|(refine .once ?_;conv=>whnf)|(refine⟨by decide,?_⟩;conv=>whnf)|(refine And.intro (Nat.le_of_ble_eq_true rfl) ?_;conv=>whnf))
      try exact⟨rfl,rfl,True.intro⟩
    ·have a2:¬ k2.2=0:=by simpa using a2
     rw[if_neg (show ¬ k2=(server,0) from fun e=>a2 (congrArg Prod.snd e))]
     conv=>whnf
     repeat(first|(refine brT rfl ?_;conv=>whnf)|(refine brF rfl ?_;conv=>whnf)|(refine .once ?_;conv=>whnf)|(refine⟨by decide,?_⟩;conv=>whnf)|(refine And.intro (Nat.le_of_ble_eq_true rfl) ?_;conv=>whnf))
     try exact⟨rfl,rfl,True.intro⟩
  ·have a1:¬ k1.2=0:=by simpa using a1
   rw[if_neg (show ¬ k1=(server,0) from fun e=>a1 (congrArg Prod.snd e))]
   conv=>whnf
   repeat(first|(refine brT rfl ?_;conv=>whnf)|(refine brF rfl ?_;conv=>whnf)|(refine .once ?_;conv=>whnf)|(refine⟨by decide,?_⟩;conv=>whnf)|(refine And.intro (Nat.le_of_ble_eq_true rfl) ?_;conv=>whnf))
   refine oD hk2 rfl rfl ?_
   conv=>whnf
   repeat(first|(refine brF rfl ?_;conv=>whnf)|(refine brT rfl ?_;conv=>whnf))
   refine⟨fun a2=>?_,fun a2=>?_⟩
   ·have a2:k2.2=0:=by simpa using a2
    conv=>whnf
    refine⟨fun b2=>?_,fun b2=>?_⟩
    ·have b2:k2.1=server:=by simpa using b2
     rw[if_pos (show k2=(server,0) from Prod.ext b2 a2)]
     conv=>whnf
     repeat(first|(refine brT rfl ?_;conv=>whnf)|(refine brF rfl ?_;conv=>whnf)|(refine .once ?_;conv=>whnf)|(refine⟨by decide,?_⟩;conv=>whnf)|(refine And.intro (Nat.le_of_ble_eq_true rfl) ?_;conv=>whnf))
     try exact⟨rfl,rfl,True.intro⟩
    ·have b2:¬ k2.1=server:=by simpa using b2
     rw[if_neg (show ¬ k2=(server,0) from fun e=>b2 (congrArg Prod.fst e))]
     conv=>whnf
     repeat(first|(refine brT rfl ?_;conv=>whnf)|(refine brF rfl ?_;conv=>whnf)|(refine .once ?_;conv=>whnf)|(refine⟨by decide,?_⟩;conv=>whnf)|(refine And.intro (Nat.le_of_ble_eq_true rfl) ?_;conv=>whnf))
     try exact⟨rfl,rfl,True.intro⟩
   ·have a2:¬ k2.2=0:=by simpa using a2
    rw[if_neg (show ¬ k2=(server,0) from fun e=>a2 (congrArg Prod.snd e))]
    conv=>whnf
    repeat(first|(refine brT rfl ?_;conv=>whnf)|(refine brF rfl ?_;conv=>whnf)|(refine .once ?_;conv=>whnf)|(refine⟨by decide,?_⟩;conv=>whnf)|(refine And.intro (Nat.le_of_ble_eq_true rfl) ?_;conv=>whnf))
    try exact⟨rfl,rfl,True.intro⟩
 ·have hd:decide (4<=server.length/\server.take 4=beginB)=false:=decide_eq_false (fun h=>hp h.2)
  rw[hd,if_pos (.inr hp)]
  conv=>whnf
  repeat(first|(refine brT rfl ?_;conv=>whnf)|(refine brF rfl ?_;conv=>whnf)|(refine .once ?_;conv=>whnf)|(refine⟨by decide,?_⟩;conv=>whnf)|(refine And.intro (Nat.le_of_ble_eq_true rfl) ?_;conv=>whnf))
  try exact⟨rfl,rfl,True.intro⟩
def cofF(h:Hs)(sn sw:List UInt8)(r:Rq)(addr now:Int):List UInt8 × Bool :=
 if r.client=[] then ([],false) else
 if (verF h sn sw r.client r.server addr now).2=0/\(verF h sn sw r.client r.server addr now).1=false then (r.server,true) else
 if (j8 h sn r.client addr now).2≠0 then ([],(verF h sn sw r.client r.server addr now).2 == 0) else ((j8 h sn r.client addr now).1,(verF h sn sw r.client r.server addr now).2 == 0)
def secV(sn sw:List UInt8):SV:=.agg [.d (.str sn),.d (.str sw)]
theorem cof_ok(h:Hs)(hl:h.tab.length<=1000)(sn sw:List UInt8)(r:Rq)(addr now:Int):FnOk Tryz.prog 62 [.agg h.cells,secV sn sw,.agg r.cells,.d (.int .u32 addr),.d (.int .i64 now)] (.tup [.d (.str (cofF h sn sw r addr now).1),.d (.bool (cofF h sn sw r addr now).2)]):=by
 refine qi (TT:=TT) (IN:=qa []) qd qc mixed 1000 Tryz.func62 rfl (qb Tryz.func62 (by kernel_rfl) rfl) rfl 52 (by kernel_rfl) ?_
 have hv:=verify_ok h hl sn sw r.client r.server addr now
 have hm:=make_ok h hl sn r.client addr now
 unfold cofF
 generalize verF h sn sw r.client r.server addr now=v at hv ⊢
 generalize j8 h sn r.client addr now=m at hm ⊢
 conv=>whnf
 refine⟨fun h1=>?_,fun h1=>?_⟩
 ·rw[if_pos (show r.client=[] by simpa using h1)]
  conv=>whnf
  repeat'(first|exact ⟨⟩|exact rfl|exact .inr rfl|exact .inl rfl|exact fun _ _=>rfl|exact noI|apply And.intro)
 rw[if_neg (show ¬ r.client=[] by simpa using h1)]
 conv=>whnf
 refine oD hv rfl rfl ?_
 conv=>whnf
 refine⟨fun h2=>?_,fun h2=>?_⟩
 ·have h2:v.2=0:=by simpa using h2
  conv=>whnf
  refine⟨fun h3=>?_,fun h3=>?_⟩
  ·have h3:v.1=false:=by simpa using h3
   rw[if_pos ⟨h2,h3⟩]
   conv=>whnf
   repeat'(first|exact ⟨⟩|exact rfl|exact .inr rfl|exact .inl rfl|exact fun _ _=>rfl|exact noI|apply And.intro)
  ·have h3:¬ v.1=false:=by simpa using h3
   rw[if_neg (fun e=>h3 e.2)]
   conv=>whnf
   refine oD hm rfl rfl ?_
   conv=>whnf
   refine⟨fun h4=>?_,fun h4=>?_⟩
   ·rw[if_pos (show m.2≠0 by simpa using h4)]
    conv=>whnf
    repeat'(first|exact ⟨⟩|exact rfl|exact congrArg DV.bool rfl|apply And.intro)
   ·rw[if_neg (show ¬ m.2≠0 by simpa using h4)]
    conv=>whnf
    repeat'(first|exact ⟨⟩|exact rfl|exact congrArg DV.bool rfl|apply And.intro)
 ·have h2:¬ v.2=0:=by simpa using h2
  rw[if_neg (fun e=>h2 e.1)]
  conv=>whnf
  repeat(first|(refine brF rfl ?_;conv=>whnf)|(refine brT rfl ?_;conv=>whnf))
  refine oD hm rfl rfl ?_
  conv=>whnf
  refine⟨fun h4=>?_,fun h4=>?_⟩
  ·rw[if_pos (show m.2≠0 by simpa using h4)]
   conv=>whnf
   repeat'(first|exact ⟨⟩|exact rfl|exact congrArg DV.bool rfl|apply And.intro)
  ·rw[if_neg (show ¬ m.2≠0 by simpa using h4)]
   conv=>whnf
   repeat'(first|exact ⟨⟩|exact rfl|exact congrArg DV.bool rfl|apply And.intro)
structure Gt where
 kind:Int
 code:Int
 cookie:List UInt8
def Gt.cells(g:Gt):List SV:=[.d (.int .u8 g.kind),.d (.int .i64 g.code),.d (.str g.cookie)]
def decG(code:Int)(cookie:List UInt8):Gt:=if code = -2 then ⟨0,0,[]⟩ else if 0<=code then ⟨1,code,cookie⟩ else ⟨4,0,cookie⟩
theorem qj2(h:Hs)(hl:h.tab.length<=1000)(sn sw:List UInt8)(c:RtS)(r:Rq)(addr now:Int)(hn:0<=now)(tcp:Bool)(hf:r.code = -2\/0<=r.code\/tcp=true\/(cofF h sn sw r addr now).2=true) :
 COk Tryz.prog 23 [.agg h.cells,secV sn sw,.ptr 0 0,.agg r.cells,.d (.int .u32 addr),.d (.bool tcp),.d (.int .i64 now)] (c.ks 0) (fun s k=>∃ c1,k=RtS.ks c1 0/\(s = .agg (decG r.code (cofF h sn sw r addr now).1).cells/\c1=c)):=by
 refine ya (TT:=TT) (IN:=qa []) qd qc mixed 1000 Tryz.func23 rfl (qb Tryz.func23 (by kernel_rfl) rfl) 62 (by kernel_rfl) ?_
 have hc:=cof_ok h hl sn sw r addr now
 have hmax:(if 0 > now then 0 else now)=now:=if_neg (by omega)
 unfold decG
 conv=>whnf
 refine⟨fun h1=>?_,fun h1=>?_⟩
 ·rw[if_pos (show r.code = -2 by simpa using h1)]
  conv=>whnf
  refine⟨[0,1,2],.agg (Gt.mk 0 0 []).cells,c.ks 0,rfl,rfl,rfl,?_,c,rfl,rfl,rfl⟩
  repeat'(first|exact ⟨⟩|exact rfl|exact fun _=>Iff.rfl|exact fun _ _=>rfl|exact qa1 rfl _|apply And.intro)
 have h1:¬ r.code = -2:=by simpa using h1
 rw[if_neg h1]
 conv=>whnf
 rw[hmax]
 refine oD hc rfl rfl ?_
 conv=>whnf
 refine⟨fun h2=>?_,fun h2=>?_⟩
 ·have h2:r.code >= 0:=of_decide_eq_true h2
  rw[if_pos h2]
  conv=>whnf
  refine⟨[0,1,2],.agg (Gt.mk 1 r.code (cofF h sn sw r addr now).1).cells,c.ks 0,rfl,rfl,rfl,?_,c,rfl,rfl,rfl⟩
  repeat'(first|exact ⟨⟩|exact rfl|exact fun _=>Iff.rfl|exact fun _ _=>rfl|exact qa1 rfl _|apply And.intro)
 have h2:¬ r.code >= 0:=of_decide_eq_false h2
 rw[if_neg h2]
 have hf:tcp=true\/(cofF h sn sw r addr now).2=true:=(hf.resolve_left h1).resolve_left h2
 have hor:∀ b:Bool,b=true\/b=false:=fun b=>by cases b <;> simp
 conv=>whnf
 refine⟨fun h3=>?_,fun h3=>?_⟩
 ·conv=>whnf
  repeat(first|(refine brF rfl ?_;conv=>whnf)|(refine brT rfl ?_;conv=>whnf))
  refine⟨[0,1,2],.agg (Gt.mk 4 0 (cofF h sn sw r addr now).1).cells,c.ks 0,rfl,rfl,rfl,?_,c,rfl,rfl,rfl⟩
  repeat'(first|exact ⟨⟩|exact rfl|exact fun _=>Iff.rfl|exact fun _ _=>rfl|exact qa1 rfl _|apply And.intro)
 ·have h4:(cofF h sn sw r addr now).2=true:=hf.resolve_left (by rw[h3];decide)
  conv=>whnf
  refine brT h4 ?_
  conv=>whnf
  refine⟨[0,1,2],.agg (Gt.mk 4 0 (cofF h sn sw r addr now).1).cells,c.ks 0,rfl,rfl,rfl,?_,c,rfl,rfl,rfl⟩
  repeat'(first|exact ⟨⟩|exact rfl|exact fun _=>Iff.rfl|exact fun _ _=>rfl|exact qa1 rfl _|apply And.intro)
def decH(l:Lim)(hits o:Int)(cookie:List UInt8):Gt:=if ug l hits o=2 then ⟨0,0,[]⟩ else if ug l hits o=1\/cookie=[] then ⟨3,0,cookie⟩ else ⟨2,0,cookie⟩
theorem dec_hit(h:Hs)(hl:h.tab.length<=1000)(sn sw:List UInt8)(c:RtS)(r:Rq)(addr now:Int)(hn:0<=now)(l:Lim)(hits o:Int)(hh:COk Tryz.prog 63 [.ptr 0 0,.d (.int .u32 addr),.d (.int .i64 now)] (c.ks 0) (HitR l addr now hits o))(hcode:r.code = -1)(hver:(cofF h sn sw r addr now).2=false) :
 COk Tryz.prog 23 [.agg h.cells,secV sn sw,.ptr 0 0,.agg r.cells,.d (.int .u32 addr),.d (.bool false),.d (.int .i64 now)] (c.ks 0) (fun s k=>∃ c1,k=RtS.ks c1 0/\(s = .agg (decH l hits o (cofF h sn sw r addr now).1).cells/\c1.One l (vk addr l.bits) (winF l now) hits (overF l hits o))):=by
 refine ya (TT:=TT) (IN:=qa []) qd qc mixed 1000 Tryz.func23 rfl (qb Tryz.func23 (by kernel_rfl) rfl) 62 (by kernel_rfl) ?_
 have hc:=cof_ok h hl sn sw r addr now
 have hmax:(if 0 > now then 0 else now)=now:=if_neg (by omega)
 unfold decH
 generalize cofF h sn sw r addr now=p at hc hver ⊢
 conv=>whnf
 refine brF (by rw[hcode];rfl) ?_
 conv=>whnf
 rw[hmax]
 refine oD hc rfl rfl ?_
 conv=>whnf
 refine brF (by rw[hcode];rfl) ?_
 conv=>whnf
 repeat(first|(refine brF rfl ?_;conv=>whnf)|(refine brT rfl ?_;conv=>whnf))
 refine brF hver ?_
 conv=>whnf
 refine .rel _ (rtq (Q:=fun s c1=>s = .d (.int .u8 (ug l hits o))/\c1.One l (vk addr l.bits) (winF l now) hits (overF l hits o)) hh [] [_,_,_,_] _ rfl rfl) (fun x ks' hR=>?_)
 obtain⟨_,c1,⟨rfl,hone⟩,rfl,rfl⟩:=hR
 generalize ug l hits o=ps at hone ⊢
 conv=>whnf
 refine⟨fun h1=>?_,fun h1=>?_⟩
 ·rw[if_pos (show ps=2 by simpa using h1)]
  conv=>whnf
  refine⟨[0,1,2],.agg (Gt.mk 0 0 []).cells,c1.ks 0,rfl,rfl,rfl,?_,c1,rfl,rfl,hone⟩
  repeat'(first|exact ⟨⟩|exact rfl|exact fun _=>Iff.rfl|exact fun _ _=>rfl|exact qa1 rfl _|apply And.intro)
 rw[if_neg (show ¬ ps=2 by simpa using h1)]
 conv=>whnf
 refine⟨fun h2=>?_,fun h2=>?_⟩
 ·rw[if_pos (.inl (show ps=1 by simpa using h2))]
  conv=>whnf
  repeat(first|(refine brF rfl ?_;conv=>whnf)|(refine brT rfl ?_;conv=>whnf))
  refine⟨[0,1,2],.agg (Gt.mk 3 0 p.1).cells,c1.ks 0,rfl,rfl,rfl,?_,c1,rfl,rfl,hone⟩
  repeat'(first|exact ⟨⟩|exact rfl|exact fun _=>Iff.rfl|exact fun _ _=>rfl|exact qa1 rfl _|apply And.intro)
 have h2:¬ ps=1:=by simpa using h2
 conv=>whnf
 refine⟨fun h3=>?_,fun h3=>?_⟩
 ·rw[if_pos (.inr (show p.1=[] by simpa using h3))]
  conv=>whnf
  refine⟨[0,1,2],.agg (Gt.mk 3 0 p.1).cells,c1.ks 0,rfl,rfl,rfl,?_,c1,rfl,rfl,hone⟩
  repeat'(first|exact ⟨⟩|exact rfl|exact fun _=>Iff.rfl|exact fun _ _=>rfl|exact qa1 rfl _|apply And.intro)
 ·rw[if_neg (fun e=>e.elim h2 (fun e=>(show ¬ p.1=[] by simpa using h3) e))]
  conv=>whnf
  refine⟨[0,1,2],.agg (Gt.mk 2 0 p.1).cells,c1.ks 0,rfl,rfl,rfl,?_,c1,rfl,rfl,hone⟩
  repeat'(first|exact ⟨⟩|exact rfl|exact fun _=>Iff.rfl|exact fun _ _=>rfl|exact qa1 rfl _|apply And.intro)
theorem rtE{P:Program}{f:FuncId}{al al':List SV}{c:RtS}{r:SV}(h:COk P f al (c.ks 0) (fun s k=>∃ c1,k=RtS.ks c1 0/\(s=r/\c1=c)))(pre rest:List KB)(σ:Nat->Nat)(hσ:σ=sig (List.range' pre.length 3) (pre.length+(3+rest.length)))(ha:mapL σ al=al') :
 COk P f al' (pre++(c.ks pre.length++rest)) (fun s k=>s=mapV σ r/\k=pre++(c.ks pre.length++rest)) :=
 (rtq h pre rest σ hσ ha).imp fun s k ⟨s0,c1,⟨hs0,hc1⟩,hs,hk⟩=>⟨hs.trans (congrArg _ hs0),hk.trans (by rw[hc1])⟩
def opts(l:List RR):List RR:=l.filter (fun r=>r.ty == 41)
def Msg.less(m:Msg):Msg:=⟨m.id,Go.bits BinOp.or IntKind.u16 m.bits 512,m.za,m.asks,true,[],true,[],Nat.beq (opts m.extra).length 0,opts m.extra⟩
def Msg.fit(m:Msg)(limit:Int):List UInt8 × Int:=if (m.write limit).2=7 then m.less.write limit else m.write limit
theorem bor_le(a b:Int):0<=Go.bits BinOp.or IntKind.u16 a b/\Go.bits BinOp.or IntKind.u16 a b<=65535:=by
 unfold Go.bits
 generalize BitVec.ofInt IntKind.u16.bits a=x
 show 0<=IntKind.u16.wrap _/\IntKind.u16.wrap _<=65535
 rw[IntKind.wrap_u16]
 omega
structure FtSt where
 i:Nat
set_option maxRecDepth 100000 in
theorem fit_ok(m:Msg)(hm:m.Ok)(limit:Int)(hlim : -9223372036854775808<=limit/\limit<=9223372036854775807)(he:m.extra.length<=1000000):FnOk Tryz.prog 65 [.agg m.cells,.d (.int .i64 limit)] (.tup [.d (.str (m.fit limit).1),.d (.int .i64 (m.fit limit).2)]):=by
 refine qi (TT:=TT) (IN:=qa []) qd qc mixed 1000 Tryz.func65 rfl (qb Tryz.func65 (by kernel_rfl) rfl) rfl 49 (by kernel_rfl) ?_
 conv=>whnf
 refine oD (qm5 m hm limit hlim) rfl rfl ?_
 conv=>whnf
 refine⟨fun h1=>?_,fun h1=>?_⟩
 ·have h1:(m.write limit).2≠7:=by simpa using h1
  have e:m.fit limit=m.write limit:=by unfold Msg.fit;rw[if_neg h1]
  rw[e]
  conv=>whnf
  exact⟨rfl,rfl,True.intro⟩
 have h1:(m.write limit).2=7:=by simpa using h1
 have e:m.fit limit=m.less.write limit:=by unfold Msg.fit;rw[if_pos h1]
 rw[e]
 conv=>whnf
 refine .nilC 1 5 179 5 (fun _=>[]) _ _ _ _ rfl rfl ?_
 refine .nilC 1 3 179 5 (fun _=>[]) _ _ _ _ rfl rfl ?_
 refine .nilC 1 4 179 5 (fun _=>[]) _ _ _ _ rfl rfl ?_
 refine .inv FtSt (fun s=>s.i<=m.extra.length) (fun s=>[(32,.d (.int .i64 s.i))]) (fun s=>[(1,.cells 83 [.d (.int .u16 m.id),.d (.int .u16 (Go.bits BinOp.or IntKind.u16 m.bits 512)),.d (qsD m.za m.asks),.all 3,.all 4,.all 2]),(2,.row 179 5 (opts (m.extra.take s.i)).length .iff (fun j=>((opts (m.extra.take s.i)).getD j default).enc))]) (fun s=>m.extra.length - s.i) ⟨⟨0⟩,[0,1,2,3,4],Nat.zero_le _,?_⟩ ?_
 ·conv=>whnf
  repeat'(first|exact ⟨⟩|exact rfl|(intro i hi;exact absurd hi (Nat.not_lt_zero _))|apply And.intro)
 intro s hs
 conv=>whnf
 generalize s.i=i at hs ⊢
 refine⟨fun c5=>?_,fun c5=>?_⟩
 ·have c5':i<m.extra.length:=(by have h:(i:Int)<m.extra.length:=of_decide_eq_true c5;omega)
  conv=>whnf
  refine⟨by omega,?_⟩
  obtain⟨q,hq⟩:∃ q,m.extra.getD i default=q:=⟨_,rfl⟩
  have htk:m.extra.take (i+1)=m.extra.take i++[q]:=by
   rw[List.take_add_one,List.getElem?_eq_getElem c5',<-hq,List.getD,List.getElem?_eq_getElem c5']
   rfl
  have hw:=w64s i (by omega)
  have hol:(opts (m.extra.take i)).length<=i:=Nat.le_trans (List.length_filter_le _ _) (by rw[List.length_take];omega)
  conv=>whnf
  rw[Int.toNat_natCast,hq]
  refine⟨fun h2=>?_,fun h2=>?_⟩
  ·have h2:(q.ty == 41)=true:=h2
   have ho:opts (m.extra.take (i+1))=opts (m.extra.take i)++[q]:=by
    rw[htk]
    unfold opts
    rw[List.filter_append,List.filter_cons,if_pos h2]
    rfl
   conv=>whnf
   refine⟨by omega,?_⟩
   conv=>whnf
   refine⟨⟨i+1⟩,[0,1,7,3,4],c5',by show m.extra.length - (i+1)<m.extra.length - i;omega,?_⟩
   conv=>whnf
   rw[hw]
   repeat'(first|exact ⟨⟩|exact rfl|apply And.intro)
   all_goals try exact fun _ _=>rfl
   ·rw[ho,List.length_append]
    rfl
   all_goals try exact fun _ _=>rfl
   ·intro j hj
    show catF _ _ _ j=((opts (m.extra.take (i+1))).getD j default).enc
    rw[ho]
    exact rr_cat _ q j hj
  ·have h2:(q.ty == 41)=false:=h2
   have ho:opts (m.extra.take (i+1))=opts (m.extra.take i):=by
    rw[htk]
    unfold opts
    rw[List.filter_append,List.filter_cons,if_neg (by rw[h2];simp)]
    exact List.append_nil _
   conv=>whnf
   refine⟨⟨i+1⟩,[0,1,2,3,4],c5',by show m.extra.length - (i+1)<m.extra.length - i;omega,?_⟩
   conv=>whnf
   rw[hw]
   repeat'(first|exact ⟨⟩|exact rfl|apply And.intro)
   ·show(opts (m.extra.take i)).length=(opts (m.extra.take (i+1))).length
    rw[ho]
   all_goals try exact fun _ _=>rfl
   ·intro j hj
    show((opts (m.extra.take i)).getD j default).enc=((opts (m.extra.take (i+1))).getD j default).enc
    rw[ho]
 have hie:i=m.extra.length:=(by have h:¬ (i:Int)<m.extra.length:=of_decide_eq_false c5;omega)
 rw[hie,List.take_of_length_le (Nat.le_refl _)]
 have hmo:m.less.Ok:=⟨hm.id,bor_le _ _,hm.asks,fun r hr=>absurd hr (by show r ∉ [];simp),fun r hr=>absurd hr (by show r ∉ [];simp),fun r hr=>hm.extra r (List.mem_filter.1 hr).1,hm.len⟩
 conv=>whnf
 refine .one (.look (.tup [.d (.str (m.less.write limit).1),.d (.int .i64 (m.less.write limit).2)]) ?_ rfl ?_)
 ·conv=>whnf
  refine⟨(qm5 m.less hmo limit hlim).convA ⟨AEq.aggL ⟨.refl _,.refl _,.refl _,AEq.row (fun i hi=>absurd hi (Nat.not_lt_zero _)),AEq.row (fun i hi=>absurd hi (Nat.not_lt_zero _)),.refl _,True.intro⟩,.refl _,True.intro⟩,rfl⟩
 conv=>whnf
 exact⟨rfl,rfl,True.intro⟩
def smM(id bits:Int)(za:Bool)(q:Q)(o:Option RR):Msg:=⟨id,bits,za,[q],true,[],true,[],o.isNone,o.toList⟩
theorem room_head{w:Wr}(m:Msg)(f0:w.full=false)(h0:(12:Int)<=w.limit - w.buf.length):Room w (w.head m) 12:=by
 unfold Wr.head
 have q1:=z7 (x:=m.id) f0 (by omega)
 have q2:=yf q1 (z7 (x:=m.bits) q1.1 (by rw[q1.2.1];have:=q1.2.2;omega))
 have q3:=yf q2 (z7 (x:=(m.asks.length:Int)) q2.1 (by rw[q2.2.1];have:=q2.2.2;omega))
 have q4:=yf q3 (z7 (x:=(m.says.length:Int)) q3.1 (by rw[q3.2.1];have:=q3.2.2;omega))
 have q5:=yf q4 (z7 (x:=(m.heads.length:Int)) q4.1 (by rw[q4.2.1];have:=q4.2.2;omega))
 exact yf q5 (z7 (x:=(m.extra.length:Int)) q5.1 (by rw[q5.2.1];have:=q5.2.2;omega))
theorem room_num4{w:Wr}{x:Int}(hf:w.full=false)(h:(4:Int)<=w.limit - w.buf.length):Room w (w.num 4 x) 4:=qa9 (s:=be 4 x) hf h
theorem room_nm{w:Wr}{n:List UInt8}(h:qq n)(f1:w.full=false)(hl:(n.length:Int)<=w.limit - w.buf.length):Room w (w.name n true) n.length:=by
 unfold Wr.name
 rw[if_neg (by
  rintro (h1|h1);· rw [f1] at h1;cases h1
  ·exact h1 h)]
 exact qs3 _ _ _ f1 hl
theorem room_set{a b:Wr}{n:Nat}(h:Room a b n)(i x:Int):Room a (b.set i x) n:=by
 unfold Wr.set
 split
 ·exact h
 ·exact⟨h.1,h.2.1,by show(two b.buf i.toNat _ _).length<=_;rw[two_len _ _ _ _ (by omega)];exact h.2.2⟩
theorem root_name:qq [0]:=of_decide_eq_true (by kernel_rfl)
theorem room_opt{w:Wr}{r:RR}(hc:r.check=true)(hn:r.nm=[0])(ht:r.ty=41)(hf:w.full=false)(hl:(11+r.d.length:Int)<=w.limit - w.buf.length):Room w (w.record r).1 (11+r.d.length):=by
 have hr:jx 41 r.d=true:=by
  unfold RR.check at hc
  rw [ht] at hc
  simp only [Bool.and_eq_true] at hc
  exact hc.1.2
 have hlk:j1 41 r.d=none:=by unfold j1;rw[show jw 41=none by rfl];split <;> rfl
 unfold Wr.record
 rw[if_pos hc,hn,ht]
 dsimp only
 unfold Wr.rdata
 rw[if_pos hr,hlk]
 apply room_set
 have q1:=room_nm root_name hf (by show(1:Int)<=_;omega)
 have q2:=yf q1 (z7 (x:=41) q1.1 (by rw[q1.2.1];have h:_<=w.buf.length+1:=q1.2.2;omega))
 have q3:=yf q2 (z7 (x:=r.cl) q2.1 (by rw[q2.2.1];have h:_<=w.buf.length+3:=q2.2.2;omega))
 have q4:=yf q3 (room_num4 (x:=r.ttl) q3.1 (by rw[q3.2.1];have h:_<=w.buf.length+5:=q3.2.2;omega))
 have q5:=yf q4 (z7 (x:=0) q4.1 (by rw[q4.2.1];have h:_<=w.buf.length+9:=q4.2.2;omega))
 have q6:=yf q5 (qa9 (s:=r.d) q5.1 (by rw[q5.2.1];have h:_<=w.buf.length+11:=q5.2.2;omega))
 exact qf2 q6 (by show 1+2+2+4+2+r.d.length<=_;omega)
structure SmR(r:RR):Prop where
 nm:r.nm=[0]
 ty:r.ty=41
 ok:r.Ok
 len:r.d.length<=28
theorem SmR.check{r:RR}(h:SmR r):r.check=true:=by
 unfold RR.check
 rw[h.nm,h.ty]
 have:jx 41 r.d=true:=by
  unfold jx
  rw[decide_eq_true (by have:=h.len;omega)]
  rfl
 rw[this,decide_eq_true root_name]
 simp
theorem sm_law(id bits:Int)(hid:0<=id/\id<=65535)(hb:0<=bits/\bits<=65535)(za:Bool)(q:Q)(hq:q.Ok)(hn:qq q.nm)(o:Option RR)(ho:∀ r,o=some r->SmR r) :
 ∃ b,(smM id bits za q o).fit 512=(b,0)/\(smM id bits za q o).write 512=(b,0)/\(b.length<=55+q.nm.length/\b.length<=512)/\Msg.read b=(Msg.of id bits [q] [] [] o.toList,0):=by
 have hm:∀ r ∈ o.toList,SmR r:=fun r hr=>ho r (by simpa using hr)
 have hok:(smM id bits za q o).Ok:=⟨hid,hb,fun x hx=>(by rw[List.mem_singleton.1 hx];exact hq),fun r hr=>(by cases hr),fun r hr=>(by cases hr),fun r hr=>(hm r hr).ok,by show 1<_;decide⟩
 have hck:(smM id bits za q o).check=true:=by
  unfold Msg.check smM
  have:o.toList.length<=1:=by cases o <;> simp
  have h2:o.toList.all RR.check=true:=List.all_eq_true.2 fun r hr=>(hm r hr).check
  simp[hn]
  exact⟨by omega,by simpa using h2⟩
 have hnl:=hn.2.1
 have hl:lm 512=512:=by decide
 have hroom:Room (Wr.mk [] 512 false []) ((smM id bits za q o).last 512) (55+q.nm.length):=by
  unfold Msg.last
  rw[hl]
  have g0:(Wr.mk [] 512 false []).limit - ((Wr.mk [] 512 false []).buf.length:Int)=512:=by decide
  have f0:(Wr.mk [] 512 false []).full=false:=rfl
  generalize Wr.mk [] 512 false []=w at g0 f0 ⊢
  have q1:=room_head (smM id bits za q o) f0 (by omega)
  have q2:=yf q1 (room_nm hn q1.1 (by rw[q1.2.1];have:=q1.2.2;omega))
  have q3:=yf q2 (z7 (x:=q.ty) q2.1 (by rw[q2.2.1];have:=q2.2.2;omega))
  have q4:=yf q3 (z7 (x:=q.cl) q3.1 (by rw[q3.2.1];have:=q3.2.2;omega))
  cases o with
  |none=>exact qf2 q4 (by omega)
  |some r =>
   have hr:=ho r rfl
   have hrl:=hr.len
   have q5:=yf q4 (room_opt hr.check hr.nm hr.ty q4.1 (by rw[q4.2.1];have:=q4.2.2;omega))
   exact qf2 q5 (by omega)
 obtain⟨hrd,hle⟩:=msg_back hok (limit:=512) (by decide) hck hroom.1
 have hw:(smM id bits za q o).write 512=(((smM id bits za q o).last 512).buf,0):=by
  unfold Msg.write
  rw[hck,hroom.1]
  rfl
 refine⟨((smM id bits za q o).last 512).buf,?_,hw,⟨by have:=hroom.2.2;simpa using this,by omega⟩,hrd⟩
 unfold Msg.fit
 rw[hw]
 rfl
theorem opt_one(c:List UInt8)(hc:c.length<65536):Rdr.opts ([0,10]++be 2 (c.length:Int)++c).length ⟨[0,10]++be 2 (c.length:Int)++c,0,false⟩ []=some [⟨10,c⟩]:=by
 have hbl:(be 2 (c.length:Int)).length=2:=by rw[be2 _ hc];rfl
 have hdl:([0,10]++be 2 (c.length:Int)++c).length=(3+c.length)+1:=by simp[hbl];omega
 have e1:(Rdr.mk ([0,10]++be 2 (c.length:Int)++c) 0 false).raw ((2:Nat):Int)=(⟨[0,10]++be 2 (c.length:Int)++c,2,false⟩,[0,10]):=by
  have:=ux [] [0,10] (be 2 (c.length:Int)++c)
  simpa using this
 have e2:(Rdr.mk ([0,10]++be 2 (c.length:Int)++c) 2 false).raw ((2:Nat):Int)=(⟨[0,10]++be 2 (c.length:Int)++c,4,false⟩,be 2 (c.length:Int)):=by
  have:=ux [0,10] (be 2 (c.length:Int)) c
  rw [hbl] at this
  simpa[hbl] using this
 have e3:(Rdr.mk ([0,10]++be 2 (c.length:Int)++c) 4 false).raw (c.length:Int)=(⟨[0,10]++be 2 (c.length:Int)++c,4+c.length,false⟩,c):=by
  have:=ux ([0,10]++be 2 (c.length:Int)) c []
  have h4:([0,10]++be 2 (c.length:Int)).length=4:=by simp[hbl]
  have h5:([0,10]++be 2 (c.length:Int)++c).length=4+c.length:=by omega
  rw [List.append_nil,h4,h5] at this
  exact this
 generalize [0,10]++be 2 (c.length:Int)++c=d at hdl e1 e2 e3 ⊢
 have hn10:IntKind.u16.wrap ((j3 [0,10]:Nat):Int)=10:=by decide
 have hw:IntKind.i64.wrap ((c.length:Nat):Int)=c.length:=ql _ (by omega)
 have eo:(Rdr.mk d 0 false).opt=(⟨d,4+c.length,false⟩,⟨10,c⟩):=by
  unfold Rdr.opt Rdr.num
  rw[e1]
  dsimp only
  rw[e2]
  dsimp only
  rw[if_neg (by decide),if_neg (by decide),numOf2 _ hc,hw,e3,hn10]
 rw[hdl]
 unfold Rdr.opts
 have hh:(Rdr.mk d 0 false).has=true:=by
  show(!false && decide (0<d.length))=true
  rw[decide_eq_true (by omega)]
  rfl
 rw[hh,eo]
 show Rdr.opts (3+c.length) ⟨d,4+c.length,false⟩ [⟨10,c⟩]=_
 refine Rdr.opts_end ?_
 show(!false && decide (4+c.length<d.length))=false
 rw[decide_eq_false (by omega)]
 rfl
theorem sm_get(id bits:Int)(q:Q)(o:Option RR)(ho:∀ r,o=some r->SmR r):(Msg.of id bits [q] [] [] o.toList).get=match o with
 |none=>(Ed.no,0)
 |some r=>k8 r:=by
 cases o with
 |none=>rfl
 |some r =>
  have hr:=ho r rfl
  have e1:optI (Msg.of id bits [q] [] [] [r]).says = -1:=rfl
  have e2:optI (Msg.of id bits [q] [] [] [r]).heads = -1:=rfl
  have e3:optI (Msg.of id bits [q] [] [] [r]).extra=0:=qi0 (l:=[r]) (i:=0) (a:=r) rfl (by rw[hr.ty];rfl) (fun x hx=>by cases hx)
  have e4:optI ((Msg.of id bits [q] [] [] [r]).extra.drop 1) = -1:=rfl
  show(Msg.of id bits [q] [] [] [r]).get=k8 r
  unfold Msg.get
  rw[e1,e2,e3,if_neg (by decide),if_neg (by decide)]
  show(if 0<=optI ((Msg.of id bits [q] [] [] [r]).extra.drop 1) then _ else _)=_
  rw[e4,if_neg (by decide)]
  rfl
theorem qq9(a b:List UInt8)(h:jb a b=true):yt [⟨10,a++b⟩]=(a,b,0):=by
 have h8:a.length=8:=by
  unfold jb at h
  simp only [Bool.and_eq_true,beq_iff_eq] at h
  exact h.1
 have e:idxI (fun o:Opt=>o.code == 10) [⟨10,a++b⟩]=0:=qi0 (l:=[Opt.mk 10 (a++b)]) (i:=0) rfl rfl (fun x hx=>by cases hx)
 unfold yt
 rw[e,if_neg (by decide)]
 show qn1 (a++b)=_
 unfold qn1
 rw[List.take_left' h8,List.drop_left' h8,if_pos h]
theorem oclone_nil(sz:Nat)(f:Nat->List DV):FnOk Tryz.prog 93 [.d (.sl true 0 sz f)] nilS:=by
 refine qi (TT:=TT) (IN:=qa []) qd qc mixed 1000 Tryz.func93 rfl (qb Tryz.func93 (by kernel_rfl) rfl) rfl 7 (by kernel_rfl) ?_
 conv=>whnf
 refine⟨fun _=>?_,fun h1=>nomatch h1⟩
 conv=>whnf
 repeat'(first|exact ⟨⟩|exact rfl|exact .inr rfl|exact .inl rfl|exact fun _ _=>rfl|exact noI|apply And.intro)
theorem jb8(sz:Nat)(f:Nat->List DV):FnOk Tryz.prog 95 [.d (.sl true 0 sz f)] nilS:=by
 refine qi (TT:=TT) (IN:=qa []) qd qc mixed 1000 Tryz.func95 rfl (qb Tryz.func95 (by kernel_rfl) rfl) rfl 7 (by kernel_rfl) ?_
 conv=>whnf
 refine⟨fun _=>?_,fun h1=>nomatch h1⟩
 conv=>whnf
 repeat'(first|exact ⟨⟩|exact rfl|exact .inr rfl|exact .inl rfl|exact fun _ _=>rfl|exact noI|apply And.intro)
theorem rclone_ok(y:Bool)(a:List RR)(h:y=true->a=[])(ha:a.length<=1000000):FnOk Tryz.prog 95 [.d (rrsD y a)] (.d (rrsD y a)):=by
 refine qi (TT:=TT) (IN:=qa []) qd qc mixed 1000 Tryz.func95 rfl (qb Tryz.func95 (by kernel_rfl) rfl) rfl 7 (by kernel_rfl) ?_
 conv=>whnf
 refine⟨fun h1=>?_,fun h1=>?_⟩
 ·have h1:y=true:=h1
  rw[h h1,h1]
  conv=>whnf
  exact⟨rfl,rfl,.inl rfl,fun i hi=>absurd hi (Nat.not_lt_zero _)⟩
 ·have h1:y=false:=h1
  rw[h1]
  conv=>whnf
  refine⟨by omega,?_⟩
  conv=>whnf
  refine⟨rfl,Nat.zero_add _,.inr rfl,fun i hi=>?_⟩
  unfold catF
  rw[if_neg (Nat.not_lt_zero _),Nat.sub_zero]
theorem odel_nil:FnOk Tryz.prog 92 [nilS,codedV 10] nilS:=by
 refine qi (TT:=TT) (IN:=qa []) qd qc mixed 1000 Tryz.func92 rfl (qb Tryz.func92 (by kernel_rfl) rfl) rfl 40 (by kernel_rfl) ?_
 conv=>whnf
 refine .one (.data (.d (.int .i64 (-1))) ((oindex_ok true [] 10 (by decide)).convA ⟨.none _ _ _ _ _,.refl _,True.intro⟩) rfl rfl ?_)
 conv=>whnf
 refine brT rfl ?_
 conv=>whnf
 repeat'(first|exact ⟨⟩|exact rfl|exact .inr rfl|exact .inl rfl|exact fun _ _=>rfl|exact noI|apply And.intro)
theorem rdel_nil:FnOk Tryz.prog 96 [nilS,typedV 41] nilS:=by
 refine qi (TT:=TT) (IN:=qa []) qd qc mixed 1000 Tryz.func96 rfl (qb Tryz.func96 (by kernel_rfl) rfl) rfl 40 (by kernel_rfl) ?_
 conv=>whnf
 refine .one (.data (.d (.int .i64 (-1))) ((qs4 true [] 41 (by decide)).convA ⟨.none _ _ _ _ _,.refl _,True.intro⟩) rfl rfl ?_)
 conv=>whnf
 refine brT rfl ?_
 conv=>whnf
 repeat'(first|exact ⟨⟩|exact rfl|exact .inr rfl|exact .inl rfl|exact fun _ _=>rfl|exact noI|apply And.intro)
theorem qb0{a b:List UInt8}(h:jb a b=true):a.length=8/\b.length<=32:=by
 unfold jb at h
 simp only [Bool.and_eq_true,Bool.or_eq_true,decide_eq_true_eq,beq_iff_eq] at h
 obtain⟨h1,h2|h2⟩:=h
 ·exact⟨h1,by rw[h2];exact Nat.zero_le _⟩
 ·exact⟨h1,h2.2⟩
def withC(size high ver flags:Int)(a b:List UInt8):Ed:=⟨true,size,high,ver,flags,false,[⟨10,a++b⟩]⟩
theorem qi3(th:DV)(size high ver flags:Int)(a b:List UInt8)(h:jb a b=true):FnOk Tryz.prog 35 [.agg [.d th,.d (.int .u16 size),.d (.int .u8 high),.d (.int .u8 ver),.d (.int .u16 flags),nilS],.d (.str a),.d (.str b)] (.tup [.agg (withC size high ver flags a b).cells,.d (.int .i64 0)]):=by
 refine qi (TT:=TT) (IN:=qa []) qd qc mixed 1000 Tryz.func35 rfl (qb Tryz.func35 (by kernel_rfl) rfl) rfl 29 (by kernel_rfl) ?_
 conv=>whnf
 have hr:=qu3 a b
 rw [h] at hr
 refine oD hr rfl rfl ?_
 conv=>whnf
 refine brF rfl ?_
 conv=>whnf
 refine oD (oclone_nil 0 _) rfl rfl ?_
 conv=>whnf
 refine oD (coded_ok 10) rfl rfl ?_
 conv=>whnf
 refine oD odel_nil rfl rfl ?_
 conv=>whnf
 have hab:=qb0 h
 refine⟨by show a.length+b.length<=9223372036854775807;omega,?_⟩
 conv=>whnf
 refine⟨by decide,?_⟩
 conv=>whnf
 repeat'(first|exact ⟨⟩|exact rfl|exact .inr rfl|exact .inl rfl|exact fun _ _=>rfl|exact noI|apply And.intro)
 try exact .inr rfl
 ·intro i hi
  match i,hi with
  |0,_=>rfl
  |i+1,h=>exact absurd h (by omega)
theorem with_no(th:DV)(size high ver flags:Int)(a b:List UInt8)(h:jb a b=false):FnOk Tryz.prog 35 [.agg [.d th,.d (.int .u16 size),.d (.int .u8 high),.d (.int .u8 ver),.d (.int .u16 flags),nilS],.d (.str a),.d (.str b)] (.tup [.agg Ed.no.cells,.d (.int .i64 2)]):=by
 refine qi (TT:=TT) (IN:=qa []) qd qc mixed 1000 Tryz.func35 rfl (qb Tryz.func35 (by kernel_rfl) rfl) rfl 29 (by kernel_rfl) ?_
 conv=>whnf
 have hr:=qu3 a b
 rw [h] at hr
 refine oD hr rfl rfl ?_
 conv=>whnf
 refine brT rfl ?_
 conv=>whnf
 repeat'(first|exact ⟨⟩|exact rfl|exact .inr rfl|exact .inl rfl|exact fun _ _=>rfl|exact noI|apply And.intro)
def optB(c:List UInt8):List UInt8:=[0,10]++be 2 (c.length:Int)++c
theorem d0ok:(Wr.mk [] 4096 false []).Ok:=⟨by decide,by decide,.inl rfl,fun e he=>by cases he⟩
theorem qj3(size high ver flags:Int)(c:List UInt8)(hc:c.length<=4000):FnOk Tryz.prog 94 [.agg (Ed.mk true size high ver flags false [⟨10,c⟩]).cells] (.tup [.d (.str (optB c)),.d .tt]):=by
 refine qi (TT:=TT) (IN:=qa []) qd qc mixed 1000 Tryz.func94 rfl (qb Tryz.func94 (by kernel_rfl) rfl) rfl 46 (by kernel_rfl) ?_
 conv=>whnf
 refine⟨fun h=>(nomatch h),fun _=>?_⟩
 conv=>whnf
 refine .rel _ (vt (fun _=>rfl) (qf1 4096) [_] (fun _=>rfl)) (fun r ks' hR=>?_)
 obtain⟨rfl,rfl⟩:=hR
 have hok:=d0ok
 conv=>whnf
 refine .once ?_
 conv=>whnf
 refine⟨fun _=>?_,fun h=>(nomatch h)⟩
 conv=>whnf
 refine⟨⟨Int.le_refl 0,show(0:Int)<((1:Nat):Int) by decide⟩,?_⟩
 conv=>whnf
 refine .rel _ (COk.thing Wr.fl (yk _ hok 2 (.inr (.inl rfl)) (IntKind.u64.wrap 10)) [_] [_] _ rfl rfl) (fun x ks' hR=>?_)
 obtain⟨_,wq,⟨rfl,rfl⟩,rfl,rfl⟩:=hR
 have hok:=hok.num 2 (IntKind.u64.wrap 10)
 conv=>whnf
 refine .rel _ (COk.thing Wr.fl (yk _ hok 2 (.inr (.inl rfl)) (IntKind.u64.wrap (c.length:Int))) [_] [_] _ rfl rfl) (fun x ks' hR=>?_)
 obtain⟨_,wq,⟨rfl,rfl⟩,rfl,rfl⟩:=hR
 have hok:=hok.num 2 (IntKind.u64.wrap (c.length:Int))
 conv=>whnf
 refine .rel _ (COk.thing Wr.fl (qc1 _ hok c (by omega)) [_] [_] _ rfl rfl) (fun x ks' hR=>?_)
 obtain⟨_,wq,⟨rfl,rfl⟩,rfl,rfl⟩:=hR
 conv=>whnf
 refine .once ?_
 conv=>whnf
 refine⟨fun h=>(nomatch h),fun _=>?_⟩
 conv=>whnf
 refine .rel _ (COk.thing Wr.fl (qg1 _) [_] [_] _ rfl rfl) (fun x ks' hR=>?_)
 obtain⟨_,wq,⟨rfl,rfl⟩,rfl,rfl⟩:=hR
 have hw:IntKind.u64.wrap (c.length:Int)=c.length:=by rw[IntKind.wrap_u64];omega
 have e:(((Wr.mk [] 4096 false []).num 2 (IntKind.u64.wrap 10)).num 2 (IntKind.u64.wrap (c.length:Int))).piece c=⟨optB c,4096,false,[]⟩:=by
  rw[hw]
  have e1:(Wr.mk [] 4096 false []).num 2 (IntKind.u64.wrap 10)=⟨[0,10],4096,false,[]⟩:=rfl
  have hbl:(be 2 (c.length:Int)).length=2:=rfl
  have e2:(Wr.mk [0,10] 4096 false []).num 2 (c.length:Int)=⟨[0,10]++be 2 (c.length:Int),4096,false,[]⟩:=uv rfl (by show((be 2 (c.length:Int)).length:Int)<=4096 - 2;rw[hbl];decide)
  have e3:(Wr.mk ([0,10]++be 2 (c.length:Int)) 4096 false []).piece c=⟨optB c,4096,false,[]⟩:=uv rfl (by show(c.length:Int)<=4096 - (([0,10]++be 2 (c.length:Int)).length:Int);rw[List.length_append,hbl];show(c.length:Int)<=4096 - ((2+2:Nat):Int);omega)
  rw[e1,e2,e3]
 rw[e]
 conv=>whnf
 exact⟨rfl,rfl,True.intro⟩
theorem qt3(size high ver flags:Int):FnOk Tryz.prog 94 [.agg [.d .tt,.d (.int .u16 size),.d (.int .u8 high),.d (.int .u8 ver),.d (.int .u16 flags),nilS]] (.tup [.d (.str []),.d .tt]):=by
 refine qi (TT:=TT) (IN:=qa []) qd qc mixed 1000 Tryz.func94 rfl (qb Tryz.func94 (by kernel_rfl) rfl) rfl 46 (by kernel_rfl) ?_
 conv=>whnf
 repeat(first|(refine brF rfl ?_;conv=>whnf)|(refine brT rfl ?_;conv=>whnf))
 refine .rel _ (vt (fun _=>rfl) (qf1 4096) [_] (fun _=>rfl)) (fun r ks' hR=>?_)
 obtain⟨rfl,rfl⟩:=hR
 conv=>whnf
 repeat(first|(refine brT rfl ?_;conv=>whnf)|(refine brF rfl ?_;conv=>whnf)|(refine .once ?_;conv=>whnf)|(refine⟨by decide,?_⟩;conv=>whnf)|(refine And.intro (Nat.le_of_ble_eq_true rfl) ?_;conv=>whnf))
 refine .rel _ (COk.thing Wr.fl (qg1 _) [_] [] _ rfl rfl) (fun x ks' hR=>?_)
 obtain⟨_,wq,⟨rfl,rfl⟩,rfl,rfl⟩:=hR
 conv=>whnf
 exact⟨rfl,rfl,True.intro⟩
def ttlF(high ver flags:Int):Int:=Go.bits BinOp.or IntKind.u32 (Go.bits BinOp.or IntKind.u32 (IntKind.u32.wrap (IntKind.u32.wrap high * 2 ^ 24)) (IntKind.u32.wrap (IntKind.u32.wrap ver * 2 ^ 16))) (IntKind.u32.wrap flags)
theorem qk1(id bits:Int)(za:Bool)(asks:List Q)(zs:Bool)(says:List RR)(hza:za=true->asks=[])(hal:asks.length<=1000000)(hzs:zs=true->says=[])(hsl:says.length<=1000000)(th:DV)(hth:th = .tt\/th = .bool true)(size high ver flags:Int)(os:DV)(d:List UInt8)
 (hd:FnOk Tryz.prog 94 [.agg [.d th,.d (.int .u16 size),.d (.int .u8 high),.d (.int .u8 ver),.d (.int .u16 flags),.d os]] (.tup [.d (.str d),.d .tt])) :
 FnOk Tryz.prog 36 [.agg (Msg.mk id bits za asks zs says true [] true []).cells,.agg [.d th,.d (.int .u16 size),.d (.int .u8 high),.d (.int .u8 ver),.d (.int .u16 flags),.d os]] (.tup [.agg (Msg.mk id bits za asks zs says true [] false [⟨[0],41,size,ttlF high ver flags,d⟩]).cells,.d (.int .i64 0)]):=by
 refine qi (TT:=TT) (IN:=qa []) qd qc mixed 1000 Tryz.func36 rfl (qb Tryz.func36 (by kernel_rfl) rfl) rfl 63 (by kernel_rfl) ?_
 conv=>whnf
 refine oD hd rfl rfl ?_
 conv=>whnf
 refine .data _ (qs5 za asks hza hal) rfl rfl ?_
 conv=>whnf
 refine .data _ (rclone_ok zs says hzs hsl) rfl rfl ?_
 conv=>whnf
 refine .data _ (jb8 _ _) rfl rfl ?_
 conv=>whnf
 refine .data _ (jb8 _ _) rfl rfl ?_
 conv=>whnf
 refine .data _ (typed_ok 41) rfl rfl ?_
 conv=>whnf
 refine .data _ rdel_nil rfl rfl ?_
 rcases hth with rfl|rfl
 ·conv=>whnf
  refine⟨by decide,?_⟩
  conv=>whnf
  refine⟨by decide,?_⟩
  conv=>whnf
  refine⟨by decide,?_⟩
  conv=>whnf
  repeat'(first|exact ⟨⟩|exact rfl|exact .inr rfl|exact .inl rfl|exact fun _ _=>rfl|exact noI|apply And.intro)
  try exact .inr rfl
  ·intro i hi
   match i,hi with
   |0,_=>rfl
   |i+1,h=>exact absurd h (by omega)
 ·conv=>whnf
  refine brT rfl ?_
  conv=>whnf
  refine⟨by decide,?_⟩
  conv=>whnf
  refine⟨by decide,?_⟩
  conv=>whnf
  refine⟨by decide,?_⟩
  conv=>whnf
  repeat'(first|exact ⟨⟩|exact rfl|exact .inr rfl|exact .inl rfl|exact fun _ _=>rfl|exact noI|apply And.intro)
  try exact .inr rfl
  ·intro i hi
   match i,hi with
   |0,_=>rfl
   |i+1,h=>exact absurd h (by omega)
def codeM(m:Msg)(high:Int):Int:=Go.bits BinOp.or IntKind.i64 (IntKind.i64.wrap (IntKind.i64.wrap high * 2 ^ 4)) (IntKind.i64.wrap (Go.bits BinOp.and IntKind.u16 m.bits 15))
theorem ecode_ok(m:Msg)(e:Ed):FnOk Tryz.prog 27 [.agg m.cells,.agg e.cells] (.d (.int .i64 (codeM m e.high))):=by
 refine qi (TT:=TT) (IN:=qa []) qd qc mixed 1000 Tryz.func27 rfl (qb Tryz.func27 (by kernel_rfl) rfl) rfl 12 (by kernel_rfl) ?_
 conv=>whnf
 refine⟨by decide,?_⟩
 conv=>whnf
 try exact rfl
theorem rec0_ok:FnOk Tryz.prog 132 [.agg [.d (.str []),.d (.int .u16 0),.d (.int .u32 0),nilS]] nilS:=by
 refine qi (TT:=TT) (IN:=qa []) qd qc mixed 1000 Tryz.func132 rfl (qb Tryz.func132 (by kernel_rfl) rfl) rfl 32 (by kernel_rfl) ?_
 conv=>whnf
 have hs:=scheck_ok [] 0 0 true []
 rw [show ww [] 0 0 []=false by kernel_rfl] at hs
 refine oD (hs.convA ⟨AEq.aggL ⟨.refl _,.refl _,.refl _,.none _ _ _ _ _,True.intro⟩,True.intro⟩) rfl rfl ?_
 conv=>whnf
 repeat(first|(refine brT rfl ?_;conv=>whnf)|(refine brF rfl ?_;conv=>whnf)|(refine .once ?_;conv=>whnf)|(refine⟨by decide,?_⟩;conv=>whnf)|(refine And.intro (Nat.le_of_ble_eq_true rfl) ?_;conv=>whnf))
 repeat'(first|exact ⟨⟩|exact rfl|exact .inr rfl|exact .inl rfl|exact fun _ _=>rfl|exact noI|apply And.intro)
 all_goals exact fun _ _=>rfl
theorem qo5(id bits:Int)(za:Bool)(asks:List Q)(f:Nat->List DV)(hza:za=true->asks=[])(hal:asks.length<=1000000)(th:DV)(hth:th = .tt\/th = .bool true)(size high ver flags:Int)(os:DV)(d:List UInt8)
 (hd:FnOk Tryz.prog 94 [.agg [.d th,.d (.int .u16 size),.d (.int .u8 high),.d (.int .u8 ver),.d (.int .u16 flags),.d os]] (.tup [.d (.str d),.d .tt])) :
 FnOk Tryz.prog 36 [.agg [.d (.int .u16 id),.d (.int .u16 bits),.d (qsD za asks),.d (.sl true 0 5 f),.d (rrsD true []),.d (rrsD true [])],.agg [.d th,.d (.int .u16 size),.d (.int .u8 high),.d (.int .u8 ver),.d (.int .u16 flags),.d os]] (.tup [.agg (Msg.mk id bits za asks true [] true [] false [⟨[0],41,size,ttlF high ver flags,d⟩]).cells,.d (.int .i64 0)]) :=
 (qk1 id bits za asks true [] hza hal (fun _=>rfl) (by decide) th hth size high ver flags os d hd).convA ⟨AEq.aggL ⟨.refl _,.refl _,.refl _,.none _ _ _ _ _,.refl _,.refl _,True.intro⟩,.refl _,True.intro⟩
def j9(g:Gt):Int:=if g.kind=1 then g.code else if g.kind=2 then 23 else 0
def rplO(r:Rq)(code:Int)(cookie:List UInt8):Option RR :=
 if r.e.there then some ⟨[0],41,4096,ttlF (IntKind.u8.wrap (code.fdiv (2 ^ 4))) 0 0,if jb r.client cookie then optB (r.client++cookie) else []⟩ else none
def jk(b code:Int):Int:=Go.bits BinOp.or IntKind.u16 (Go.bits BinOp.or IntKind.u16 (Go.bits BinOp.and IntKind.u16 b 30976) (Go.bits BinOp.or IntKind.u16 32768 (IntKind.u16.wrap (Go.bits BinOp.and IntKind.i64 code 15)))) 128
def rplM(r:Rq)(code:Int)(cookie:List UInt8):Msg:=⟨r.m.id,jk r.m.bits code,r.m.za,r.m.asks,true,[],true,[],(rplO r code cookie).isNone,(rplO r code cookie).toList⟩
theorem qv7(r:Rq)(h:r.m.za=true->r.m.asks=[])(ha:r.m.asks.length<=1000000)(code:Int)(cookie:List UInt8):FnOk Tryz.prog 64 [.agg r.cells,.d (.int .i64 code),.agg [.d (.int .i64 0),nilS,.d (.str []),.d (.int .u16 0),.d (.int .u32 0),nilS],.d (.str cookie)] (.agg (rplM r code cookie).cells):=by
 refine qi (TT:=TT) (IN:=qa []) qd qc mixed 1000 Tryz.func64 rfl (qb Tryz.func64 (by kernel_rfl) rfl) rfl 78 (by kernel_rfl) ?_
 conv=>whnf
 refine oD (qu0 r h ha) rfl rfl ?_
 conv=>whnf
 refine oD (reply_ok (Msg.mk r.m.id r.m.bits r.m.za r.m.asks true [] true [] true []) code h ha) rfl rfl ?_
 conv=>whnf
 refine⟨fun h1=>?_,fun h1=>?_⟩
 ·have h1:code=0:=by simpa using h1
  conv=>whnf
  repeat(first|(refine brF rfl ?_;conv=>whnf)|(refine brT rfl ?_;conv=>whnf))
  repeat(first|(refine brT rfl ?_;conv=>whnf)|(refine brF rfl ?_;conv=>whnf)|(refine .once ?_;conv=>whnf)|(refine⟨by decide,?_⟩;conv=>whnf)|(refine And.intro (Nat.le_of_ble_eq_true rfl) ?_;conv=>whnf))
  refine .data _ rec0_ok rfl rfl ?_
  conv=>whnf
  refine⟨by decide,?_⟩
  conv=>whnf
  refine⟨fun h3=>?_,fun h3=>?_⟩
  ·have h3:r.e.there=false:=by simpa using h3
   have e:rplO r code cookie=none:=by unfold rplO;rw[h3];rfl
   unfold rplM
   rw[e]
   conv=>whnf
   repeat'(first|exact ⟨⟩|exact rfl|exact .inr rfl|exact .inl rfl|exact fun _ _=>rfl|exact noI|apply And.intro)
  have h3:r.e.there=true:=by simpa using h3
  conv=>whnf
  refine⟨by decide,?_⟩
  conv=>whnf
  cases hr:jb r.client cookie
  ·have e:rplO r code cookie=some ⟨[0],41,4096,ttlF (IntKind.u8.wrap (code.fdiv (2 ^ 4))) 0 0,[]⟩:=by unfold rplO;rw[h3,hr];rfl
   refine oD (with_no _ _ _ _ _ r.client cookie hr) rfl rfl ?_
   conv=>whnf
   repeat(first|(refine brF rfl ?_;conv=>whnf)|(refine brT rfl ?_;conv=>whnf))
   refine .one (.frz (.tup [.agg (Msg.mk r.m.id (jk r.m.bits code) r.m.za r.m.asks true [] true [] false [⟨[0],41,4096,ttlF (IntKind.u8.wrap (code.fdiv (2 ^ 4))) 0 0,[]⟩]).cells,.d (.int .i64 0)]) _ [4] (qo5 r.m.id (jk r.m.bits code) r.m.za r.m.asks _ h ha .tt (.inl rfl) 4096 (IntKind.u8.wrap (code.fdiv (2 ^ 4))) 0 0 _ [] (qt3 4096 (IntKind.u8.wrap (code.fdiv (2 ^ 4))) 0 0)) ⟨rfl,rfl⟩ rfl rfl ?_)
   conv=>whnf
   repeat(first|(refine brF rfl ?_;conv=>whnf)|(refine brT rfl ?_;conv=>whnf))
   unfold rplM
   rw[e]
   repeat'(first|exact ⟨⟩|exact rfl|exact .inr rfl|exact .inl rfl|exact fun _ _=>rfl|exact noI|apply And.intro)
  ·have e:rplO r code cookie=some ⟨[0],41,4096,ttlF (IntKind.u8.wrap (code.fdiv (2 ^ 4))) 0 0,optB (r.client++cookie)⟩:=by unfold rplO;rw[h3,hr];rfl
   have hlen:=qb0 hr
   refine oD (qi3 _ _ _ _ _ r.client cookie hr) rfl rfl ?_
   conv=>whnf
   repeat(first|(refine brF rfl ?_;conv=>whnf)|(refine brT rfl ?_;conv=>whnf))
   refine .one (.frz (.tup [.agg (Msg.mk r.m.id (jk r.m.bits code) r.m.za r.m.asks true [] true [] false [⟨[0],41,4096,ttlF (IntKind.u8.wrap (code.fdiv (2 ^ 4))) 0 0,(optB (r.client++cookie))⟩]).cells,.d (.int .i64 0)]) _ [4] (qo5 r.m.id (jk r.m.bits code) r.m.za r.m.asks _ h ha (.bool true) (.inr rfl) 4096 (IntKind.u8.wrap (code.fdiv (2 ^ 4))) 0 0 _ (optB (r.client++cookie)) (qj3 4096 (IntKind.u8.wrap (code.fdiv (2 ^ 4))) 0 0 (r.client++cookie) (by rw[List.length_append];omega))) ⟨rfl,rfl⟩ rfl rfl ?_)
   conv=>whnf
   repeat(first|(refine brF rfl ?_;conv=>whnf)|(refine brT rfl ?_;conv=>whnf))
   unfold rplM
   rw[e]
   repeat'(first|exact ⟨⟩|exact rfl|exact .inr rfl|exact .inl rfl|exact fun _ _=>rfl|exact noI|apply And.intro)
 have h1:¬ code=0:=by simpa using h1
 conv=>whnf
 refine⟨fun h2=>?_,fun h2=>?_⟩
 ·conv=>whnf
  repeat(first|(refine brT rfl ?_;conv=>whnf)|(refine brF rfl ?_;conv=>whnf)|(refine .once ?_;conv=>whnf)|(refine⟨by decide,?_⟩;conv=>whnf)|(refine And.intro (Nat.le_of_ble_eq_true rfl) ?_;conv=>whnf))
  refine .data _ rec0_ok rfl rfl ?_
  conv=>whnf
  refine⟨by decide,?_⟩
  conv=>whnf
  refine⟨fun h3=>?_,fun h3=>?_⟩
  ·have h3:r.e.there=false:=by simpa using h3
   have e:rplO r code cookie=none:=by unfold rplO;rw[h3];rfl
   unfold rplM
   rw[e]
   conv=>whnf
   repeat'(first|exact ⟨⟩|exact rfl|exact .inr rfl|exact .inl rfl|exact fun _ _=>rfl|exact noI|apply And.intro)
  have h3:r.e.there=true:=by simpa using h3
  conv=>whnf
  refine⟨by decide,?_⟩
  conv=>whnf
  cases hr:jb r.client cookie
  ·have e:rplO r code cookie=some ⟨[0],41,4096,ttlF (IntKind.u8.wrap (code.fdiv (2 ^ 4))) 0 0,[]⟩:=by unfold rplO;rw[h3,hr];rfl
   refine oD (with_no _ _ _ _ _ r.client cookie hr) rfl rfl ?_
   conv=>whnf
   repeat(first|(refine brF rfl ?_;conv=>whnf)|(refine brT rfl ?_;conv=>whnf))
   refine .one (.frz (.tup [.agg (Msg.mk r.m.id (jk r.m.bits code) r.m.za r.m.asks true [] true [] false [⟨[0],41,4096,ttlF (IntKind.u8.wrap (code.fdiv (2 ^ 4))) 0 0,[]⟩]).cells,.d (.int .i64 0)]) _ [4] (qo5 r.m.id (jk r.m.bits code) r.m.za r.m.asks _ h ha .tt (.inl rfl) 4096 (IntKind.u8.wrap (code.fdiv (2 ^ 4))) 0 0 _ [] (qt3 4096 (IntKind.u8.wrap (code.fdiv (2 ^ 4))) 0 0)) ⟨rfl,rfl⟩ rfl rfl ?_)
   conv=>whnf
   repeat(first|(refine brF rfl ?_;conv=>whnf)|(refine brT rfl ?_;conv=>whnf))
   unfold rplM
   rw[e]
   repeat'(first|exact ⟨⟩|exact rfl|exact .inr rfl|exact .inl rfl|exact fun _ _=>rfl|exact noI|apply And.intro)
  ·have e:rplO r code cookie=some ⟨[0],41,4096,ttlF (IntKind.u8.wrap (code.fdiv (2 ^ 4))) 0 0,optB (r.client++cookie)⟩:=by unfold rplO;rw[h3,hr];rfl
   have hlen:=qb0 hr
   refine oD (qi3 _ _ _ _ _ r.client cookie hr) rfl rfl ?_
   conv=>whnf
   repeat(first|(refine brF rfl ?_;conv=>whnf)|(refine brT rfl ?_;conv=>whnf))
   refine .one (.frz (.tup [.agg (Msg.mk r.m.id (jk r.m.bits code) r.m.za r.m.asks true [] true [] false [⟨[0],41,4096,ttlF (IntKind.u8.wrap (code.fdiv (2 ^ 4))) 0 0,(optB (r.client++cookie))⟩]).cells,.d (.int .i64 0)]) _ [4] (qo5 r.m.id (jk r.m.bits code) r.m.za r.m.asks _ h ha (.bool true) (.inr rfl) 4096 (IntKind.u8.wrap (code.fdiv (2 ^ 4))) 0 0 _ (optB (r.client++cookie)) (qj3 4096 (IntKind.u8.wrap (code.fdiv (2 ^ 4))) 0 0 (r.client++cookie) (by rw[List.length_append];omega))) ⟨rfl,rfl⟩ rfl rfl ?_)
   conv=>whnf
   repeat(first|(refine brF rfl ?_;conv=>whnf)|(refine brT rfl ?_;conv=>whnf))
   unfold rplM
   rw[e]
   repeat'(first|exact ⟨⟩|exact rfl|exact .inr rfl|exact .inl rfl|exact fun _ _=>rfl|exact noI|apply And.intro)
 conv=>whnf
 refine⟨fun h3=>?_,fun h3=>?_⟩
 ·have h3:r.e.there=false:=by simpa using h3
  have e:rplO r code cookie=none:=by unfold rplO;rw[h3];rfl
  unfold rplM
  rw[e]
  conv=>whnf
  repeat'(first|exact ⟨⟩|exact rfl|exact .inr rfl|exact .inl rfl|exact fun _ _=>rfl|exact noI|apply And.intro)
 have h3:r.e.there=true:=by simpa using h3
 conv=>whnf
 refine⟨by decide,?_⟩
 conv=>whnf
 cases hr:jb r.client cookie
 ·have e:rplO r code cookie=some ⟨[0],41,4096,ttlF (IntKind.u8.wrap (code.fdiv (2 ^ 4))) 0 0,[]⟩:=by unfold rplO;rw[h3,hr];rfl
  refine oD (with_no _ _ _ _ _ r.client cookie hr) rfl rfl ?_
  conv=>whnf
  repeat(first|(refine brF rfl ?_;conv=>whnf)|(refine brT rfl ?_;conv=>whnf))
  refine oD (qk1 r.m.id (jk r.m.bits code) r.m.za r.m.asks true [] h ha (fun _=>rfl) (by decide) .tt (.inl rfl) 4096 (IntKind.u8.wrap (code.fdiv (2 ^ 4))) 0 0 _ [] (qt3 4096 (IntKind.u8.wrap (code.fdiv (2 ^ 4))) 0 0)) rfl rfl ?_
  conv=>whnf
  repeat(first|(refine brF rfl ?_;conv=>whnf)|(refine brT rfl ?_;conv=>whnf))
  unfold rplM
  rw[e]
  repeat'(first|exact ⟨⟩|exact rfl|exact .inr rfl|exact .inl rfl|exact fun _ _=>rfl|exact noI|apply And.intro)
 ·have e:rplO r code cookie=some ⟨[0],41,4096,ttlF (IntKind.u8.wrap (code.fdiv (2 ^ 4))) 0 0,optB (r.client++cookie)⟩:=by unfold rplO;rw[h3,hr];rfl
  have hlen:=qb0 hr
  refine oD (qi3 _ _ _ _ _ r.client cookie hr) rfl rfl ?_
  conv=>whnf
  repeat(first|(refine brF rfl ?_;conv=>whnf)|(refine brT rfl ?_;conv=>whnf))
  refine oD (qk1 r.m.id (jk r.m.bits code) r.m.za r.m.asks true [] h ha (fun _=>rfl) (by decide) (.bool true) (.inr rfl) 4096 (IntKind.u8.wrap (code.fdiv (2 ^ 4))) 0 0 _ (optB (r.client++cookie)) (qj3 4096 (IntKind.u8.wrap (code.fdiv (2 ^ 4))) 0 0 (r.client++cookie) (by rw[List.length_append];omega))) rfl rfl ?_
  conv=>whnf
  repeat(first|(refine brF rfl ?_;conv=>whnf)|(refine brT rfl ?_;conv=>whnf))
  unfold rplM
  rw[e]
  repeat'(first|exact ⟨⟩|exact rfl|exact .inr rfl|exact .inl rfl|exact fun _ _=>rfl|exact noI|apply And.intro)
def smG(r:Rq)(g:Gt):Msg:=⟨r.m.id,Go.bits BinOp.or IntKind.u16 (jk r.m.bits (j9 g)) (if g.kind=3 then 512 else 0),r.m.za,r.m.asks,true,[],true,[],(rplO r (j9 g) g.cookie).isNone,(rplO r (j9 g) g.cookie).toList⟩
theorem small_ok'(r:Rq)(h:r.m.za=true->r.m.asks=[])(ha:r.m.asks.length<=1000000)(g:Gt)(hok:(smG r g).Ok)(hg:g.kind=1\/g.kind=2\/g.kind=3):FnOk Tryz.prog 24 [.agg r.cells,.agg g.cells] (.tup [.d (.str ((smG r g).fit 512).1),.d (.int .i64 ((smG r g).fit 512).2)]):=by
 refine qi (TT:=TT) (IN:=qa []) qd qc mixed 1000 Tryz.func24 rfl (qb Tryz.func24 (by kernel_rfl) rfl) rfl 32 (by kernel_rfl) ?_
 have hf:=fit_ok (smG r g) hok 512 (by decide) (by show(rplO r (j9 g) g.cookie).toList.length<=1000000;cases rplO r (j9 g) g.cookie <;> simp)
 obtain⟨kind,code,cookie⟩:=g
 rcases hg with e|e|e
 ·have e:kind=1:=e
  subst e
  have hb:=qv7 r h ha code cookie
  conv=>whnf
  repeat(first|(refine brF rfl ?_;conv=>whnf)|(refine brT rfl ?_;conv=>whnf))
  refine oD hb rfl rfl ?_
  conv=>whnf
  refine oD hf rfl rfl ?_
  conv=>whnf
  try exact⟨rfl,rfl,True.intro⟩
 ·have e:kind=2:=e
  subst e
  have hb:=qv7 r h ha 23 cookie
  conv=>whnf
  repeat(first|(refine brF rfl ?_;conv=>whnf)|(refine brT rfl ?_;conv=>whnf))
  refine oD hb rfl rfl ?_
  conv=>whnf
  refine oD hf rfl rfl ?_
  conv=>whnf
  try exact⟨rfl,rfl,True.intro⟩
 ·have e:kind=3:=e
  subst e
  have hb:=qv7 r h ha 0 cookie
  conv=>whnf
  repeat(first|(refine brF rfl ?_;conv=>whnf)|(refine brT rfl ?_;conv=>whnf))
  refine oD hb rfl rfl ?_
  conv=>whnf
  refine oD hf rfl rfl ?_
  conv=>whnf
  try exact⟨rfl,rfl,True.intro⟩
theorem toI16(X:BitVec 16):BitVec.ofInt 16 (X.toNat:Int)=X:=BitVec.eq_of_toNat_eq (by simp)
theorem w16(X:BitVec 16):IntKind.u16.wrap (X.toNat:Int)=(X.toNat:Int):=by
 have:=X.isLt
 rw[IntKind.wrap_u16]
 omega
theorem or16(a b:Int):Go.bits BinOp.or IntKind.u16 a b=((BitVec.ofInt 16 a ||| BitVec.ofInt 16 b).toNat:Int):=w16 _
theorem and16'(a b:Int):Go.bits BinOp.and IntKind.u16 a b=((BitVec.ofInt 16 a &&& BitVec.ofInt 16 b).toNat:Int):=w16 _
theorem or32_in(a b:Int):0<=Go.bits BinOp.or IntKind.u32 a b/\Go.bits BinOp.or IntKind.u32 a b<=4294967295:=by
 unfold Go.bits
 generalize BitVec.ofInt IntKind.u32.bits a=x
 show 0<=IntKind.u32.wrap _/\IntKind.u32.wrap _<=4294967295
 rw[IntKind.wrap_u32]
 omega
theorem rpl_and(b code t n:Int)(hc:code=0\/code=23):Go.bits BinOp.and IntKind.u16 (Go.bits BinOp.or IntKind.u16 (jk b code) t) n=(((((BitVec.ofInt 16 b &&& 30976#16) ||| (32768#16 ||| (if code=23 then 7#16 else 0#16))) ||| 128#16 ||| BitVec.ofInt 16 t) &&& BitVec.ofInt 16 n).toNat:Int):=by
 unfold jk
 rw[and16',or16,or16,or16,and16']
 simp only[toI16]
 rcases hc with rfl|rfl
 ·rfl
 ·rfl
theorem rpl_low(b code t:Int)(hc:code=0\/code=23)(ht:t=0\/t=512):Go.bits BinOp.and IntKind.u16 (Go.bits BinOp.or IntKind.u16 (jk b code) t) 15=if code=23 then 7 else 0:=by
 rw[rpl_and b code t 15 hc]
 have d:∀ K T:BitVec 16,(((BitVec.ofInt 16 b &&& 30976#16) ||| K) ||| 128#16 ||| T) &&& 15#16=(BitVec.ofInt 16 b &&& (30976#16 &&& 15#16)) ||| (K &&& 15#16) ||| (128#16 &&& 15#16) ||| (T &&& 15#16):=fun K T=>by
  rw[BitVec.and_or_distrib_right,BitVec.and_or_distrib_right,BitVec.and_or_distrib_right,BitVec.and_assoc]
 show(((_ &&& 15#16:BitVec 16).toNat:Nat):Int)=_
 rw[d,show(30976#16 &&& 15#16)=0#16 by decide]
 rcases hc with rfl|rfl <;> rcases ht with rfl|rfl <;> simp <;> decide
structure One1(r:Rq)(q:Q):Prop where
 asks:r.m.asks=[q]
 za:r.m.za=true->r.m.asks=[]
 nm:qq q.nm
 qk:q.Ok
 id:0<=r.m.id/\r.m.id<=65535
theorem qj8{r:Rq}{code:Int}{cookie:List UInt8}(hk:cookie.length<=16):∀ x,rplO r code cookie=some x->SmR x:=fun x hx=>by
 unfold rplO at hx
 split at hx
 ·cases hx
  refine⟨rfl,rfl,⟨(show(0:Int)<=41/\(41:Int)<=65535 by decide),(show(0:Int)<=4096/\(4096:Int)<=65535 by decide),or32_in _ _⟩,?_⟩
  show(if jb r.client cookie then optB (r.client++cookie) else []).length<=28
  split
  ·rename_i h
   have:=(qb0 h).1
   have hbl:(be 2 ((r.client++cookie).length:Int)).length=2:=rfl
   unfold optB
   rw[List.length_append,List.length_append,hbl,List.length_append,this]
   show 2+2+(8+cookie.length)<=28
   omega
  ·exact Nat.zero_le _
 ·cases hx
theorem smG_ok(r:Rq)(q:Q)(h1:One1 r q)(g:Gt)(hk:g.cookie.length<=16):(smG r g).Ok:=by
 have hsm:=qj8 (r:=r) (code:=j9 g) hk
 have e:smG r g=smM r.m.id (Go.bits BinOp.or IntKind.u16 (jk r.m.bits (j9 g)) (if g.kind=3 then 512 else 0)) r.m.za q (rplO r (j9 g) g.cookie):=by
  unfold smG smM
  rw[h1.asks]
 rw[e]
 exact⟨h1.id,bor_le _ _,fun x hx=>(by rw[List.mem_singleton.1 hx];exact h1.qk),fun x hx=>(by cases hx),fun x hx=>(by cases hx),fun x hx=>(hsm x (by simpa[smM] using hx)).ok,by show 1<_;decide⟩
theorem small_law(r:Rq)(q:Q)(h1:One1 r q)(g:Gt)(hg:g.kind=1\/g.kind=2\/g.kind=3)(hk:g.cookie.length<=16) :
 ∃ b,FnOk Tryz.prog 24 [.agg r.cells,.agg g.cells] (.tup [.d (.str b),.d (.int .i64 0)])/\(b.length<=55+q.nm.length/\b.length<=512)/\Msg.read b=(Msg.of r.m.id (Go.bits BinOp.or IntKind.u16 (jk r.m.bits (j9 g)) (if g.kind=3 then 512 else 0)) [q] [] [] (rplO r (j9 g) g.cookie).toList,0):=by
 have hsm:=qj8 (r:=r) (code:=j9 g) hk
 have e:smG r g=smM r.m.id (Go.bits BinOp.or IntKind.u16 (jk r.m.bits (j9 g)) (if g.kind=3 then 512 else 0)) r.m.za q (rplO r (j9 g) g.cookie):=by
  unfold smG smM
  rw[h1.asks]
 have hok:=smG_ok r q h1 g hk
 obtain⟨b,hb,_,hl,hrd⟩:=sm_law r.m.id (Go.bits BinOp.or IntKind.u16 (jk r.m.bits (j9 g)) (if g.kind=3 then 512 else 0)) h1.id (bor_le _ _) r.m.za q h1.qk h1.nm (rplO r (j9 g) g.cookie) hsm
 have hs:=small_ok' r h1.za (by rw[h1.asks];show 1<=_;decide) g hok hg
 rw [e,hb] at hs
 exact⟨b,hs,hl,hrd⟩
theorem lookM_m(m:Msg):(vl m).m=m:=by
 unfold vl
 split
 ·rfl
 ·split <;> rfl
theorem look_msg(s:List UInt8):(look s).m.asks=[]\/((look s).m=(Msg.read s).1/\Right (Msg.read s).1):=by
 unfold look
 split
 ·exact .inl rfl
 split
 ·exact .inl rfl
 ·rename_i h2
  rcases qr2 s with⟨e1,_⟩|⟨_,hm⟩
  ·exact absurd e1 h2
  ·exact .inr ⟨lookM_m _,hm⟩
theorem look_one(s:List UInt8)(h:(look s).m.asks.length=1):∃ q,One1 (look s) q:=by
 rcases look_msg s with e|⟨e,hm⟩
 ·rw [e] at h;cases h
 ·obtain⟨q,hq⟩:=List.length_eq_one_iff.1 h
  have hq':(Msg.read s).1.asks=[q]:=by rw[<-e];exact hq
  have hmem:q ∈ (Msg.read s).1.asks:=by rw[hq'];exact List.mem_singleton.2 rfl
  refine⟨q,hq,?_,?_,?_,?_⟩
  ·rw[e];exact hm.fld.za
  ·have:=hm.check
   simp only [Msg.check,Bool.and_eq_true,decide_eq_true_eq,List.all_eq_true] at this
   exact this.1.1.1.2 q hmem
  ·exact hm.fld.asks q hmem
  ·rw[e];exact hm.fld.id
theorem get_there(m:Msg):m.get.1.there=true\/m.get.1.opts=[]:=by
 unfold Msg.get
 split
 try exact .inr rfl
 split
 try exact .inr rfl
 split
 try exact .inr rfl
 unfold k8
 split
 try exact .inr rfl
 split
 ·exact .inl rfl
 try exact .inr rfl
theorem lookM_client(m:Msg)(h:(vl m).client≠[]):(vl m).e.there=true:=by
 unfold vl at h ⊢
 split at h
 ·exact absurd rfl h
 rename_i h1
 split at h
 ·rename_i h2
  rw[if_neg h1,if_pos h2]
  rcases get_there m with e|e
  ·exact e
  ·rw [e] at h2
   exact absurd h2 (of_decide_eq_false (by kernel_rfl))
 ·exact absurd rfl h
theorem look_client(s:List UInt8)(h:(look s).client≠[]):(look s).e.there=true:=by
 unfold look at h ⊢
 split at h
 ·exact absurd rfl h
 rename_i h1
 split at h
 ·exact absurd rfl h
 rename_i h2
 rw[if_neg h1,if_neg h2]
 exact lookM_client _ h
theorem ck_len(h:Hs)(secret client:List UInt8)(addr at_:Int):(ckF h secret client addr at_).2=0/\(ckF h secret client addr at_).1.length=16\/(ckF h secret client addr at_).2≠0/\(ckF h secret client addr at_).1=[]:=by
 unfold ckF
 split
 ·rename_i h1
  exact .inr ⟨h1,rfl⟩
 ·exact .inl ⟨rfl,rfl⟩
theorem qv1(h:Hs)(secret client:List UInt8)(addr now:Int):(j8 h secret client addr now).2=0/\(j8 h secret client addr now).1.length=16\/(j8 h secret client addr now).2≠0/\(j8 h secret client addr now).1=[]:=by
 unfold j8
 split
 ·exact .inr ⟨by decide,rfl⟩
 ·exact ck_len _ _ _ _ _
theorem keyed_err(h:Hs)(key s:List UInt8)(hk:key.length=16)(hs:s.length<=65536):(zu h key s).2=0:=by
 have e:(sumF key s).2=0:=by
  unfold sumF Rck.sum
  rw[if_neg (by omega),if_neg (by omega)]
 unfold zu
 split
 ·exact e
 ·split <;> rfl
theorem make_err(h:Hs)(secret client:List UInt8)(addr now:Int)(hc:client.length=8)(hk:secret.length=16):(j8 h secret client addr now).2=0:=by
 unfold j8
 rw[if_neg (by omega)]
 unfold ckF
 have:(zu h secret (ue client (IntKind.u64.wrap (IntKind.u32.wrap now)) (IntKind.u64.wrap addr))).2=0:=keyed_err _ _ _ hk (by
  show(((zx++client)++yc _)++be 4 _).length<=_
  simp only[List.length_append,hc,be4_len]
  show 4+8+8+4<=65536
  decide)
 rw[if_neg (by rw[this];decide)]
theorem ver_ok{h:Hs}{sn sw client server:List UInt8}{addr now:Int}(e:(verF h sn sw client server addr now).2=0):client.length=8/\server.length=16:=by
 unfold verF at e
 split at e
 ·cases e
 rename_i h1
 split at e
 ·cases e
 split at e
 ·cases e
 rename_i h3
 exact⟨by omega,Decidable.byContradiction fun h=>h3 (.inl h)⟩
theorem cof_law(h:Hs)(sn sw:List UInt8)(r:Rq)(addr now:Int) :
 (cofF h sn sw r addr now).2=((verF h sn sw r.client r.server addr now).2 == 0)/\(cofF h sn sw r addr now).1.length<=16 /\
 ((cofF h sn sw r addr now).2=true->(cofF h sn sw r addr now).1.length=16\/sn.length≠16)/\((cofF h sn sw r addr now).1≠[]->r.client≠[]):=by
 have hv:=ver_ok (h:=h) (sn:=sn) (sw:=sw) (client:=r.client) (server:=r.server) (addr:=addr) (now:=now)
 have hm:=qv1 h sn r.client addr now
 have he:=make_err h sn r.client addr now
 have hnil:r.client=[]->(verF h sn sw r.client r.server addr now).2=2:=fun e=>by rw[e];rfl
 unfold cofF
 generalize verF h sn sw r.client r.server addr now=v at hv hnil ⊢
 generalize j8 h sn r.client addr now=m at hm he ⊢
 by_cases h1:r.client=[]
 ·rw[if_pos h1]
  refine⟨by rw[hnil h1];rfl,Nat.zero_le _,(fun h=>by cases h),fun h=>absurd rfl h⟩
 rw[if_neg h1]
 by_cases h2:v.2=0/\v.1=false
 ·rw[if_pos h2]
  have:=hv h2.1
  exact⟨by rw[h2.1];rfl,by show r.server.length<=16;omega,fun _=>.inl this.2,fun _=>h1⟩
 rw[if_neg h2]
 by_cases h3:m.2≠0
 ·rw[if_pos h3]
  refine⟨rfl,Nat.zero_le _,fun h=>.inr fun hk=>h3 (he (hv (by simpa using h)).1 hk),fun h=>absurd rfl h⟩
 ·rw[if_neg h3]
  have:m.1.length=16:=by
   rcases hm with h|h
   ·exact h.2
   ·exact absurd h.1 h3
  exact⟨rfl,by show m.1.length<=16;omega,fun _=>.inl this,fun _=>h1⟩
theorem jd2(l:Lim)(hits o:Int)(cookie:List UInt8):decH l hits o cookie=⟨0,0,[]⟩\/decH l hits o cookie=⟨3,0,cookie⟩\/(decH l hits o cookie=⟨2,0,cookie⟩/\cookie≠[]):=by
 unfold decH
 split
 ·exact .inl rfl
 split
 ·exact .inr (.inl rfl)
 ·rename_i h
  exact .inr (.inr ⟨rfl,fun e=>h (.inr e)⟩)
theorem get_rpl(r:Rq)(code:Int)(cookie:List UInt8)(hk:cookie.length<=16)(id bits:Int)(q:Q):∃ e:Ed,(Msg.of id bits [q] [] [] (rplO r code cookie).toList).get=(e,0)/\(code=0->e.high=0)/\(code=23->r.e.there=true->e.high=1)/\(r.e.there=true->jb r.client cookie=true->e.opts=[⟨10,r.client++cookie⟩]):=by
 have hsm:=qj8 (r:=r) (code:=code) hk
 by_cases ht:r.e.there=true
 ·have ero:rplO r code cookie=some ⟨[0],41,4096,ttlF (IntKind.u8.wrap (code.fdiv (2 ^ 4))) 0 0,if jb r.client cookie then optB (r.client++cookie) else []⟩:=if_pos ht
  rw [ero] at hsm ⊢
  have hgx:=sm_get id bits q (some ⟨[0],41,4096,ttlF (IntKind.u8.wrap (code.fdiv (2 ^ 4))) 0 0,if jb r.client cookie then optB (r.client++cookie) else []⟩) hsm
  rw[show(Msg.of id bits [q] [] [] (some (RR.mk [0] 41 4096 (ttlF (IntKind.u8.wrap (code.fdiv (2 ^ 4))) 0 0) (if jb r.client cookie then optB (r.client++cookie) else []))).toList).get=k8 ⟨[0],41,4096,ttlF (IntKind.u8.wrap (code.fdiv (2 ^ 4))) 0 0,if jb r.client cookie then optB (r.client++cookie) else []⟩ from hgx]
  have hop:∀ d:List UInt8,(∃ l,Rdr.opts d.length ⟨d,0,false⟩ []=some l/\(jb r.client cookie=true->d=optB (r.client++cookie)->l=[⟨10,r.client++cookie⟩]))->∃ e:Ed,k8 ⟨[0],41,4096,ttlF (IntKind.u8.wrap (code.fdiv (2 ^ 4))) 0 0,d⟩=(e,0)/\(code=0->e.high=0)/\(code=23->r.e.there=true->e.high=1)/\(r.e.there=true->jb r.client cookie=true->d=optB (r.client++cookie)->e.opts=[⟨10,r.client++cookie⟩]):=fun d ⟨l,hl,hll⟩=>by
   refine⟨Ed.of ⟨[0],41,4096,ttlF (IntKind.u8.wrap (code.fdiv (2 ^ 4))) 0 0,d⟩ l,?_,fun e=>by rw[e];kernel_rfl,fun e _=>by rw[e];kernel_rfl,fun _ h1 h2=>hll h1 h2⟩
   unfold k8
   rw[if_neg (by simp)]
   show(match Rdr.opts d.length ⟨d,0,false⟩ [] with|some l=>_|none=>_)=_
   rw[hl]
  cases hr:jb r.client cookie
  ·obtain ⟨e,h1,h2,h3,_⟩:=hop [] ⟨[],rfl,fun h=>by rw [hr] at h;cases h⟩
   exact⟨e,h1,h2,h3,fun _ h=>by cases h⟩
  ·have hlen:=qb0 hr
   obtain⟨e,h1,h2,h3,h4⟩:=hop (optB (r.client++cookie)) ⟨_,opt_one (r.client++cookie) (by rw[List.length_append];omega),fun _ _=>rfl⟩
   exact⟨e,h1,h2,h3,fun ht _=>h4 ht hr rfl⟩
 ·rw[show rplO r code cookie=none from if_neg ht]
  exact⟨Ed.no,rfl,fun _=>rfl,fun _ h=>absurd h ht,fun h=>absurd h ht⟩
theorem code_inv{m:Msg}{ver bad:Int}(h:ye m ver bad = -1):m.op=0/\¬ ((m.asks.getD 0 default).cl≠1\/Go.bits BinOp.and IntKind.u16 m.bits 256=0)/\¬ ((m.asks.getD 0 default).ty=0\/(m.asks.getD 0 default).ty=41\/(251<=(m.asks.getD 0 default).ty/\(m.asks.getD 0 default).ty<=255)):=by
 unfold ye at h
 split at h
 ·cases h
 split at h
 ·cases h
 rename_i h1
 split at h
 ·cases h
 split at h
 ·cases h
 rename_i h2
 split at h
 ·cases h
 rename_i h3
 exact⟨Decidable.not_not.1 h1,h2,h3⟩
theorem look_code(s:List UInt8)(h:(look s).code = -1):(look s).m.op=0/\¬ (((look s).m.asks.getD 0 default).cl≠1\/Go.bits BinOp.and IntKind.u16 (look s).m.bits 256=0)/\¬ (((look s).m.asks.getD 0 default).ty=0\/((look s).m.asks.getD 0 default).ty=41\/(251<=((look s).m.asks.getD 0 default).ty/\((look s).m.asks.getD 0 default).ty<=255)):=by
 unfold look at h ⊢
 split at h
 ·cases h
 rename_i h1
 split at h
 ·cases h
 rename_i h2
 rw[if_neg h1,if_neg h2]
 unfold vl at h ⊢
 split at h
 ·cases h
 rename_i h3
 rw[if_neg h3]
 split at h
 ·rename_i h4
  rw[if_pos h4]
  exact code_inv h
 ·rename_i h4
  rw[if_neg h4]
  exact code_inv h
theorem gate_look(id bits:Int)(hid:0<=id/\id<=65535)(hb:0<=bits/\bits<=65535)(za:Bool)(q:Q)(hq:q.Ok)(hn:qq q.nm)(hqr:Go.bits BinOp.and IntKind.u16 bits 32768=0)
 (hop:(IntKind.i64.wrap (Go.bits BinOp.and IntKind.u16 bits 30720)).fdiv (2 ^ 11)=0) (h2:¬ (q.cl≠1\/Go.bits BinOp.and IntKind.u16 bits 256=0)) (h3:¬ (q.ty=0\/q.ty=41\/(251<=q.ty/\q.ty<=255))) (a b:List UInt8) (hab:jb a b=true) (hbl:b.length<=16) :
 ∃ z,(smM id bits za q (some ⟨[0],41,1232,ttlF 0 0 0,optB (a++b)⟩)).write 65536=(z,0)/\z.length<=65536/\(smM id bits za q (some ⟨[0],41,1232,ttlF 0 0 0,optB (a++b)⟩)).Ok/\(look z).client=a/\(look z).server=b/\(look z).code = -1:=by
 have hal:=(qb0 hab).1
 have hsm:SmR ⟨[0],41,1232,ttlF 0 0 0,optB (a++b)⟩:=⟨rfl,rfl,⟨(show(0:Int)<=41/\(41:Int)<=65535 by decide),(show(0:Int)<=1232/\(1232:Int)<=65535 by decide),or32_in _ _⟩,by
  have hbl2:(be 2 ((a++b).length:Int)).length=2:=rfl
  show(optB (a++b)).length<=28
  unfold optB
  rw[List.length_append,List.length_append,hbl2,List.length_append,hal]
  show 2+2+(8+b.length)<=28
  omega⟩
 have hok:(smM id bits za q (some ⟨[0],41,1232,ttlF 0 0 0,optB (a++b)⟩)).Ok:=⟨hid,hb,fun x hx=>(by rw[List.mem_singleton.1 hx];exact hq),fun x hx=>(by cases hx),fun x hx=>(by cases hx),fun x hx=>(by rw[List.mem_singleton.1 hx];exact hsm.ok),by show 1<_;decide⟩
 have hck:(smM id bits za q (some ⟨[0],41,1232,ttlF 0 0 0,optB (a++b)⟩)).check=true:=by
  unfold Msg.check smM
  have h2:[RR.mk [0] 41 1232 (ttlF 0 0 0) (optB (a++b))].all RR.check=true:=List.all_eq_true.2 fun r hr=>(by rw[List.mem_singleton.1 hr];exact hsm.check)
  simp[hn]
  simpa using h2
 have hnl:=hn.2.1
 have hl:lm 65536=65535:=by decide
 have hroom:Room (Wr.mk [] 65535 false []) ((smM id bits za q (some ⟨[0],41,1232,ttlF 0 0 0,optB (a++b)⟩)).last 65536) (55+q.nm.length):=by
  unfold Msg.last
  rw[hl]
  have g0:(Wr.mk [] 65535 false []).limit - ((Wr.mk [] 65535 false []).buf.length:Int)=65535:=by decide
  have f0:(Wr.mk [] 65535 false []).full=false:=rfl
  generalize Wr.mk [] 65535 false []=w at g0 f0 ⊢
  have q1:=room_head (smM id bits za q (some ⟨[0],41,1232,ttlF 0 0 0,optB (a++b)⟩)) f0 (by omega)
  have q2:=yf q1 (room_nm hn q1.1 (by rw[q1.2.1];have:=q1.2.2;omega))
  have q3:=yf q2 (z7 (x:=q.ty) q2.1 (by rw[q2.2.1];have:=q2.2.2;omega))
  have q4:=yf q3 (z7 (x:=q.cl) q3.1 (by rw[q3.2.1];have:=q3.2.2;omega))
  have hrl:=hsm.len
  have q5:=yf q4 (room_opt hsm.check hsm.nm hsm.ty q4.1 (by rw[q4.2.1];have:=q4.2.2;omega))
  exact qf2 q5 (by omega)
 obtain⟨hrd,hle⟩:=msg_back hok (limit:=65536) (by decide) hck hroom.1
 have hw:(smM id bits za q (some ⟨[0],41,1232,ttlF 0 0 0,optB (a++b)⟩)).write 65536=(((smM id bits za q (some ⟨[0],41,1232,ttlF 0 0 0,optB (a++b)⟩)).last 65536).buf,0):=by
  unfold Msg.write
  rw[hck,hroom.1]
  rfl
 have hrd':Msg.read ((smM id bits za q (some ⟨[0],41,1232,ttlF 0 0 0,optB (a++b)⟩)).last 65536).buf=(Msg.of id bits [q] [] [] [⟨[0],41,1232,ttlF 0 0 0,optB (a++b)⟩],0):=hrd
 have hlook:look ((smM id bits za q (some ⟨[0],41,1232,ttlF 0 0 0,optB (a++b)⟩)).last 65536).buf=⟨Msg.of id bits [q] [] [] [⟨[0],41,1232,ttlF 0 0 0,optB (a++b)⟩],Ed.of ⟨[0],41,1232,ttlF 0 0 0,optB (a++b)⟩ [⟨10,a++b⟩],a,b,-1⟩:=by
  generalize ((smM id bits za q (some ⟨[0],41,1232,ttlF 0 0 0,optB (a++b)⟩)).last 65536).buf=z at hrd'
  have hh:=read_head z (by rw[hrd'])
  unfold look
  rw[hh,hrd',if_neg (fun hh=>hh.elim (fun h=>h rfl) (fun h=>h hqr)),if_neg (fun h=>h rfl)]
  have hg:=sm_get id bits q (some ⟨[0],41,1232,ttlF 0 0 0,optB (a++b)⟩) (fun r hr=>by cases hr;exact hsm)
  have hg:(Msg.of id bits [q] [] [] [⟨[0],41,1232,ttlF 0 0 0,optB (a++b)⟩]).get=(Ed.of ⟨[0],41,1232,ttlF 0 0 0,optB (a++b)⟩ [⟨10,a++b⟩],0):=by
   refine hg.trans ?_
   show k8 ⟨[0],41,1232,ttlF 0 0 0,optB (a++b)⟩=_
   unfold k8
   rw[if_neg (by simp)]
   show(match Rdr.opts (optB (a++b)).length ⟨optB (a++b),0,false⟩ [] with|some l=>_|none=>_)=_
   rw[show Rdr.opts (optB (a++b)).length ⟨optB (a++b),0,false⟩ []=some [⟨10,a++b⟩] from opt_one (a++b) (by rw[List.length_append];omega)]
  unfold vl
  rw[hg,if_neg (fun h=>h rfl)]
  have hc:=qq9 a b hab
  show(if (yt [⟨10,a++b⟩]).2.2=0 then _ else _)=_
  rw[show(Ed.of ⟨[0],41,1232,ttlF 0 0 0,optB (a++b)⟩ [⟨10,a++b⟩]).opts=[⟨10,a++b⟩] from rfl,hc,if_pos rfl]
  have hcode:ye (Msg.of id bits [q] [] [] [⟨[0],41,1232,ttlF 0 0 0,optB (a++b)⟩]) (Ed.of ⟨[0],41,1232,ttlF 0 0 0,optB (a++b)⟩ [⟨10,a++b⟩]).ver 0 = -1:=by
   unfold ye
   rw[if_neg (by
    rintro (h|h|h|h);· exact h rfl
    ·exact absurd h (by show ¬ 0<0;decide)
    ·exact absurd h (by show ¬ 0<0;decide)
    ·cases h)]
   rw[if_neg (show ¬ (Msg.of id bits [q] [] [] [⟨[0],41,1232,ttlF 0 0 0,optB (a++b)⟩]).op≠0 from fun h=>h hop)]
   have hver:(Ed.of ⟨[0],41,1232,ttlF 0 0 0,optB (a++b)⟩ [⟨10,a++b⟩]).ver=0:=by
    show IntKind.u8.wrap ((ttlF 0 0 0).fdiv (2 ^ 16))=0
    kernel_rfl
   rw[hver,if_neg (by decide)]
   show(if q.cl≠1\/Go.bits BinOp.and IntKind.u16 bits 256=0 then (5:Int) else if q.ty=0\/q.ty=41\/(251<=q.ty/\q.ty<=255) then 5 else -1) = -1
   rw[if_neg h2,if_neg h3]
  rw[hcode]
 refine⟨_,hw,by omega,hok,?_,?_,?_⟩ <;> rw[hlook]
theorem ver_make(h:Hs)(sn sw client:List UInt8)(addr now:Int)(hn:0<=now/\now<=1099511627776)(hc:client.length=8)(he:(j8 h sn client addr now).2=0):verF h sn sw client (j8 h sn client addr now).1 addr (now+1)=(false,0):=by
 have hmk:j8 h sn client addr now=ckF h sn client addr (IntKind.u32.wrap now):=by unfold j8;rw[if_neg (by omega)]
 rw [hmk] at he ⊢
 have hu:0<=IntKind.u32.wrap now/\IntKind.u32.wrap now<4294967296:=by rw[IntKind.wrap_u32];omega
 obtain⟨v,hv⟩:∃ v:Nat,IntKind.u32.wrap now=(v:Int):=⟨(IntKind.u32.wrap now).toNat,by omega⟩
 have hvl:v<4294967296:=by omega
 rw [hv] at he ⊢
 have h64:IntKind.u64.wrap (v:Int)=(v:Int):=by rw[IntKind.wrap_u64];omega
 obtain⟨n,hs⟩:∃ n,(ckF h sn client addr v).1=yc (v:Int)++leB n:=by
  unfold ckF at he ⊢
  split at he
  ·rename_i h1;exact absurd he h1
  ·rename_i h1
   rw[if_neg h1,h64]
   exact⟨_,rfl⟩
 have hck:ckF h sn client addr v=(yc (v:Int)++leB n,0):=Prod.ext hs he
 have hb4:(be 4 (v:Int)).length=4:=rfl
 have hsub:sub (yc (v:Int)++leB n) 4 8=be 4 (v:Int):=by
  show((beginB++be 4 (v:Int)++leB n).drop 4).take 4=_
  rw[List.append_assoc,List.drop_left' (show beginB.length=4 from rfl),List.take_left' hb4]
 have hat:atF (yc (v:Int)++leB n)=v:=by
  unfold atF
  rw[hsub]
  have h1:(Rdr.mk (be 4 (v:Int)) 0 false).raw ((4:Nat):Int)=(⟨be 4 (v:Int),4,false⟩,be 4 (v:Int)):=by
   have:=ux [] (be 4 (v:Int)) []
   rw [hb4] at this
   simpa[hb4] using this
  have h2:((Rdr.mk (be 4 (v:Int)) 0 false).num 4).2=v:=by
   unfold Rdr.num
   rw[h1]
   show(if false=true then 0 else j3 (be 4 (v:Int)))=v
   rw[if_neg (by decide),numOf4 _ hvl]
  rw[h2,IntKind.wrap_u32]
  omega
 have hage:ageF (now+1) v=1:=by
  unfold ageF
  have e1:IntKind.u32.wrap (IntKind.u32.wrap (now+1) - (v:Int))=1:=by
   rw[<-hv]
   rw[IntKind.wrap_u32,IntKind.wrap_u32,IntKind.wrap_u32]
   omega
  rw[e1]
  decide
 rw[hck]
 unfold verF
 rw[hat,if_neg (by omega)]
 rw[if_neg (show ¬ yc (v:Int)++leB n=[] from fun e=>by cases e)]
 rw[if_neg (show ¬ ((yc (v:Int)++leB n).length≠16\/(yc (v:Int)++leB n).take 4≠beginB) from fun hh=>hh.elim (fun h=>h rfl) (fun h=>h (by
  show(beginB++be 4 (v:Int)++leB n).take 4=beginB
  rw[List.append_assoc,List.take_left' (show beginB.length=4 from rfl)]))),hck,if_pos rfl]
 unfold freshF
 rw[hage]
 rfl
theorem cof_make(h:Hs)(sn sw:List UInt8)(r:Rq)(addr now:Int)(hv:(cofF h sn sw r addr now).2=false)(hc:(cofF h sn sw r addr now).1≠[]):(j8 h sn r.client addr now).2=0/\(cofF h sn sw r addr now).1=(j8 h sn r.client addr now).1/\r.client.length=8:=by
 unfold cofF at hv hc ⊢
 by_cases h1:r.client=[]
 ·rw [if_pos h1] at hc
  exact absurd rfl hc
 rw [if_neg h1] at hv hc ⊢
 by_cases h2:(verF h sn sw r.client r.server addr now).2=0/\(verF h sn sw r.client r.server addr now).1=false
 ·rw [if_pos h2] at hv
  cases hv
 rw [if_neg h2] at hv hc ⊢
 by_cases h3:(j8 h sn r.client addr now).2≠0
 ·rw [if_pos h3] at hc
  exact absurd rfl hc
 rw[if_neg h3]
 have h4:(j8 h sn r.client addr now).2=0:=Decidable.not_not.1 h3
 refine⟨h4,rfl,Decidable.byContradiction fun hn=>?_⟩
 unfold j8 at h4
 rw [if_pos hn] at h4
 cases h4
theorem cof_ver(h:Hs)(sn sw:List UInt8)(r:Rq)(addr now:Int)(hc:r.client≠[])(hv:verF h sn sw r.client r.server addr now=(false,0)):cofF h sn sw r addr now=(r.server,true):=by
 unfold cofF
 rw[if_neg hc,hv,if_pos ⟨rfl,rfl⟩]
theorem look_bits(s:List UInt8)(h:(look s).m.asks.length=1):0<=(look s).m.bits/\(look s).m.bits<=65535:=by
 rcases look_msg s with e|⟨e,hm⟩
 ·rw [e] at h;cases h
 ·rw[e];exact hm.fld.bits
def aOrg:List UInt8:=[1,97,3,111,114,103,0]
theorem begins_ok:FnOk Tryz.prog 30 [] (.d (.bool true)):=by
 have hc:=zt aOrg
 rw [if_pos (show qq aOrg from of_decide_eq_true (by kernel_rfl))] at hc
 refine qi (TT:=TT) (IN:=qa [(82,Tryz.f82,1),(143,Tryz.f143,1),(193,Tryz.f193,2),(50,Tryz.f50,1),(115,Tryz.f115,2)]) qd (qt (qt (qt (qt (qt qc Tryz.func115 (by kernel_rfl) (by kernel_rfl)) Tryz.func50 (by kernel_rfl) (by kernel_rfl)) Tryz.func193 (by kernel_rfl) (by kernel_rfl)) Tryz.func143 (by kernel_rfl) (by kernel_rfl)) Tryz.func82 (by kernel_rfl) (by kernel_rfl)) mixed 1000 Tryz.func30 rfl (qb Tryz.func30 (by kernel_rfl) rfl) rfl 3 (by kernel_rfl) ?_
 conv=>whnf
 refine oD hc rfl rfl ?_
 conv=>whnf
 repeat(first|(refine brT rfl ?_;conv=>whnf)|(refine brF rfl ?_;conv=>whnf)|(refine .once ?_;conv=>whnf)|(refine⟨by decide,?_⟩;conv=>whnf)|(refine And.intro (Nat.le_of_ble_eq_true rfl) ?_;conv=>whnf))
 try exact rfl
theorem hsmall_ok(h:Hs):FnOk Tryz.prog 19 [.agg h.cells] (.d (.int .i64 (if 60<h.tab.length then 0 else 1))):=by
 refine qi (TT:=TT) (IN:=qa []) qd qc mixed 1000 Tryz.func19 rfl (qb Tryz.func19 (by kernel_rfl) rfl) rfl 6 (by kernel_rfl) ?_
 conv=>whnf
 refine⟨fun h1=>?_,fun h1=>?_⟩
 ·rw[if_pos (by have h:(h.tab.length:Int) > 60:=of_decide_eq_true h1;omega)]
  conv=>whnf
  try exact rfl
 ·rw[if_neg (by have h:¬ (h.tab.length:Int) > 60:=of_decide_eq_false h1;omega)]
  conv=>whnf
  try exact rfl
theorem rnew_bad(l:Lim)(hl:l.ok=false):FnOk Tryz.prog 20 [.agg l.cells] (.tup [.v (.pointer none),.d (.int .i64 2)]):=by
 refine qi (TT:=TT) (IN:=qa []) qd qc mixed 1000 Tryz.func20 rfl (qb Tryz.func20 (by kernel_rfl) rfl) rfl 13 (by kernel_rfl) ?_
 have hc:=jb5 l
 rw [hl] at hc
 conv=>whnf
 refine oD hc rfl rfl ?_
 conv=>whnf
 repeat(first|(refine brF rfl ?_;conv=>whnf)|(refine brT rfl ?_;conv=>whnf))
 repeat'(first|exact ⟨⟩|exact rfl|exact .inr rfl|exact .inl rfl|exact fun _ _=>rfl|exact noI|apply And.intro)
theorem rnewq(l:Lim)(hl:l.ok=true)(pre:List KB):COk Tryz.prog 20 [.agg l.cells] pre (fun s k=>s = .tup [.ptr pre.length 0,.d (.int .i64 0)]/\k=pre++(rt0 l).ks pre.length):=by
 have:=(rnew_ok l hl).among pre [] (fun s k _=>Nat.zero_le _) rfl
 have e:pre++(mapB (sig (List.range' pre.length ([]:List KB).length) (pre.length+(([]:List KB).length+([]:List KB).length))) []++[])=pre:=by simp[mapB]
 rw [e] at this
 refine this.imp fun s k ⟨s0,k1,⟨hr,hc⟩,hs,hk⟩=>?_
 subst hr hc
 refine⟨hs,?_⟩
 rw[hk]
 show pre++([]++([]++mapB _ ((rt0 l).ks 0)))=_
 rw[mapB_r (rt0 l) (σ:=sig (List.range' pre.length ([]:List KB).length) (pre.length+(([]:List KB).length+([]:List KB).length))) (p:=pre.length) rfl rfl]
 rfl
theorem fgate_ok(h:Hs)(sn sw:List UInt8)(l:Lim)(text:List UInt8)(addr now cut:Int)(hnow : -9223372036854775808<=now/\now<=9223372036854775807)(hcut : -9223372036854775808<=cut/\cut<=9223372036854775807):FnOk Tryz.prog 7 [.agg h.cells,secV sn sw,.agg l.cells,.d (.str text),.d (.int .u32 addr),.d (.int .i64 now),.d (.int .i64 cut)] (.d (.bool true)):=by
 refine qi (TT:=TT) (IN:=qa []) qd qc mixed 1000 Tryz.func7 rfl (qb Tryz.func7 (by kernel_rfl) rfl) rfl 245 (by kernel_rfl) ?_
 conv=>whnf
 refine oD begins_ok rfl rfl ?_
 conv=>whnf
 refine brF rfl ?_
 conv=>whnf
 refine oD (hsmall_ok h) rfl rfl ?_
 by_cases hb:60<h.tab.length
 ·rw[if_pos hb]
  conv=>whnf
  repeat(first|(refine brT rfl ?_;conv=>whnf)|(refine brF rfl ?_;conv=>whnf)|(refine .once ?_;conv=>whnf)|(refine⟨by decide,?_⟩;conv=>whnf)|(refine And.intro (Nat.le_of_ble_eq_true rfl) ?_;conv=>whnf))
  try exact rfl
 rw[if_neg hb]
 have hl:h.tab.length<=1000:=by omega
 conv=>whnf
 repeat(first|(refine brF rfl ?_;conv=>whnf)|(refine brT rfl ?_;conv=>whnf))
 refine⟨fun h1=>?_,fun h1=>?_⟩
 ·conv=>whnf
  repeat(first|(refine brT rfl ?_;conv=>whnf)|(refine brF rfl ?_;conv=>whnf)|(refine .once ?_;conv=>whnf)|(refine⟨by decide,?_⟩;conv=>whnf)|(refine And.intro (Nat.le_of_ble_eq_true rfl) ?_;conv=>whnf))
  try exact rfl
 have h1:¬ (text.length:Int) > 4096:=of_decide_eq_false h1
 conv=>whnf
 refine⟨fun h2=>?_,fun h2=>?_⟩
 ·conv=>whnf
  repeat(first|(refine brT rfl ?_;conv=>whnf)|(refine brF rfl ?_;conv=>whnf)|(refine .once ?_;conv=>whnf)|(refine⟨by decide,?_⟩;conv=>whnf)|(refine And.intro (Nat.le_of_ble_eq_true rfl) ?_;conv=>whnf))
  try exact rfl
 have h2:¬ now<0:=of_decide_eq_false h2
 conv=>whnf
 refine⟨fun h2b=>?_,fun h2b=>?_⟩
 ·conv=>whnf
  repeat(first|(refine brT rfl ?_;conv=>whnf)|(refine brF rfl ?_;conv=>whnf)|(refine .once ?_;conv=>whnf)|(refine⟨by decide,?_⟩;conv=>whnf)|(refine And.intro (Nat.le_of_ble_eq_true rfl) ?_;conv=>whnf))
  try exact rfl
 have h2b:¬ now > 1099511627776:=of_decide_eq_false h2b
 conv=>whnf
 refine⟨fun h2c=>?_,fun h2c=>?_⟩
 ·conv=>whnf
  repeat(first|(refine brT rfl ?_;conv=>whnf)|(refine brF rfl ?_;conv=>whnf)|(refine .once ?_;conv=>whnf)|(refine⟨by decide,?_⟩;conv=>whnf)|(refine And.intro (Nat.le_of_ble_eq_true rfl) ?_;conv=>whnf))
  try exact rfl
 have hsn:sn.length=16:=by simp at h2c;omega
 conv=>whnf
 cases hlk:l.ok
 ·refine oD (rnew_bad l hlk) rfl rfl ?_
  conv=>whnf
  refine oD (qn2 text (by omega)) rfl rfl ?_
  conv=>whnf
  repeat(first|(refine brT rfl ?_;conv=>whnf)|(refine brF rfl ?_;conv=>whnf)|(refine .once ?_;conv=>whnf)|(refine⟨by decide,?_⟩;conv=>whnf)|(refine And.intro (Nat.le_of_ble_eq_true rfl) ?_;conv=>whnf))
  try exact rfl
 have hlin:=Lim.in_of hlk
 refine .rel _ (rnewq l hlk [_,_,_]) (fun x ks' hR=>?_)
 obtain⟨rfl,rfl⟩:=hR
 conv=>whnf
 have hvl:=qn2 text (by omega)
 have hone:=look_one text
 have hcl:=look_client text
 have hcs:=look_cases text
 have hcd0:=look_code text
 have hbt:=look_bits text
 generalize hlt:look text=r at hvl hone hcl hcs hcd0 hbt
 refine oD hvl rfl rfl ?_
 conv=>whnf
 repeat(first|(refine brF rfl ?_;conv=>whnf)|(refine brT rfl ?_;conv=>whnf))
 refine⟨fun h3=>?_,fun h3=>?_⟩
 ·conv=>whnf
  repeat(first|(refine brT rfl ?_;conv=>whnf)|(refine brF rfl ?_;conv=>whnf)|(refine .once ?_;conv=>whnf)|(refine⟨by decide,?_⟩;conv=>whnf)|(refine And.intro (Nat.le_of_ble_eq_true rfl) ?_;conv=>whnf))
  try exact rfl
 have h3:r.code = -1:=by simpa using h3
 have hres:Res r:=by
  rcases hcs with⟨e,_⟩|(e|e|e|e)|hres
  ·rw [h3] at e;cases e
  ·rw [h3] at e;cases e
  ·rw [h3] at e;cases e
  ·rw [h3] at e;cases e
  ·rw [h3] at e;cases e
  ·exact hres
 obtain⟨q,hq1⟩:=hone hres.asks
 obtain⟨c1,c2,c3,c4⟩:=cof_law h sn sw r addr now
 have hza:=hq1.za
 have hbits:=hbt hres.asks
 have hal1:r.m.asks.length<=1000000:=by rw[hq1.asks];show 1<=_;decide
 have hdT:=(qj2 h hl sn sw (rt0 l) r addr now (by omega) true (.inr (.inr (.inl rfl)))).convA (args':=[.agg h.cells,secV sn sw,.ptr 0 0,.agg r.cells,.d (.int .u32 addr),.d .tt,.d (.int .i64 now)]) ⟨.refl _,.refl _,.refl _,.refl _,.refl _,.d .tb,.refl _,True.intro⟩
 rw [h3] at hdT
 conv=>whnf
 refine oD (frame_ok text (by omega)) rfl rfl ?_
 conv=>whnf
 refine .rel _ (vt (fun _=>rfl) snew_ok [_,_,_,_,_,_,_] (fun _=>rfl)) (fun x ks' hR=>?_)
 obtain⟨rfl,rfl⟩:=hR
 conv=>whnf
 repeat(first|(refine brF rfl ?_;conv=>whnf)|(refine brT rfl ?_;conv=>whnf))
 have hfl:=qk3 text
 obtain⟨c,hcv,hcle⟩:∃ c:Nat,(if ((frB text).length:Int)<(if 0 > cut then 0 else cut) then ((frB text).length:Int) else if 0 > cut then 0 else cut)=(c:Int)/\c<=(frB text).length:=by
  refine⟨(if ((frB text).length:Int)<(if 0 > cut then 0 else cut) then ((frB text).length:Int) else if 0 > cut then 0 else cut).toNat,?_,?_⟩
  ·split
   ·omega
   ·split <;> omega
  ·split
   ·omega
   ·split <;> omega
 rw[hcv]
 refine⟨⟨Int.le_refl 0,by omega,by omega⟩,?_⟩
 conv=>whnf
 have es1:sub (frB text) 0 (c:Int)=(frB text).take c:=by simp[sub]
 have es2:sub (frB text) (c:Int) ((frB text).length:Int)=(frB text).drop c:=by
  unfold sub
  rw[List.take_of_length_le (by rw[List.length_drop];omega),Int.toNat_natCast]
 by_cases hcf:c=(frB text).length
 ·have hA:=jc9 (.iff,[]) (sub (frB text) 0 (c:Int)) text (.inl rfl) (by omega) (by rw[es1,hcf,List.take_length];rfl)
  refine .rel _ (COk.thing stF hA [_,_,_,_,_,_,_] [] _ rfl rfl) (fun x ks' hR=>?_)
  obtain⟨_,⟨z1,w1⟩,⟨rfl,hz1,hw1⟩,rfl,rfl⟩:=hR
  have hz1:z1 = .no:=hz1
  have hw1:w1=[]:=hw1
  subst hz1 hw1
  conv=>whnf
  refine⟨by omega,?_⟩
  conv=>whnf
  have hB:=feed_part (.no,[]) (sub (frB text) (c:Int) ((frB text).length:Int)) (.inr rfl) (by rw[es2,hcf,List.drop_length];show 0+0<=_;omega) (by rw[es2,hcf,List.drop_length];rfl)
  refine .rel _ (COk.thing stF hB [_,_,_,_,_,_,_] [] _ rfl rfl) (fun x ks' hR=>?_)
  obtain⟨_,⟨z2,w2⟩,⟨rfl,_,_⟩,rfl,rfl⟩:=hR
  conv=>whnf
  repeat(first|(refine brF rfl ?_;conv=>whnf)|(refine brT rfl ?_;conv=>whnf))
  repeat(refine And.intro ⟨by decide,by decide⟩ ?_;conv=>whnf)
  refine brF (show(text != text)=false from bne_self_eq_false text) ?_
  conv=>whnf
  repeat(refine And.intro ⟨by decide,by decide⟩ ?_;conv=>whnf)
  refine .data _ hvl rfl rfl ?_
  conv=>whnf
  refine .mem _ _ (rtE hdT [_,_,_] [_,_] _ rfl rfl) ?_
  conv=>whnf
  repeat(first|(refine brF rfl ?_;conv=>whnf)|(refine brT rfl ?_;conv=>whnf))
  cases hvf:(cofF h sn sw r addr now).2
  ·have hd:=dec_hit h hl sn sw (rt0 l) r addr now (by omega) l 1 0 (hit0_ok l hlin addr now) h3 hvf
   rcases jd2 l 1 0 (cofF h sn sw r addr now).1 with e|e|⟨e,hne⟩
   all_goals rw [e] at hd
   all_goals refine .rel _ (rtq (hd.convA (args':=[.agg h.cells,secV sn sw,.ptr 0 0,.agg r.cells,.d (.int .u32 addr),.d .ff,.d (.int .i64 now)]) ⟨.refl _,.refl _,.refl _,.refl _,.refl _,.d .fb,.refl _,True.intro⟩) [_,_,_] [_,_] _ rfl rfl) (fun x ks' hR=>?_)
   all_goals obtain⟨_,cA,⟨rfl,_⟩,rfl,rfl⟩:=hR
   all_goals conv=>whnf
   all_goals repeat(first|(refine brF rfl ?_;conv=>whnf)|(refine brT rfl ?_;conv=>whnf))
   all_goals try exact rfl
   obtain⟨hmk,hcm,hc8⟩:=cof_make h sn sw r addr now hvf hne
   have hl16:(cofF h sn sw r addr now).1.length=16:=by
    rw[hcm]
    rcases qv1 h sn r.client addr now with h|h
    ·exact h.2
    ·exact absurd hmk h.1
   have hne8:r.client≠[]:=fun e=>by rw [e] at hc8;cases hc8
   have hab:jb r.client (cofF h sn sw r addr now).1=true:=by
    unfold jb
    rw[hc8,hl16]
    simp
   obtain⟨b,hs,hlb,hrd⟩:=small_law r q hq1 ⟨2,0,(cofF h sn sw r addr now).1⟩ (.inr (.inl rfl)) c2
   have hm:=qu7 b (by omega)
   rw [hrd] at hm
   obtain⟨ee,hg,hg0,hg23,hg4⟩:=get_rpl r (j9 ⟨2,0,(cofF h sn sw r addr now).1⟩) (cofF h sn sw r addr now).1 c2 r.m.id (Go.bits BinOp.or IntKind.u16 (jk r.m.bits (j9 ⟨2,0,(cofF h sn sw r addr now).1⟩)) (if (Gt.mk 2 0 (cofF h sn sw r addr now).1).kind=3 then 512 else 0)) q
   have hopt:=hg4 (hcl hne8) hab
   have hsm:=qj8 (r:=r) (code:=j9 ⟨2,0,(cofF h sn sw r addr now).1⟩) c2
   generalize rplO r (j9 ⟨2,0,(cofF h sn sw r addr now).1⟩) (cofF h sn sw r addr now).1=ro at hm hg hsm
   have hol:ro.toList.length<=1:=by cases ro <;> simp
   have hge:=get_ok (Msg.of r.m.id (Go.bits BinOp.or IntKind.u16 (jk r.m.bits 23) 0) [q] [] [] ro.toList) (by show 0<_;decide) (by show 0<_;decide) (by show ro.toList.length<_;omega) (fun x hx=>by
    have:=(hsm x (by simpa[Msg.of] using hx)).len
    omega)
   have hg:(Msg.of r.m.id (Go.bits BinOp.or IntKind.u16 (jk r.m.bits 23) 0) [q] [] [] ro.toList).get=(ee,0):=hg
   rw [hg] at hge
   have hcd:=ecode_ok (Msg.of r.m.id (Go.bits BinOp.or IntKind.u16 (jk r.m.bits 23) 0) [q] [] [] ro.toList) ee
   have hlow:=rpl_low r.m.bits 23 0 (.inr rfl) (.inl rfl)
   have hcv:codeM (Msg.of r.m.id (Go.bits BinOp.or IntKind.u16 (jk r.m.bits 23) 0) [q] [] [] ro.toList) ee.high=23:=by
    unfold codeM
    rw[hg23 rfl (hcl hne8)]
    show Go.bits BinOp.or IntKind.i64 _ (IntKind.i64.wrap (Go.bits BinOp.and IntKind.u16 (Go.bits BinOp.or IntKind.u16 (jk r.m.bits 23) 0) 15))=_
    rw[hlow]
    kernel_rfl
   rw [hcv] at hcd
   have hck:=qr7 ee (by rw[hopt];show 1<_;decide) (fun o ho=>by
    rw [hopt] at ho
    rw[List.mem_singleton.1 ho]
    show(r.client++(cofF h sn sw r addr now).1).length<_
    rw[List.length_append]
    omega)
   rw [hopt,qq9 _ _ hab] at hck
   refine oD hs rfl rfl ?_
   conv=>whnf
   refine oD hm rfl rfl ?_
   conv=>whnf
   refine oD hge rfl rfl ?_
   conv=>whnf
   refine oD hck rfl rfl ?_
   conv=>whnf
   repeat(first|(refine brF rfl ?_;conv=>whnf)|(refine brT rfl ?_;conv=>whnf))
   refine brF (show(r.client != r.client)=false from bne_self_eq_false r.client) ?_
   conv=>whnf
   refine oD hcd rfl rfl ?_
   conv=>whnf
   repeat(first|(refine brF rfl ?_;conv=>whnf)|(refine brT rfl ?_;conv=>whnf))
   refine oD (qi3 .ff 1232 0 0 0 r.client (cofF h sn sw r addr now).1 hab) rfl rfl ?_
   conv=>whnf
   have hput:=qk1 r.m.id r.m.bits r.m.za r.m.asks true [] hza hal1 (fun _=>rfl) (by decide) (.bool true) (.inr rfl) 1232 0 0 0 _ (optB (r.client++(cofF h sn sw r addr now).1)) (qj3 1232 0 0 0 (r.client++(cofF h sn sw r addr now).1) (by rw[List.length_append];omega))
   apply Exists.intro
   apply Exists.intro
   refine⟨?_,?_⟩
   ·conv=>whnf
    repeat'(first|exact ⟨⟩|(with_reducible exact⟨rfl,rfl⟩)|(refine .data _ (qu0 r hza hal1) rfl rfl ?_;conv=>whnf)|(refine .data _ hput rfl rfl ?_;conv=>whnf)|(apply And.intro <;> conv=>whnf)|exact⟨rfl,rfl⟩)
   conv=>whnf
   have hasks:r.m.asks.getD 0 default=q:=by rw[hq1.asks];rfl
   obtain⟨k1,k2,k3⟩:=hcd0 h3
   rw [hasks] at k2 k3
   obtain⟨zz,hw1,hw2,hw3,hz1,hz2,hz3⟩:=gate_look r.m.id r.m.bits hq1.id hbits r.m.za q hq1.qk hq1.nm hres.qr k1 k2 k3 r.client (cofF h sn sw r addr now).1 hab c2
   have hyz:(Msg.mk r.m.id r.m.bits r.m.za r.m.asks true [] true [] false [⟨[0],41,1232,ttlF 0 0 0,optB (r.client++(cofF h sn sw r addr now).1)⟩])=smM r.m.id r.m.bits r.m.za q (some ⟨[0],41,1232,ttlF 0 0 0,optB (r.client++(cofF h sn sw r addr now).1)⟩):=by
    unfold smM
    rw[hq1.asks]
    rfl
   have hwr:=qm5 _ hw3 65536 (by decide)
   rw [hw1,<-hyz] at hwr
   refine oD hwr rfl rfl ?_
   conv=>whnf
   repeat(first|(refine brF rfl ?_;conv=>whnf)|(refine brT rfl ?_;conv=>whnf))
   have hlz:=qn2 zz (by omega)
   refine .data _ hlz rfl rfl ?_
   conv=>whnf
   have hw1n:IntKind.i64.wrap (now+1)=now+1:=ql _ (by omega)
   have hvm:=ver_make h sn sw r.client addr now ⟨by omega,by omega⟩ hc8 hmk
   rw [<-hcm] at hvm
   have hcz:=cof_ver h sn sw (look zz) addr (now+1) (by rw[hz1];exact hne8) (by rw[hz1,hz2];exact hvm)
   have hdZ:=(qj2 h hl sn sw cA (look zz) addr (now+1) (by omega) false (.inr (.inr (.inr (by rw[hcz]))))).convA (args':=[.agg h.cells,secV sn sw,.ptr 0 0,.agg (look zz).cells,.d (.int .u32 addr),.d .ff,.d (.int .i64 (now+1))]) ⟨.refl _,.refl _,.refl _,.refl _,.refl _,.d .fb,.refl _,True.intro⟩
   rw [hz3] at hdZ
   rw[hw1n]
   refine .mem _ _ (rtE hdZ [_,_,_] [_,_,_,_,_,_] _ rfl rfl) ?_
   conv=>whnf
   try exact rfl
  ·have hd:=qj2 h hl sn sw (rt0 l) r addr now (by omega) false (.inr (.inr (.inr hvf)))
   rw [h3] at hd
   refine .rel _ (rtq (hd.convA (args':=[.agg h.cells,secV sn sw,.ptr 0 0,.agg r.cells,.d (.int .u32 addr),.d .ff,.d (.int .i64 now)]) ⟨.refl _,.refl _,.refl _,.refl _,.refl _,.d .fb,.refl _,True.intro⟩) [_,_,_] [_,_] _ rfl rfl) (fun x ks' hR=>?_)
   obtain⟨_,cA,⟨rfl,_⟩,rfl,rfl⟩:=hR
   conv=>whnf
   repeat(first|(refine brF rfl ?_;conv=>whnf)|(refine brT rfl ?_;conv=>whnf))
   try exact rfl
 ·have hA:=feed_part (.iff,[]) (sub (frB text) 0 (c:Int)) (.inl rfl) (by rw[es1,List.length_take];show 0+_<=_;omega) (by rw[es1];exact whole_part text (by omega) c (by omega))
  refine .rel _ (COk.thing stF hA [_,_,_,_,_,_,_] [] _ rfl rfl) (fun x ks' hR=>?_)
  obtain⟨_,⟨z1,w1⟩,⟨rfl,hz1,hw1⟩,rfl,rfl⟩:=hR
  have hz1:z1 = .iff:=hz1
  have hw1:w1=sub (frB text) 0 (c:Int):=hw1
  subst hz1 hw1
  conv=>whnf
  refine⟨by omega,?_⟩
  conv=>whnf
  have hB:=jc9 (.iff,sub (frB text) 0 (c:Int)) (sub (frB text) (c:Int) ((frB text).length:Int)) text (.inl rfl) (by omega) (by rw[es1,es2];exact List.take_append_drop c _)
  refine .rel _ (COk.thing stF hB [_,_,_,_,_,_,_] [] _ rfl rfl) (fun x ks' hR=>?_)
  obtain⟨_,⟨z2,w2⟩,⟨rfl,_,_⟩,rfl,rfl⟩:=hR
  conv=>whnf
  refine⟨by decide,?_⟩
  conv=>whnf
  repeat(first|(refine brF rfl ?_;conv=>whnf)|(refine brT rfl ?_;conv=>whnf))
  repeat(refine And.intro ⟨by decide,by decide⟩ ?_;conv=>whnf)
  refine brF (show(text != text)=false from bne_self_eq_false text) ?_
  conv=>whnf
  repeat(refine And.intro ⟨by decide,by decide⟩ ?_;conv=>whnf)
  refine .data _ hvl rfl rfl ?_
  conv=>whnf
  refine .mem _ _ (rtE hdT [_,_,_] [_,_,_] _ rfl rfl) ?_
  conv=>whnf
  repeat(first|(refine brF rfl ?_;conv=>whnf)|(refine brT rfl ?_;conv=>whnf))
  cases hvf:(cofF h sn sw r addr now).2
  ·have hd:=dec_hit h hl sn sw (rt0 l) r addr now (by omega) l 1 0 (hit0_ok l hlin addr now) h3 hvf
   rcases jd2 l 1 0 (cofF h sn sw r addr now).1 with e|e|⟨e,hne⟩
   all_goals rw [e] at hd
   all_goals refine .rel _ (rtq (hd.convA (args':=[.agg h.cells,secV sn sw,.ptr 0 0,.agg r.cells,.d (.int .u32 addr),.d .ff,.d (.int .i64 now)]) ⟨.refl _,.refl _,.refl _,.refl _,.refl _,.d .fb,.refl _,True.intro⟩) [_,_,_] [_,_,_] _ rfl rfl) (fun x ks' hR=>?_)
   all_goals obtain⟨_,cA,⟨rfl,_⟩,rfl,rfl⟩:=hR
   all_goals conv=>whnf
   all_goals repeat(first|(refine brF rfl ?_;conv=>whnf)|(refine brT rfl ?_;conv=>whnf))
   all_goals try exact rfl
   obtain⟨hmk,hcm,hc8⟩:=cof_make h sn sw r addr now hvf hne
   have hl16:(cofF h sn sw r addr now).1.length=16:=by
    rw[hcm]
    rcases qv1 h sn r.client addr now with h|h
    ·exact h.2
    ·exact absurd hmk h.1
   have hne8:r.client≠[]:=fun e=>by rw [e] at hc8;cases hc8
   have hab:jb r.client (cofF h sn sw r addr now).1=true:=by
    unfold jb
    rw[hc8,hl16]
    simp
   obtain⟨b,hs,hlb,hrd⟩:=small_law r q hq1 ⟨2,0,(cofF h sn sw r addr now).1⟩ (.inr (.inl rfl)) c2
   have hm:=qu7 b (by omega)
   rw [hrd] at hm
   obtain⟨ee,hg,hg0,hg23,hg4⟩:=get_rpl r (j9 ⟨2,0,(cofF h sn sw r addr now).1⟩) (cofF h sn sw r addr now).1 c2 r.m.id (Go.bits BinOp.or IntKind.u16 (jk r.m.bits (j9 ⟨2,0,(cofF h sn sw r addr now).1⟩)) (if (Gt.mk 2 0 (cofF h sn sw r addr now).1).kind=3 then 512 else 0)) q
   have hopt:=hg4 (hcl hne8) hab
   have hsm:=qj8 (r:=r) (code:=j9 ⟨2,0,(cofF h sn sw r addr now).1⟩) c2
   generalize rplO r (j9 ⟨2,0,(cofF h sn sw r addr now).1⟩) (cofF h sn sw r addr now).1=ro at hm hg hsm
   have hol:ro.toList.length<=1:=by cases ro <;> simp
   have hge:=get_ok (Msg.of r.m.id (Go.bits BinOp.or IntKind.u16 (jk r.m.bits 23) 0) [q] [] [] ro.toList) (by show 0<_;decide) (by show 0<_;decide) (by show ro.toList.length<_;omega) (fun x hx=>by
    have:=(hsm x (by simpa[Msg.of] using hx)).len
    omega)
   have hg:(Msg.of r.m.id (Go.bits BinOp.or IntKind.u16 (jk r.m.bits 23) 0) [q] [] [] ro.toList).get=(ee,0):=hg
   rw [hg] at hge
   have hcd:=ecode_ok (Msg.of r.m.id (Go.bits BinOp.or IntKind.u16 (jk r.m.bits 23) 0) [q] [] [] ro.toList) ee
   have hlow:=rpl_low r.m.bits 23 0 (.inr rfl) (.inl rfl)
   have hcv:codeM (Msg.of r.m.id (Go.bits BinOp.or IntKind.u16 (jk r.m.bits 23) 0) [q] [] [] ro.toList) ee.high=23:=by
    unfold codeM
    rw[hg23 rfl (hcl hne8)]
    show Go.bits BinOp.or IntKind.i64 _ (IntKind.i64.wrap (Go.bits BinOp.and IntKind.u16 (Go.bits BinOp.or IntKind.u16 (jk r.m.bits 23) 0) 15))=_
    rw[hlow]
    kernel_rfl
   rw [hcv] at hcd
   have hck:=qr7 ee (by rw[hopt];show 1<_;decide) (fun o ho=>by
    rw [hopt] at ho
    rw[List.mem_singleton.1 ho]
    show(r.client++(cofF h sn sw r addr now).1).length<_
    rw[List.length_append]
    omega)
   rw [hopt,qq9 _ _ hab] at hck
   refine oD hs rfl rfl ?_
   conv=>whnf
   refine oD hm rfl rfl ?_
   conv=>whnf
   refine oD hge rfl rfl ?_
   conv=>whnf
   refine oD hck rfl rfl ?_
   conv=>whnf
   repeat(first|(refine brF rfl ?_;conv=>whnf)|(refine brT rfl ?_;conv=>whnf))
   refine brF (show(r.client != r.client)=false from bne_self_eq_false r.client) ?_
   conv=>whnf
   refine oD hcd rfl rfl ?_
   conv=>whnf
   repeat(first|(refine brF rfl ?_;conv=>whnf)|(refine brT rfl ?_;conv=>whnf))
   refine oD (qi3 .ff 1232 0 0 0 r.client (cofF h sn sw r addr now).1 hab) rfl rfl ?_
   conv=>whnf
   have hput:=qk1 r.m.id r.m.bits r.m.za r.m.asks true [] hza hal1 (fun _=>rfl) (by decide) (.bool true) (.inr rfl) 1232 0 0 0 _ (optB (r.client++(cofF h sn sw r addr now).1)) (qj3 1232 0 0 0 (r.client++(cofF h sn sw r addr now).1) (by rw[List.length_append];omega))
   apply Exists.intro
   apply Exists.intro
   refine⟨?_,?_⟩
   ·conv=>whnf
    repeat'(first|exact ⟨⟩|(with_reducible exact⟨rfl,rfl⟩)|(refine .data _ (qu0 r hza hal1) rfl rfl ?_;conv=>whnf)|(refine .data _ hput rfl rfl ?_;conv=>whnf)|(apply And.intro <;> conv=>whnf)|exact⟨rfl,rfl⟩)
   conv=>whnf
   have hasks:r.m.asks.getD 0 default=q:=by rw[hq1.asks];rfl
   obtain⟨k1,k2,k3⟩:=hcd0 h3
   rw [hasks] at k2 k3
   obtain⟨zz,hw1,hw2,hw3,hz1,hz2,hz3⟩:=gate_look r.m.id r.m.bits hq1.id hbits r.m.za q hq1.qk hq1.nm hres.qr k1 k2 k3 r.client (cofF h sn sw r addr now).1 hab c2
   have hyz:(Msg.mk r.m.id r.m.bits r.m.za r.m.asks true [] true [] false [⟨[0],41,1232,ttlF 0 0 0,optB (r.client++(cofF h sn sw r addr now).1)⟩])=smM r.m.id r.m.bits r.m.za q (some ⟨[0],41,1232,ttlF 0 0 0,optB (r.client++(cofF h sn sw r addr now).1)⟩):=by
    unfold smM
    rw[hq1.asks]
    rfl
   have hwr:=qm5 _ hw3 65536 (by decide)
   rw [hw1,<-hyz] at hwr
   refine oD hwr rfl rfl ?_
   conv=>whnf
   repeat(first|(refine brF rfl ?_;conv=>whnf)|(refine brT rfl ?_;conv=>whnf))
   have hlz:=qn2 zz (by omega)
   refine .data _ hlz rfl rfl ?_
   conv=>whnf
   have hw1n:IntKind.i64.wrap (now+1)=now+1:=ql _ (by omega)
   have hvm:=ver_make h sn sw r.client addr now ⟨by omega,by omega⟩ hc8 hmk
   rw [<-hcm] at hvm
   have hcz:=cof_ver h sn sw (look zz) addr (now+1) (by rw[hz1];exact hne8) (by rw[hz1,hz2];exact hvm)
   have hdZ:=(qj2 h hl sn sw cA (look zz) addr (now+1) (by omega) false (.inr (.inr (.inr (by rw[hcz]))))).convA (args':=[.agg h.cells,secV sn sw,.ptr 0 0,.agg (look zz).cells,.d (.int .u32 addr),.d .ff,.d (.int .i64 (now+1))]) ⟨.refl _,.refl _,.refl _,.refl _,.refl _,.d .fb,.refl _,True.intro⟩
   rw [hz3] at hdZ
   rw[hw1n]
   refine .mem _ _ (rtE hdZ [_,_,_] [_,_,_,_,_,_,_] _ rfl rfl) ?_
   conv=>whnf
   try exact rfl
  ·have hd:=qj2 h hl sn sw (rt0 l) r addr now (by omega) false (.inr (.inr (.inr hvf)))
   rw [h3] at hd
   refine .rel _ (rtq (hd.convA (args':=[.agg h.cells,secV sn sw,.ptr 0 0,.agg r.cells,.d (.int .u32 addr),.d .ff,.d (.int .i64 now)]) ⟨.refl _,.refl _,.refl _,.refl _,.refl _,.d .fb,.refl _,True.intro⟩) [_,_,_] [_,_,_] _ rfl rfl) (fun x ks' hR=>?_)
   obtain⟨_,cA,⟨rfl,_⟩,rfl,rfl⟩:=hR
   conv=>whnf
   repeat(first|(refine brF rfl ?_;conv=>whnf)|(refine brT rfl ?_;conv=>whnf))
   try exact rfl
end Go.Proofs.YtiiafibkblpbcaaGreat
