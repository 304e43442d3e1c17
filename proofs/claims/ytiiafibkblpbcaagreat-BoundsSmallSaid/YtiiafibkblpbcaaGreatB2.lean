/-
  Part of the proof: lemmas about the functions that the row calls, and about the steps of a run. Conditions: those ahead of each lemma.
-/
import Derived.Test.YtiiafibkblpbcaaGreatB1
import Derived.Test.YtiiafibkblpbcaaGreatM4
set_option linter.unusedVariables false
set_option linter.unusedSimpArgs false
set_option maxRecDepth 100000
set_option maxHeartbeats 64000000
namespace Go.Proofs.YtiiafibkblpbcaaGreat
open Go Go.Eng
structure Opt where
 code:Int
 data:List UInt8
deriving Inhabited
def Opt.enc(o:Opt):List DV:=[.int .u16 o.code,.str o.data]
def optsD(z:Bool)(l:List Opt):DV:=.sl z l.length 2 (fun i=>(l.getD i default).enc)
def typedV(t:Int):SV:=.fn 135 [.dptr [.int .u16 t] 0]
def codedV(t:Int):SV:=.fn 146 [.dptr [.int .u16 t] 0]
theorem typed_ok(t:Int):FnOk Tryz.prog 71 [.d (.int .u16 t)] (typedV t):=by
 refine COk.clos (t:=25) ?_
 refine ji (TT:=TT) (IN:=qd []) qf qe mixed 1000 Tryz.func71 rfl (qc Tryz.func71 (by kernel_rfl) rfl) 3 (by kernel_rfl) ?_
 conv=>whnf
 refine⟨[0],.fn 135 [.ptr 0 0],[.cells 25 [.d (.int .u16 t)]],rfl,rfl,rfl,?_,rfl,rfl⟩
 repeat'(first|exact ⟨⟩|exact rfl|exact fun _=>Iff.rfl|exact fun _ _=>rfl|exact renM_ent rfl _|apply And.intro)
theorem coded_ok(t:Int):FnOk Tryz.prog 90 [.d (.int .u16 t)] (codedV t):=by
 refine COk.clos (t:=24) ?_
 refine ji (TT:=TT) (IN:=qd []) qf qe mixed 1000 Tryz.func90 rfl (qc Tryz.func90 (by kernel_rfl) rfl) 3 (by kernel_rfl) ?_
 conv=>whnf
 refine⟨[0],.fn 146 [.ptr 0 0],[.cells 24 [.d (.int .u16 t)]],rfl,rfl,rfl,?_,rfl,rfl⟩
 repeat'(first|exact ⟨⟩|exact rfl|exact fun _=>Iff.rfl|exact fun _ _=>rfl|exact renM_ent rfl _|apply And.intro)
def idxI{α:Type}(p:α->Bool)(l:List α):Int:=match l.findIdx? p with
 |some i=>i
 |none=>-1
theorem idxI_none{α:Type}{p:α->Bool}{l:List α}(h:∀ x ∈ l,p x=false):idxI p l = -1:=by
 unfold idxI
 rw[List.findIdx?_eq_none_iff.2 h]
theorem idxI_some{α:Type}{p:α->Bool}{l:List α}{i:Nat}{a:α}(hi:l[i]? = some a)(ha:p a=true)(h:∀ x ∈ l.take i,p x=false):idxI p l=i:=by
 unfold idxI
 have:l.findIdx? p=some i:=by
  rw[List.findIdx?_eq_some_iff_getElem]
  obtain⟨h1,h2⟩:=List.getElem?_eq_some_iff.1 hi
  refine⟨h1,by rw[h2];exact ha,fun j hj=>?_⟩
  rw[h _ (List.mem_take_iff_getElem.2 ⟨j,by omega,rfl⟩)]
  simp
 rw[this]
theorem qv7(z:Bool)(l:List RR)(t:Int)(hl:l.length<4611686018427387904):FnOk Tryz.prog 73 [.d (rrsD z l),typedV t] (.d (.int .i64 (idxI (fun r=>r.ty == t) l))):=by
 refine qn (TT:=TT) (IN:=qd [(135,Tryz.f135,2)]) qf (qv qe Tryz.func135 (by kernel_rfl) (by kernel_rfl)) mixed 1000 Tryz.func73 rfl (qc Tryz.func73 (by kernel_rfl) rfl) rfl 17 (by kernel_rfl) ?_
 conv=>whnf
 refine .inv Nat (fun i=>i<=l.length/\∀ x ∈ l.take i,(x.ty == t)=false) (fun i=>[(8,.d (.int .i64 i))]) (fun _=>[]) (fun i=>l.length - i) ⟨0,[],⟨Nat.zero_le _,fun x hx=>by simp at hx⟩,?_⟩ ?_
 ·conv=>whnf
  repeat'(first|exact ⟨⟩|exact rfl|exact fun _=>Iff.rfl|exact fun _ _=>rfl|exact renM_ent rfl _|apply And.intro)
 rintro i ⟨hi,hall⟩
 conv=>whnf
 refine⟨fun c5=>?_,fun c5=>?_⟩
 ·have c5':i<l.length:=(by have h:(i:Int)<l.length:=of_decide_eq_true c5;omega)
  obtain⟨q,hq⟩:∃ q,l.getD i default=q:=⟨_,rfl⟩
  have hq2:l[i]? = some q:=by rw[<-hq,List.getD,List.getElem?_eq_getElem c5'];rfl
  have htk:l.take (i+1)=l.take i++[q]:=by rw[List.take_add_one,hq2];rfl
  conv=>whnf
  refine⟨by omega,?_⟩
  conv=>whnf
  rw[Int.toNat_natCast,hq]
  refine⟨fun h1=>?_,fun h1=>?_⟩
  ·rw[idxI_some hq2 h1 hall]
   conv=>whnf
   try exact rfl
  ·conv=>whnf
   have hw1:=w64s i (by omega)
   refine⟨i+1,[],⟨c5',by
    intro x hx
    rw [htk,List.mem_append,List.mem_singleton] at hx
    rcases hx with hx|rfl
    ·exact hall x hx
    ·exact h1⟩,by omega,?_⟩
   conv=>whnf
   rw[hw1]
   repeat'(first|exact ⟨⟩|exact rfl|exact fun _=>Iff.rfl|exact fun _ _=>rfl|exact renM_ent rfl _|apply And.intro)
 ·have hic:i=l.length:=(by have h:¬ (i:Int)<l.length:=of_decide_eq_false c5;omega)
  rw [hic,List.take_length] at hall
  rw[idxI_none hall]
  conv=>whnf
  try exact rfl
theorem oindex_ok(z:Bool)(l:List Opt)(t:Int)(hl:l.length<4611686018427387904):FnOk Tryz.prog 89 [.d (optsD z l),codedV t] (.d (.int .i64 (idxI (fun r=>r.code == t) l))):=by
 refine qn (TT:=TT) (IN:=qd [(146,Tryz.f146,2)]) qf (qv qe Tryz.func146 (by kernel_rfl) (by kernel_rfl)) mixed 1000 Tryz.func89 rfl (qc Tryz.func89 (by kernel_rfl) rfl) rfl 17 (by kernel_rfl) ?_
 conv=>whnf
 refine .inv Nat (fun i=>i<=l.length/\∀ x ∈ l.take i,(x.code == t)=false) (fun i=>[(8,.d (.int .i64 i))]) (fun _=>[]) (fun i=>l.length - i) ⟨0,[],⟨Nat.zero_le _,fun x hx=>by simp at hx⟩,?_⟩ ?_
 ·conv=>whnf
  repeat'(first|exact ⟨⟩|exact rfl|exact fun _=>Iff.rfl|exact fun _ _=>rfl|exact renM_ent rfl _|apply And.intro)
 rintro i ⟨hi,hall⟩
 conv=>whnf
 refine⟨fun c5=>?_,fun c5=>?_⟩
 ·have c5':i<l.length:=(by have h:(i:Int)<l.length:=of_decide_eq_true c5;omega)
  obtain⟨q,hq⟩:∃ q,l.getD i default=q:=⟨_,rfl⟩
  have hq2:l[i]? = some q:=by rw[<-hq,List.getD,List.getElem?_eq_getElem c5'];rfl
  have htk:l.take (i+1)=l.take i++[q]:=by rw[List.take_add_one,hq2];rfl
  conv=>whnf
  refine⟨by omega,?_⟩
  conv=>whnf
  rw[Int.toNat_natCast,hq]
  refine⟨fun h1=>?_,fun h1=>?_⟩
  ·rw[idxI_some hq2 h1 hall]
   conv=>whnf
   try exact rfl
  ·conv=>whnf
   have hw1:=w64s i (by omega)
   refine⟨i+1,[],⟨c5',by
    intro x hx
    rw [htk,List.mem_append,List.mem_singleton] at hx
    rcases hx with hx|rfl
    ·exact hall x hx
    ·exact h1⟩,by omega,?_⟩
   conv=>whnf
   rw[hw1]
   repeat'(first|exact ⟨⟩|exact rfl|exact fun _=>Iff.rfl|exact fun _ _=>rfl|exact renM_ent rfl _|apply And.intro)
 ·have hic:i=l.length:=(by have h:¬ (i:Int)<l.length:=of_decide_eq_false c5;omega)
  rw [hic,List.take_length] at hall
  rw[idxI_none hall]
  conv=>whnf
  try exact rfl
theorem qy0(z:Bool)(l:List RR)(t:Int)(hl:l.length<4611686018427387904):FnOk Tryz.prog 72 [.d (rrsD z l),typedV t] (.d (.bool (decide (0<=idxI (fun r=>r.ty == t) l)))):=by
 refine qn (TT:=TT) (IN:=qd []) qf qe mixed 1000 Tryz.func72 rfl (qc Tryz.func72 (by kernel_rfl) rfl) rfl 7 (by kernel_rfl) ?_
 conv=>whnf
 refine oD (qv7 z l t hl) rfl rfl ?_
 conv=>whnf
 try exact rfl
def yq(a b:List UInt8):Bool:=(a.length == 8) && ((b == []) || (decide (8<=b.length) && decide (b.length<=32)))
theorem qx7(a b:List UInt8):FnOk Tryz.prog 91 [.d (.str a),.d (.str b)] (.d (.bool (yq a b))):=by
 refine qn (TT:=TT) (IN:=qd []) qf qe mixed 1000 Tryz.func91 rfl (qc Tryz.func91 (by kernel_rfl) rfl) rfl 20 (by kernel_rfl) ?_
 conv=>whnf
 refine⟨fun h1=>?_,fun h1=>?_⟩
 ·have h1:(a.length == 8)=true:=by simp at h1 ⊢;omega
  conv=>whnf
  refine⟨fun h2=>?_,fun h2=>?_⟩
  ·have h2:(b == [])=true:=h2
   have e:yq a b=true:=by unfold yq;rw[h1,h2];rfl
   rw[e]
   conv=>whnf
   try exact rfl
  ·have h2:(b == [])=false:=h2
   conv=>whnf
   refine⟨fun h3=>?_,fun h3=>?_⟩
   ·have h3:(b.length:Int) >= 8:=of_decide_eq_true h3
    have e:yq a b=decide ((b.length:Int)<=32):=by
     unfold yq;rw[h1,h2,decide_eq_true (p:=8<=b.length) (by omega)]
     simp only[Bool.true_and,Bool.false_or]
     exact decide_eq_decide.2 (by omega)
    rw[e]
    conv=>whnf
    try exact rfl
   ·have h3:¬ (b.length:Int) >= 8:=of_decide_eq_false h3
    have e:yq a b=false:=by
     unfold yq;rw[h1,h2,decide_eq_false (p:=8<=b.length) (by omega)];rfl
    rw[e]
    conv=>whnf
    try exact rfl
 ·have h1:(a.length == 8)=false:=by simp at h1 ⊢;omega
  have e:yq a b=false:=by unfold yq;rw[h1];rfl
  rw[e]
  conv=>whnf
  try exact rfl
def Msg.code(m:Msg):Int:=IntKind.i64.wrap (Go.bits BinOp.and IntKind.u16 m.bits 15)
def Msg.op(m:Msg):Int:=(IntKind.i64.wrap (Go.bits BinOp.and IntKind.u16 m.bits 30720)).fdiv (2 ^ 11)
theorem op_ok(m:Msg):FnOk Tryz.prog 118 [.agg m.cells] (.d (.int .i64 m.op)):=by
 refine qn (TT:=TT) (IN:=qd []) qf qe mixed 1000 Tryz.func118 rfl (qc Tryz.func118 (by kernel_rfl) rfl) rfl 7 (by kernel_rfl) ?_
 conv=>whnf
 refine⟨by decide,?_⟩
 conv=>whnf
 exact rfl
structure Ed where
 there:Bool
 size:Int
 high:Int
 ver:Int
 flags:Int
 zo:Bool
 opts:List Opt
def Ed.cells(e:Ed):List SV:=[.d (.bool e.there),.d (.int .u16 e.size),.d (.int .u8 e.high),.d (.int .u8 e.ver),.d (.int .u16 e.flags),.d (optsD e.zo e.opts)]
def Ed.no:Ed:=⟨false,0,0,0,0,true,[]⟩
def cookiesAt(text:List UInt8):List UInt8 × List UInt8 × Int :=
 if yq (text.take 8) (text.drop 8) then (text.take 8,text.drop 8,0) else ([],[],2)
def kx(l:List Opt):List UInt8 × List UInt8 × Int :=
 if idxI (fun o=>o.code == 10) l<0 then ([],[],3) else cookiesAt (l.getD (idxI (fun o=>o.code == 10) l).toNat default).data
theorem idxI_lt{α:Type}(p:α->Bool)(l:List α):idxI p l<l.length:=by
 unfold idxI
 cases h:l.findIdx? p with
 |none=>show(-1:Int)<_;omega
 |some i =>
  obtain⟨h1,_⟩:=List.findIdx?_eq_some_iff_getElem.1 h
  show(i:Int)<_
  omega
theorem cookies_ok(e:Ed)(hl:e.opts.length<4611686018427387904)(hd:∀ o ∈ e.opts,o.data.length<4611686018427387904):FnOk Tryz.prog 34 [.agg e.cells] (.tup [.d (.str (kx e.opts).1),.d (.str (kx e.opts).2.1),.d (.int .i64 (kx e.opts).2.2)]):=by
 refine qn (TT:=TT) (IN:=qd []) qf qe mixed 1000 Tryz.func34 rfl (qc Tryz.func34 (by kernel_rfl) rfl) rfl 36 (by kernel_rfl) ?_
 conv=>whnf
 refine .data _ (coded_ok 10) rfl rfl ?_
 conv=>whnf
 refine .data _ (oindex_ok e.zo e.opts 10 hl) rfl rfl ?_
 conv=>whnf
 have hlt:=idxI_lt (fun o=>o.code == 10) e.opts
 have hsp:kx e.opts=kx e.opts:=rfl
 conv at hsp=>rhs;unfold kx
 generalize idxI (fun o=>o.code == 10) e.opts=i at hlt hsp ⊢
 refine⟨fun h1=>?_,fun h1=>?_⟩
 ·have h1:i<0:=of_decide_eq_true h1
  rw [if_pos h1] at hsp
  rw[hsp]
  conv=>whnf
  repeat'(first|exact ⟨⟩|exact rfl|exact .inr rfl|exact .inl rfl|exact fun _ _=>rfl|exact noI|apply And.intro)
 have h1:¬ i<0:=of_decide_eq_false h1
 rw [if_neg h1] at hsp
 conv=>whnf
 refine⟨by omega,?_⟩
 conv=>whnf
 obtain⟨q,hq⟩:∃ q,e.opts.getD i.toNat default=q:=⟨_,rfl⟩
 have hq2:e.opts[i.toNat]? = some q:=by rw[<-hq,List.getD,List.getElem?_eq_getElem (by omega)];rfl
 have hqd:=hd q (List.mem_of_getElem? hq2)
 rw [hq] at hsp ⊢
 have hmin:(if (8:Int)<(q.data.length:Int) then (8:Int) else (q.data.length:Int))=((min 8 q.data.length:Nat):Int):=by split <;> omega
 rw[hmin]
 refine⟨by omega,?_⟩
 conv=>whnf
 refine⟨by omega,?_⟩
 conv=>whnf
 have e1:sub q.data 0 ((min 8 q.data.length:Nat):Int)=q.data.take 8:=by
  unfold sub
  rw[Int.toNat_natCast]
  simp
 have e2:sub q.data ((min 8 q.data.length:Nat):Int) (q.data.length:Int)=q.data.drop 8:=by
  unfold sub
  rw[Int.toNat_natCast,Int.toNat_natCast,List.take_of_length_le (by simp)]
  rcases Nat.le_total 8 q.data.length with h|h
  ·rw[Nat.min_eq_left h]
  ·rw[Nat.min_eq_right h,List.drop_eq_nil_of_le (Nat.le_refl _),List.drop_eq_nil_of_le h]
 rw[e1,e2]
 refine oD (qx7 _ _) rfl rfl ?_
 conv=>whnf
 unfold cookiesAt at hsp
 refine⟨fun h2=>?_,fun h2=>?_⟩
 ·have h2:yq (q.data.take 8) (q.data.drop 8)=false:=by simpa using h2
  rw [h2,if_neg (by simp)] at hsp
  rw[hsp]
  conv=>whnf
  repeat'(first|exact ⟨⟩|exact rfl|exact .inr rfl|exact .inl rfl|exact fun _ _=>rfl|exact noI|apply And.intro)
 ·have h2:yq (q.data.take 8) (q.data.drop 8)=true:=by simpa using h2
  rw [h2,if_pos rfl] at hsp
  rw[hsp]
  conv=>whnf
  repeat'(first|exact ⟨⟩|exact rfl|exact .inr rfl|exact .inl rfl|exact fun _ _=>rfl|exact noI|apply And.intro)
def codeV(m:Msg)(ver bad:Int):Int :=
 if m.asks.length≠1\/0<m.says.length\/0<m.heads.length\/bad=2 then 1 else
 if m.op≠0 then 4 else
 if ver > 0 then 16 else
 if (m.asks.getD 0 default).cl≠1\/Go.bits BinOp.and IntKind.u16 m.bits 256=0 then 5 else
 if (m.asks.getD 0 default).ty=0\/(m.asks.getD 0 default).ty=41\/(251<=(m.asks.getD 0 default).ty/\(m.asks.getD 0 default).ty<=255) then 5 else -1
theorem vcode_ok(m:Msg)(e:Ed)(bad:Int):FnOk Tryz.prog 55 [.agg m.cells,.agg e.cells,.d (.int .i64 bad)] (.d (.int .i64 (codeV m e.ver bad))):=by
 refine qn (TT:=TT) (IN:=qd []) qf qe mixed 1000 Tryz.func55 rfl (qc Tryz.func55 (by kernel_rfl) rfl) rfl 60 (by kernel_rfl) ?_
 have hsp:codeV m e.ver bad=codeV m e.ver bad:=rfl
 conv at hsp=>rhs;unfold codeV
 conv=>whnf
 refine⟨fun h1=>?_,fun h1=>?_⟩
 ·have h1:m.asks.length≠1:=by simp at h1;omega
  rw [if_pos (.inl h1)] at hsp
  rw[hsp]
  conv=>whnf
  repeat(first|(refine brT rfl ?_;conv=>whnf)|(refine brF rfl ?_;conv=>whnf))
  try exact rfl
 have h1:¬ m.asks.length≠1:=by simp at h1;omega
 conv=>whnf
 refine⟨fun h2=>?_,fun h2=>?_⟩
 ·have h2:0<m.says.length:=by
   have h:(m.says.length:Int) > 0:=of_decide_eq_true h2
   omega
  rw [if_pos (.inr (.inl h2))] at hsp
  rw[hsp]
  conv=>whnf
  repeat(first|(refine brT rfl ?_;conv=>whnf)|(refine brF rfl ?_;conv=>whnf))
  try exact rfl
 have h2:¬ 0<m.says.length:=by
  have h:¬ (m.says.length:Int) > 0:=of_decide_eq_false h2
  omega
 conv=>whnf
 refine⟨fun h3=>?_,fun h3=>?_⟩
 ·have h3:0<m.heads.length:=by
   have h:(m.heads.length:Int) > 0:=of_decide_eq_true h3
   omega
  rw [if_pos (.inr (.inr (.inl h3)))] at hsp
  rw[hsp]
  conv=>whnf
  repeat(first|(refine brT rfl ?_;conv=>whnf)|(refine brF rfl ?_;conv=>whnf))
  try exact rfl
 have h3:¬ 0<m.heads.length:=by
  have h:¬ (m.heads.length:Int) > 0:=of_decide_eq_false h3
  omega
 conv=>whnf
 refine⟨fun h4=>?_,fun h4=>?_⟩
 ·have h4:bad=2:=by simpa using h4
  rw [if_pos (.inr (.inr (.inr h4)))] at hsp
  rw[hsp]
  conv=>whnf
  try exact rfl
 have h4:¬ bad=2:=by simpa using h4
 rw [if_neg (by rintro (h|h|h|h) <;> contradiction)] at hsp
 have hq2:m.asks[0]? = some (m.asks.getD 0 default):=by rw[List.getD,List.getElem?_eq_getElem (by omega)];rfl
 conv=>whnf
 refine⟨by omega,?_⟩
 conv=>whnf
 rw[show(0:Int).toNat=0 from rfl]
 generalize m.asks.getD 0 default=q at hsp ⊢
 refine oD (op_ok m) rfl rfl ?_
 conv=>whnf
 refine⟨fun h5=>?_,fun h5=>?_⟩
 ·have h5:m.op≠0:=by simpa using h5
  rw [if_pos h5] at hsp
  rw[hsp]
  conv=>whnf
  try exact rfl
 have h5:¬ m.op≠0:=by simpa using h5
 rw [if_neg h5] at hsp
 conv=>whnf
 refine⟨fun h6=>?_,fun h6=>?_⟩
 ·have h6:e.ver > 0:=of_decide_eq_true h6
  rw [if_pos h6] at hsp
  rw[hsp]
  conv=>whnf
  try exact rfl
 have h6:¬ e.ver > 0:=of_decide_eq_false h6
 rw [if_neg h6] at hsp
 conv=>whnf
 refine⟨fun h7=>?_,fun h7=>?_⟩
 ·have h7a:q.cl≠1:=by simpa using h7
  rw [if_pos (.inl h7a)] at hsp
  rw[hsp]
  conv=>whnf
  refine brT h7 ?_
  conv=>whnf
  try exact rfl
 have h7:¬ q.cl≠1:=by simpa using h7
 conv=>whnf
 refine⟨fun h8=>?_,fun h8=>?_⟩
 ·have h8:Go.bits BinOp.and IntKind.u16 m.bits 256=0:=by simpa using h8
  rw [if_pos (.inr h8)] at hsp
  rw[hsp]
  conv=>whnf
  try exact rfl
 have h8:¬ Go.bits BinOp.and IntKind.u16 m.bits 256=0:=by simpa using h8
 rw [if_neg (by rintro (h|h) <;> contradiction)] at hsp
 conv=>whnf
 refine⟨fun h9=>?_,fun h9=>?_⟩
 ·have h9a:q.ty=0:=by simpa using h9
  rw [if_pos (.inl h9a)] at hsp
  rw[hsp]
  conv=>whnf
  refine brT h9 ?_
  conv=>whnf
  try exact rfl
 have h9:¬ q.ty=0:=by simpa using h9
 conv=>whnf
 refine⟨fun h10=>?_,fun h10=>?_⟩
 ·have h10a:q.ty=41:=by simpa using h10
  rw [if_pos (.inr (.inl h10a))] at hsp
  rw[hsp]
  conv=>whnf
  refine brT h10 ?_
  conv=>whnf
  try exact rfl
 have h10:¬ q.ty=41:=by simpa using h10
 conv=>whnf
 refine⟨fun h11=>?_,fun h11=>?_⟩
 ·have h11:251<=q.ty:=of_decide_eq_true h11
  conv=>whnf
  refine⟨fun h12=>?_,fun h12=>?_⟩
  ·have h12:q.ty<=255:=of_decide_eq_true h12
   rw [if_pos (.inr (.inr ⟨h11,h12⟩))] at hsp
   rw[hsp]
   conv=>whnf
   try exact rfl
  have h12:¬ q.ty<=255:=of_decide_eq_false h12
  rw [if_neg (by rintro (h|h|h) <;> omega)] at hsp
  rw[hsp]
  conv=>whnf
  try exact rfl
 ·have h11:¬ 251<=q.ty:=of_decide_eq_false h11
  rw [if_neg (by rintro (h|h|h) <;> omega)] at hsp
  rw[hsp]
  conv=>whnf
  try exact rfl
structure Sm where
 key:List UInt8
 text:List UInt8
 n:Int
instance:Inhabited Sm:=⟨⟨[],[],0⟩⟩
def Sm.enc(s:Sm):List DV:=[.str s.key,.str s.text,.int .u64 s.n]
def smsD(z:Bool)(l:List Sm):DV:=.sl z l.length 3 (fun i=>(l.getD i default).enc)
structure Hs where
 ideal:Bool
 z:Bool
 tab:List Sm
def Hs.cells(h:Hs):List SV:=[.d (.bool h.ideal),.d (smsD h.z h.tab)]
def ww(a b:List UInt8):Bool:=decide (qh a) && (decide (qh b) && fold a == fold b)
theorem fold_len(s:List UInt8):(fold s).length=s.length:=by simp[fold]
theorem jc2{s:List UInt8}(h:qh s):s.length<9223372036854775808:=by have:=h.2.1;omega
def qi8:Nat->List UInt8->Option (List (List UInt8))
 |0,_=>none
 |m+1,r=>if r.length=0 then none else if bt r 0=0 then (if r.length=1 then some [] else none) else
  if bt r 0 > 63\/1+bt r 0 > r.length then none else (qi8 m (r.drop (1+bt r 0))).map (fun ls=>(r.drop 1).take (bt r 0) :: ls)
def qh4(s:List UInt8):Option (List (List UInt8)):=if s.length > 255 then none else qi8 (s.length+1) s
theorem mk_len_cons0(l:List UInt8)(ls:List (List UInt8)):(mk (l :: ls)).length=1+l.length+(mk ls).length:=by simp[mk,zg]
theorem splitN_mk:∀ (m:Nat) (r:List UInt8) (ls:List (List UInt8)),qi8 m r=some ls->(∀ l ∈ ls,okL l)/\r=mk ls
 |0,_,_,h=>by cases h
 |m+1,r,ls,h=>by
  unfold qi8 at h
  split at h
  ·cases h
  ·rename_i h0
   split at h
   ·rename_i h1
    split at h
    ·rename_i h2
     cases h
     refine⟨fun l hl=>(by cases hl),?_⟩
     match r,h2 with
     |[b],_ =>
      have:b.toNat=0:=by simpa[bt] using h1
      rw[mk,UInt8.toNat_inj.1 (show b.toNat=(0:UInt8).toNat from this)]
    ·cases h
   ·rename_i h1
    split at h
    ·cases h
    ·rename_i h2
     obtain⟨ks,hk,rfl⟩:=Option.map_eq_some_iff.1 h
     obtain⟨a1,a2⟩:=splitN_mk m _ ks hk
     have hlen:((r.drop 1).take (bt r 0)).length=bt r 0:=by simp;omega
     refine⟨fun l hl=>?_,?_⟩
     ·rcases List.mem_cons.1 hl with rfl|hl
      ·unfold okL;omega
      ·exact a1 l hl
     ·rw[mk,<-a2]
      unfold lab
      rw[hlen]
      match r,h0 with
      |b :: r,_ =>
       have e:bt (b :: r) 0=b.toNat:=by simp[bt]
       rw[e]
       simp[show 1+b.toNat=b.toNat+1 by omega]
theorem splitN_of:∀ (ls:List (List UInt8)) (m:Nat),(∀ l ∈ ls,okL l)->(mk ls).length<=m->qi8 m (mk ls)=some ls
 |[],m,_,hm=>by
  cases m with
  |zero =>
   have:(mk []).length=1:=rfl
   omega
  |succ m=>rfl
 |l :: ls,m,h,hm=>by
  have hl:=h l (List.mem_cons_self ..)
  have hlen:=mk_len_cons0 l ls
  have hp:=uo ls
  cases m with
  |zero=>omega
  |succ m =>
   have hb:bt (mk (l :: ls)) 0=l.length:=x7 l (mk ls) hl
   have h1:=hl.1
   have h2:=hl.2
   unfold qi8
   rw[if_neg (by omega),hb,if_neg (by omega),if_neg (by omega)]
   have hd:(mk (l :: ls)).drop (1+l.length)=mk ls:=u7 l (mk ls)
   rw[hd,splitN_of ls m (fun x hx=>h x (List.mem_cons_of_mem _ hx)) (by omega)]
   show some ((((mk (l :: ls)).drop 1).take l.length) :: ls)=_
   have:((mk (l :: ls)).drop 1)=l++mk ls:=rfl
   rw[this,List.take_left]
theorem je3{s:List UInt8}{ls:List (List UInt8)}(h:qh4 s=some ls):s.length<=255/\(∀ l ∈ ls,okL l)/\s=mk ls:=by
 unfold qh4 at h
 split at h
 ·cases h
 ·exact⟨by omega,splitN_mk _ _ _ h⟩
theorem labelsOf_of{ls:List (List UInt8)}(h:∀ l ∈ ls,okL l)(hl:(mk ls).length<=255):qh4 (mk ls)=some ls:=by
 unfold qh4
 rw[if_neg (by omega)]
 exact splitN_of ls _ h (by omega)
theorem jl2(s:List UInt8):qh s↔(qh4 s).isSome=true:=by
 rw[qe0]
 constructor
 ·rintro ⟨h1,ls,h2,rfl⟩
  rw[labelsOf_of h2 h1]
  rfl
 ·intro h
  obtain⟨ls,hls⟩:=Option.isSome_iff_exists.1 h
  obtain⟨h1,h2,h3⟩:=je3 hls
  exact⟨h1,ls,h2,h3⟩
def labN(n:List UInt8):List (List UInt8):=(qh4 n).getD []
def fl(n:List UInt8):List (List UInt8):=(labN n).map fold
theorem qa1{n:List UInt8}(h:qh n):n.length<=255/\(∀ l ∈ labN n,okL l)/\n=mk (labN n):=by
 obtain⟨ls,e⟩:=Option.isSome_iff_exists.1 ((jl2 n).1 h)
 have:=je3 e
 unfold labN
 rw[e]
 exact this
theorem qo6(s:List UInt8):(fold s).length=s.length:=by simp[fold]
theorem okL_fold{l:List UInt8}(h:okL l):okL (fold l):=by unfold okL at *;rw [qo6];exact h
theorem low_small{k:Nat}(h:k<=63):low (UInt8.ofNat k)=UInt8.ofNat k:=by
 apply UInt8.toNat_inj.1
 rw[qn7,qd4 (by omega)]
 rw[if_neg (by omega)]
theorem fold_lab{l:List UInt8}(h:okL l):fold (lab l)=lab (fold l):=by
 unfold lab
 rw[qo6]
 show low (UInt8.ofNat l.length) :: fold l=_
 rw[low_small h.2]
theorem fold_append(a b:List UInt8):fold (a++b)=fold a++fold b:=by unfold fold;rw[List.map_append]
theorem fold_mk:∀ {ls:List (List UInt8)},(∀ l ∈ ls,okL l)->fold (mk ls)=mk (ls.map fold)
 |[],_=>rfl
 |l :: ls,h=>by
  show fold (lab l++mk ls)=lab (fold l)++mk (ls.map fold)
  rw[fold_append,fold_lab (h l (by simp)),fold_mk (fun x hx=>h x (by simp[hx]))]
theorem fl_ok{n:List UInt8}(h:qh n):∀ l ∈ fl n,okL l:=fun l hl=>by
 obtain⟨x,hx,rfl⟩:=List.mem_map.1 hl
 exact okL_fold ((qa1 h).2.1 x hx)
theorem fold_fl{n:List UInt8}(h:qh n):fold n=mk (fl n):=by
 obtain⟨_,h2,h3⟩:=qa1 h
 conv=>lhs;rw[h3]
 exact fold_mk h2
def jd(ls:List (List UInt8))(i:Nat):Nat:=(labs (ls.take i)).length
theorem jg7{ls:List (List UInt8)}{i:Nat}{l:List UInt8}(h:ls[i]? = some l):jd ls (i+1)=jd ls i+1+l.length:=by
 unfold jd
 rw[List.take_add_one,h]
 show(labs (ls.take i++[l])).length=_
 rw[je2,List.length_append]
 show _+(lab l++[]).length=_
 rw[List.append_nil,zg];omega
theorem qs2:∀ (a b:List (List UInt8)),mk (a++b)=labs a++mk b
 |[],_=>rfl
 |l :: a,b=>by
  show lab l++mk (a++b)=(lab l++labs a)++mk b
  rw[qs2 a b,List.append_assoc]
theorem qz0(ls:List (List UInt8))(i:Nat):(mk ls).drop (jd ls i)=mk (ls.drop i):=by
 have e:mk ls=labs (ls.take i)++mk (ls.drop i):=by rw[<-qs2,List.take_append_drop]
 unfold jd
 conv=>lhs;rw[e]
 rw[List.drop_left]
theorem pos_lt(ls:List (List UInt8))(i:Nat):jd ls i<(mk ls).length:=by
 have e:mk ls=labs (ls.take i)++mk (ls.drop i):=by rw[<-qs2,List.take_append_drop]
 rw[e,List.length_append]
 have:=uo (ls.drop i)
 unfold jd;omega
theorem pos_len(ls:List (List UInt8))(i:Nat):jd ls i+(mk (ls.drop i)).length=(mk ls).length:=by
 have e:mk ls=labs (ls.take i)++mk (ls.drop i):=by rw[<-qs2,List.take_append_drop]
 conv=>rhs;rw[e]
 rw[List.length_append];rfl
theorem bt_pos{ls:List (List UInt8)}(h:∀ l ∈ ls,okL l){i:Nat}{l:List UInt8}(hi:ls[i]? = some l):bt (mk ls) (jd ls i)=l.length:=by
 have hd:=qz0 ls i
 have hlt:=(List.getElem?_eq_some_iff.1 hi).1
 have e:ls.drop i=l :: ls.drop (i+1):=by
  rw[List.drop_eq_getElem_cons hlt,(List.getElem?_eq_some_iff.1 hi).2]
 have:=qi5 (mk ls) (jd ls i) 0
 rw [Nat.add_zero] at this
 rw[<-this,hd,e]
 exact x7 l (mk (ls.drop (i+1))) (h l (List.mem_of_getElem? hi))
theorem bt_end(ls:List (List UInt8)):bt (mk ls) (jd ls ls.length)=0:=by
 have hd:=qz0 ls ls.length
 have:=qi5 (mk ls) (jd ls ls.length) 0
 rw [Nat.add_zero] at this
 rw[<-this,hd,List.drop_length];rfl
theorem pos_mono{ls:List (List UInt8)}{i j:Nat}(h:i<j)(hj:j<=ls.length):jd ls i<jd ls j:=by
 induction j with
 |zero=>omega
 |succ j ih =>
  have hs:ls[j]? = some ls[j]:=List.getElem?_eq_getElem (by omega)
  have:=jg7 hs
  rcases Nat.lt_or_ge i j with hl|hl
  ·have:=ih hl (by omega);omega
  ·have:i=j:=by omega
   subst this;omega
def zy(n z:List UInt8):Bool:=decide (qh n) && (decide (qh z) && (fl z).isSuffixOf (fl n))
theorem withinN_iff{n z:List UInt8}:zy n z=true↔qh n/\qh z/\∃ j,j<=(labN n).length/\(fl n).drop j=fl z:=by
 unfold zy
 simp only[Bool.and_eq_true,decide_eq_true_eq,List.isSuffixOf_iff_suffix]
 refine and_congr_right fun h1=>and_congr_right fun h2=>?_
 constructor
 ·intro h
  have hl:=h.length_le
  refine⟨(fl n).length - (fl z).length,by unfold fl;simp,?_⟩
  exact(List.suffix_iff_eq_drop.1 h).symm
 ·rintro ⟨j,_,e⟩
  rw[<-e];exact List.drop_suffix j (fl n)
theorem within_at{n z:List UInt8}(hn:qh n)(hz:qh z){j:Nat}(hp:jd (labN n) j+z.length=n.length):(fold (n.drop (jd (labN n) j))=fold z)↔(fl n).drop j=fl z:=by
 obtain⟨_,h2,h3⟩:=qa1 hn
 have hd:n.drop (jd (labN n) j)=mk ((labN n).drop j):=by
  have:=qz0 (labN n) j
  rw [<-h3] at this
  exact this
 have h4:∀ l ∈ (labN n).drop j,okL l:=fun l hl=>h2 l (List.mem_of_mem_drop hl)
 rw[hd,fold_mk h4,fold_fl hz]
 have e:((labN n).drop j).map fold=(fl n).drop j:=by unfold fl;rw[List.map_drop]
 rw[e]
 refine⟨fun h=>mk_inj (fun l hl=>fl_ok hn l (List.mem_of_mem_drop hl)) (fl_ok hz) h,fun h=>by rw[h]⟩
theorem qt7:∀ {ls:List (List UInt8)},(mk (ls.map fold)).length=(mk ls).length
 |[]=>rfl
 |l :: ls=>by
  show(lab (fold l)++mk (ls.map fold)).length=(lab l++mk ls).length
  rw[List.length_append,List.length_append,zg,zg,qo6,qt7]
theorem jf5{n z:List UInt8}(hn:qh n)(hz:qh z){j:Nat}(h:(fl n).drop j=fl z):jd (labN n) j+z.length=n.length:=by
 obtain⟨_,_,h3⟩:=qa1 hn
 obtain⟨_,_,h4⟩:=qa1 hz
 have e:(mk ((labN n).drop j)).length=z.length:=by
  have:mk (((labN n).drop j).map fold)=mk ((labN z).map fold):=by
   rw[List.map_drop]
   exact congrArg mk h
  have:=congrArg List.length this
  rw [qt7,qt7,<-h4] at this
  exact this
 rw[<-e]
 conv=>rhs;rw[h3]
 exact pos_len (labN n) j
theorem isName_fold{n:List UInt8}(h:qh n):qh (fold n):=by
 rw[fold_fl h]
 refine(qe0 _).2 ⟨?_,fl n,fl_ok h,rfl⟩
 rw[<-fold_fl h,qo6]
 exact(qa1 h).1
def AnL:List SV->List SV->Prop
 |[],[]=>True
 |a :: l,b :: m=>(b = .any\/a=b)/\AnL l m
 |_,_=>False
theorem AnL.len:∀ {l m:List SV},AnL l m->l.length=m.length
 |[],[],_=>rfl
 |_ :: _,_ :: _,h=>congrArg (· + 1) (AnL.len h.2)
theorem AnL.at:∀ {l m:List SV},AnL l m->∀ (j:Nat) (s t:SV),l[j]? = some s->m[j]? = some t->t = .any\/s=t
 |[],[],_,_,_,_,ht,_=>by simp at ht
 |_ :: _,_ :: _,h,0,s,t,hs,ht=>by simp at hs ht;subst hs ht;exact h.1
 |_ :: l,_ :: m,h,j+1,s,t,hs,ht=>AnL.at (l:=l) (m:=m) h.2 j s t (by simpa using hs) (by simpa using ht)
theorem COk.anyA{P:Program}{f:FuncId}{args args':List SV}{ks:List KB}{R:SV->List KB->Prop}(h:COk P f args ks R)(hc:AnL args' args):COk P f args' ks R :=
 ⟨h.1,fun X w β fp vs hM hl hd=>h.2 X w β fp vs hM (by rw[<-hc.len,hl]) (fun j s u hs hu=>by
  have hj:j<args'.length:=by rw[hc.len];exact(List.getElem?_eq_some_iff.1 hs).1
  have hb:=hd j _ u (List.getElem?_eq_getElem hj) hu
  rcases hc.at j _ s (List.getElem?_eq_getElem hj) hs with e|e
  ·subst e;exact .any u
  ·rw[<-e];exact hb)⟩
theorem qa{n:Nat}(z:Z):SubZ n z z:=by cases z <;> exact True.intro
def iV(x:Nat):SV:=.d (.int .i64 (x:Int))
instance (s:List UInt8):Decidable (qh s):=by unfold qh;infer_instance
theorem qq5(s:List UInt8)(a:Nat):sub s (a:Int) (s.length:Int)=s.drop a:=by
 unfold sub
 rw[Int.toNat_natCast,Int.toNat_natCast,List.take_of_length_le (by simp)]
def countN(n:List UInt8):Nat:=if qh n then (labN n).length else 0
structure Zo where
 apex:List UInt8
 z:Bool
 rrs:List RR
instance:Inhabited Zo:=⟨⟨[],true,[]⟩⟩
def x9(apex:List UInt8)(r:RR):Bool:=r.cl == 1 && (r.ty != 41 && (r.ttl != 0 && (r.check && zy r.nm apex)))
def keyZ(r:RR):List UInt8 × Int × Int × List UInt8:=(fold r.nm,r.ty,r.cl,jx r.ty r.d)
def cntZ(p:RR->Bool)(l:List RR)(n:List UInt8):Nat:=(l.filter fun r=>fold r.nm == n && p r).length
def zb(r:RR):Bool:=r.ty == 6
def isNs(r:RR):Bool:=r.ty == 2
def vp(r:RR):Bool:=r.ty == 5
def jv(r:RR):Bool:=r.ty == 1 || r.ty == 28
def anyR(_:RR):Bool:=true
def upsF:Nat->List UInt8->List (List UInt8)
 |0,_=>[]
 |k+1,n=>n :: (if n=[0] then [] else upsF k (n.drop (1+bt n 0)))
def upsN(n:List UInt8):List (List UInt8):=if qh n then upsF n.length n else []
def zj(l:List RR)(name top:List UInt8):List (List UInt8)->Bool
 |[]=>true
 |u :: r=>if u=top then true else if u≠name/\0<cntZ isNs l u then cntZ anyR l name == cntZ jv l name else zj l name top r
def qx(l:List RR)(top name:List UInt8):Bool :=
 if 0<cntZ vp l name/\1<cntZ anyR l name then false else if name=top then true
 else if 0<cntZ zb l name\/(0<cntZ isNs l name/\cntZ isNs l name+cntZ jv l name<cntZ anyR l name) then false
 else zj l name top (upsN name)
def ky(z:Zo):Bool:=cntZ zb z.rrs (fold z.apex) == 1 && (cntZ isNs z.rrs (fold z.apex) != 0 && z.rrs.all fun r=>qx z.rrs (fold z.apex) (fold r.nm))
def qa6:List RR->Bool
 |[]=>true
 |r :: l=>(l.all fun x=>keyZ x != keyZ r) && qa6 l
def Zo.ok(z:Zo):Bool:=decide (qh z.apex) && (decide (z.rrs.length<=256) && (z.rrs.all (x9 z.apex) && (qa6 z.rrs && ky z)))
def Zo.cutL(z:Zo):List (List UInt8):=(z.rrs.filter fun r=>isNs r && !ww r.nm z.apex).map (·.nm)
section
section
variable{K V:Type}[DecidableEq K]
def aget:List (K × V)->K->Option V
 |[],_=>none
 |e :: l,k=>if k=e.1 then some e.2 else aget l k
def aput:List (K × V)->K->V->List (K × V)
 |[],k,v=>[(k,v)]
 |e :: l,k,v=>if k=e.1 then (k,v) :: l else e :: aput l k v
theorem aget_put(l:List (K × V))(k:K)(v:V)(k':K):aget (aput l k v) k'=if k'=k then some v else aget l k':=by
 induction l with
 |nil=>simp[aput,aget]
 |cons e l ih =>
  simp only[aput]
  split
  ·rename_i h
   subst h
   simp only[aget]
   split <;> simp_all
  ·rename_i h
   simp only[aget,ih]
   split
   ·rename_i h1
    rw[if_neg (fun e1:k'=k=>h (e1.symm.trans h1))]
   ·rfl
def aenc(ek:K->List DV)(ev:V->List SV)(l:List (K × V)):List (List DV × List SV):=l.map fun e=>(ek e.1,ev e.2)
theorem vl{ek:K->List DV}{ev:V->List SV}(hk:∀ a b,jj (ek a) (ek b)=decide (a=b))(l:List (K × V))(k:K):yp (aenc ek ev l) (ek k)=(aget l k).map ev:=by
 induction l with
 |nil=>rfl
 |cons e l ih =>
  show(if jj (ek k) (ek e.1) then some (ev e.2) else yp (aenc ek ev l) (ek k))=_
  rw[hk,ih,aget]
  by_cases h:k=e.1
  ·simp[h]
  ·simp[h]
theorem qi0{ek:K->List DV}{ev:V->List SV}(hk:∀ a b,jj (ek a) (ek b)=decide (a=b))(l:List (K × V))(k:K)(v:V):putM (aenc ek ev l) (ek k) (ev v)=aenc ek ev (aput l k v):=by
 induction l with
 |nil=>rfl
 |cons e l ih =>
  show(if jj (ek k) (ek e.1) then _ else (ek e.1,ev e.2) :: putM (aenc ek ev l) (ek k) (ev v))=_
  rw[hk,ih,aput]
  by_cases h:k=e.1
  ·simp[h,aenc]
  ·simp[h,aenc]
end
def strK(s:List UInt8):List DV:=[.str s]
theorem zz(a b:List UInt8):jj (strK a) (strK b)=decide (a=b):=by
 rw[Bool.eq_iff_iff]
 simp[strK,jj,dEq]
def zk(k:List UInt8 × Int × Int × List UInt8):List DV:=[.str k.1,.int .u16 k.2.1,.int .u16 k.2.2.1,.str k.2.2.2]
theorem saidK_eq(a b:List UInt8 × Int × Int × List UInt8):jj (zk a) (zk b)=decide (a=b):=by
 rw[Bool.eq_iff_iff]
 obtain⟨a1,a2,a3,a4⟩:=a
 obtain⟨b1,b2,b3,b4⟩:=b
 simp[zk,jj,dEq,kEq]
structure Hd where
 all:Nat
 soa:Nat
 ns:Nat
 alias:Nat
 addr:Nat
deriving DecidableEq
def Hd.no:Hd:=⟨0,0,0,0,0⟩
def Hd.enc(h:Hd):List SV:=[.d (.int .i64 (h.all:Nat)),.d (.int .i64 (h.soa:Nat)),.d (.int .i64 (h.ns:Nat)),.d (.int .i64 (h.alias:Nat)),.d (.int .i64 (h.addr:Nat))]
def Hd.add(h:Hd)(r:RR):Hd:=⟨h.all+1,if r.ty=6 then h.soa+1 else h.soa,if r.ty=2 then h.ns+1 else h.ns,if r.ty=5 then h.alias+1 else h.alias,if r.ty=1\/r.ty=28 then h.addr+1 else h.addr⟩
def jz(l:List RR)(n:List UInt8):Hd:=⟨cntZ anyR l n,cntZ zb l n,cntZ isNs l n,cntZ vp l n,cntZ jv l n⟩
def qb:List RR->List (List UInt8 × Hd)
 |l=>l.foldl (fun m r=>aput m (fold r.nm) (((aget m (fold r.nm)).getD Hd.no).add r)) []
theorem cnt_snoc(p:RR->Bool)(l:List RR)(r:RR)(n:List UInt8):cntZ p (l++[r]) n=cntZ p l n+(if fold r.nm=n/\p r=true then 1 else 0):=by
 unfold cntZ
 rw[List.filter_append,List.length_append]
 congr 1
 by_cases h:fold r.nm=n <;> cases hp:p r <;> simp[h,hp]
theorem uf(l:List RR)(r:RR):qb (l++[r])=aput (qb l) (fold r.nm) (((aget (qb l) (fold r.nm)).getD Hd.no).add r):=by
 unfold qb
 rw[List.foldl_append]
 rfl
theorem holds_snoc(l:List RR)(r:RR)(n:List UInt8):jz (l++[r]) n=if n=fold r.nm then (jz l n).add r else jz l n:=by
 unfold jz Hd.add
 simp only[cnt_snoc]
 by_cases h:n=fold r.nm
 ·rw[if_pos h]
  have h':fold r.nm=n:=h.symm
  simp only[h',true_and,anyR,zb,isNs,vp,jv,if_true,beq_iff_eq,Bool.or_eq_true]
  congr 1 <;> (split <;> rfl)
 ·rw[if_neg h]
  have h':¬ fold r.nm=n:=fun e=>h e.symm
  simp[h']
theorem qm0{α:Type}{P:List α->Prop}(h0:P [])(h1:∀ l a,P l->P (l++[a])):∀ l,P l:=fun l=>by
 rw[<-l.reverse_reverse]
 induction l.reverse with
 |nil=>exact h0
 |cons a m ih=>rw[List.reverse_cons];exact h1 _ _ ih
theorem qe3(l:List RR)(n:List UInt8):(aget (qb l) n).getD Hd.no=jz l n:=by
 refine qm0 (P:=fun l=>(aget (qb l) n).getD Hd.no=jz l n) rfl (fun l r ih=>?_) l
 ·rw[uf,aget_put,holds_snoc]
  by_cases h:n=fold r.nm
  ·rw[if_pos h,if_pos h,<-h,ih]
   rfl
  ·rw[if_neg h,if_neg h,ih]
theorem aget_mem{K V:Type}[DecidableEq K]{l:List (K × V)}{k:K}{v:V}(h:aget l k=some v):(k,v) ∈ l:=by
 induction l with
 |nil=>cases h
 |cons e l ih =>
  simp only [aget] at h
  split at h
  ·rename_i e1
   simp only [Option.some.injEq] at h
   subst e1 h
   exact List.mem_cons_self ..
  ·exact List.mem_cons_of_mem _ (ih h)
def Keys{K V:Type}(l:List (K × V)):Prop:=l.Pairwise fun e e'=>e.1≠e'.1
theorem mem_aget{K V:Type}[DecidableEq K]{l:List (K × V)}(hk:Keys l){e:K × V}(h:e ∈ l):aget l e.1=some e.2:=by
 induction l with
 |nil=>cases h
 |cons x l ih =>
  obtain⟨h1,h2⟩:=List.pairwise_cons.1 hk
  simp only[aget]
  rcases List.mem_cons.1 h with rfl|h
  ·rw[if_pos rfl]
  ·rw[if_neg (fun e1=>h1 e h e1.symm),ih h2 h]
theorem aput_mem{K V:Type}[DecidableEq K]{l:List (K × V)}{k:K}{v:V}{e:K × V}(h:e ∈ aput l k v):e=(k,v)\/e ∈ l:=by
 induction l with
 |nil=>exact .inl (by simpa[aput] using h)
 |cons x l ih =>
  simp only [aput] at h
  split at h
  ·rcases List.mem_cons.1 h with rfl|h
   ·exact .inl rfl
   ·exact .inr (List.mem_cons_of_mem _ h)
  ·rcases List.mem_cons.1 h with rfl|h
   ·exact .inr (List.mem_cons_self ..)
   ·exact(ih h).imp id (List.mem_cons_of_mem _)
theorem aput_keys{K V:Type}[DecidableEq K]{l:List (K × V)}(hk:Keys l)(k:K)(v:V):Keys (aput l k v):=by
 induction l with
 |nil=>exact List.pairwise_singleton _ _
 |cons x l ih =>
  obtain⟨h1,h2⟩:=List.pairwise_cons.1 hk
  simp only[aput]
  split
  ·rename_i e
   subst e
   exact List.pairwise_cons.2 ⟨h1,h2⟩
  ·rename_i e
   refine List.pairwise_cons.2 ⟨fun y hy=>?_,ih h2⟩
   rcases aput_mem hy with rfl|hy
   ·exact fun e1=>e e1.symm
   ·exact h1 y hy
theorem jd8(l:List RR):Keys (qb l):=by
 refine qm0 (P:=fun l=>Keys (qb l)) List.Pairwise.nil (fun l r ih=>?_) l
 rw[uf]
 exact aput_keys ih _ _
theorem namesL_mem{l:List RR}{e:List UInt8 × Hd}(h:e ∈ qb l):e.2=jz l e.1:=by
 have:=qe3 l e.1
 rw [mem_aget (jd8 l) h] at this
 exact this
theorem namesL_of{l:List RR}{e:List UInt8 × Hd}(h:e ∈ qb l):∃ r ∈ l,fold r.nm=e.1:=by
 revert e
 refine qm0 (P:=fun l=>∀ {e:List UInt8 × Hd},e ∈ qb l->∃ r ∈ l,fold r.nm=e.1) (fun h=>by cases h) (fun l r ih e h=>?_) l
 rw [uf] at h
 rcases aput_mem h with rfl|h
 ·exact⟨r,by simp,rfl⟩
 ·obtain⟨x,hx,e1⟩:=ih h
  exact⟨x,by simp[hx],e1⟩
theorem namesL_has{l:List RR}{r:RR}(h:r ∈ l):∃ e ∈ qb l,e.1=fold r.nm:=by
 revert r
 refine qm0 (P:=fun l=>∀ {r:RR},r ∈ l->∃ e ∈ qb l,e.1=fold r.nm) (fun h=>by cases h) (fun l x ih r h=>?_) l
 have hget:∀ k,(aget (qb (l++[x])) k).isSome->∃ e ∈ qb (l++[x]),e.1=k:=fun k hk=>by
  obtain⟨v,hv⟩:=Option.isSome_iff_exists.1 hk
  exact⟨(k,v),aget_mem hv,rfl⟩
 refine hget _ ?_
 rw[uf,aget_put]
 split
 ·rfl
 ·rename_i hne
  rcases List.mem_append.1 h with h|h
  ·obtain⟨e,he,e1⟩:=ih h
   rw[<-e1,mem_aget (jd8 l) he]
   rfl
  ·simp at h
   subst h
   exact absurd rfl hne
theorem names_all(l:List RR)(p:List UInt8->Bool):((qb l).all fun e=>p e.1)=l.all fun r=>p (fold r.nm):=by
 rw[Bool.eq_iff_iff,List.all_eq_true,List.all_eq_true]
 constructor
 ·intro h r hr
  obtain⟨e,he,e1⟩:=namesL_has hr
  rw[<-e1]
  exact h e he
 ·intro h e he
  obtain⟨r,hr,e1⟩:=namesL_of he
  rw[<-e1]
  exact h r hr
def jm(l:List RR):List ((List UInt8 × Int × Int × List UInt8) × Nat):=l.map fun r=>(keyZ r,1)
theorem said_get(l:List RR)(k:List UInt8 × Int × Int × List UInt8):aget (jm l) k=if l.any (fun r=>keyZ r == k) then some 1 else none:=by
 induction l with
 |nil=>rfl
 |cons r l ih =>
  show(if k=keyZ r then some 1 else aget (jm l) k)=_
  rw[ih,List.any_cons]
  by_cases h:k=keyZ r
  ·subst h;simp
  ·have h':(keyZ r == k)=false:=by simpa using fun e=>h e.symm
   rw[if_neg h,h',Bool.false_or]
theorem said_snoc(l:List RR)(r:RR):jm (l++[r])=jm l++[(keyZ r,1)]:=by unfold jm;simp
theorem once_snoc(l:List RR)(r:RR):qa6 (l++[r])=(qa6 l && !l.any (fun x=>keyZ x == keyZ r)):=by
 induction l with
 |nil=>rfl
 |cons x l ih =>
  show(((l++[r]).all fun y=>keyZ y != keyZ x) && qa6 (l++[r]))=((l.all fun y=>keyZ y != keyZ x) && qa6 l && !((keyZ x == keyZ r) || l.any fun y=>keyZ y == keyZ r))
  rw[ih,List.all_append,List.all_cons,List.all_nil,Bool.and_true]
  have e:(keyZ r != keyZ x) = !(keyZ x == keyZ r):=by
   rw[Bool.eq_iff_iff]
   simp only[bne_iff_ne,Bool.not_eq_true',beq_eq_false_iff_ne]
   exact⟨fun h e=>h e.symm,fun h e=>h e.symm⟩
  rw[e]
  cases (l.all fun y=>keyZ y != keyZ x) <;> cases qa6 l <;> cases (keyZ x == keyZ r) <;> cases (l.any fun y=>keyZ y == keyZ r) <;> rfl
def zr(apex:List UInt8)(l:List RR):Bool:=l.all (x9 apex) && qa6 l
theorem jf8(apex:List UInt8)(l:List RR)(r:RR):zr apex (l++[r])=(zr apex l && (x9 apex r && !l.any (fun x=>keyZ x == keyZ r))):=by
 unfold zr
 rw[once_snoc,List.all_append,List.all_cons,List.all_nil,Bool.and_true]
 cases l.all (x9 apex) <;> cases qa6 l <;> cases x9 apex r <;> cases (l.any fun y=>keyZ y == keyZ r) <;> rfl
theorem taken_bad{apex:List UInt8}{l:List RR}{i:Nat}(h:zr apex (l.take i)=false):zr apex l=false:=by
 have hl:l=l.take i++l.drop i:=(List.take_append_drop i l).symm
 cases e:zr apex l with
 |false=>rfl
 |true =>
  exfalso
  have:∀ (m n:List RR),zr apex (m++n)=true->zr apex m=true:=by
   intro m n
   refine qm0 (P:=fun n=>zr apex (m++n)=true->zr apex m=true) (fun h=>by rwa [List.append_nil] at h) (fun n r ih h=>?_) n
   rw [<-List.append_assoc,jf8,Bool.and_eq_true] at h
   exact ih h.1
  rw [hl] at e
  rw [this _ _ e] at h
  cases h
theorem Zo.ok_eq(z:Zo):z.ok=(decide (qh z.apex) && (decide (z.rrs.length<=256) && (zr z.apex z.rrs && ky z))):=by
 unfold Zo.ok zr
 rw[Bool.and_assoc (z.rrs.all (x9 z.apex))]
end
theorem within_law{n z:List UInt8}(hn:qh n)(hz:qh z)(hl:z.length<=n.length)(b:Bool)(hb:b=true↔∃ j,j<=(labN n).length/\jd (labN n) j=n.length - z.length) :
 (b && (fold (n.drop (n.length - z.length)) == fold z))=zy n z:=by
 rw[Bool.eq_iff_iff,withinN_iff,Bool.and_eq_true,hb,beq_iff_eq]
 constructor
 ·rintro ⟨⟨j,hj,hp⟩,hf⟩
  refine⟨hn,hz,j,hj,?_⟩
  exact(within_at hn hz (j:=j) (by omega)).1 (by rw[hp];exact hf)
 ·rintro ⟨_,_,j,hj,hf⟩
  have hp:=jf5 hn hz hf
  refine⟨⟨j,hj,by omega⟩,?_⟩
  have:=(within_at hn hz (j:=j) hp).2 hf
  rwa [show jd (labN n) j=n.length - z.length by omega] at this
theorem within_long{n z:List UInt8}(hl:n.length<z.length):zy n z=false:=by
 cases h:zy n z
 ·rfl
 ·obtain⟨hn,hz,j,_,hf⟩:=withinN_iff.1 h
  have:=jf5 hn hz hf
  omega
theorem ql1(n z:List UInt8):FnOk Tryz.prog 16 [.d (.str n),.d (.str z)] (.d (.bool (zy n z))):=by
 refine qn (TT:=TT) (IN:=qd [(50,Tryz.f50,1),(115,Tryz.f115,2)]) qf (qv (qv qe Tryz.func115 (by kernel_rfl) (by kernel_rfl)) Tryz.func50 (by kernel_rfl) (by kernel_rfl)) mixed 1000 Tryz.func16 rfl (qc Tryz.func16 (by kernel_rfl) rfl) rfl 50 (by kernel_rfl) ?_
 conv=>whnf
 refine oD (j5 n) rfl rfl ?_
 by_cases hn:qh n
 case neg =>
  rw[if_neg hn,show zy n z=false by unfold zy;rw[decide_eq_false hn];rfl]
  conv=>whnf
  repeat(first|(refine brT rfl ?_;conv=>whnf))
  try exact rfl
 rw[if_pos hn]
 conv=>whnf
 refine brF rfl ?_
 conv=>whnf
 refine oD (j5 z) rfl rfl ?_
 by_cases hz:qh z
 case neg =>
  rw[if_neg hz,show zy n z=false by unfold zy;rw[decide_eq_false hz,Bool.false_and,Bool.and_false]]
  conv=>whnf
  repeat(first|(refine brT rfl ?_;conv=>whnf))
  try exact rfl
 rw[if_pos hz]
 conv=>whnf
 refine brF rfl ?_
 conv=>whnf
 refine⟨fun h1=>?_,fun h1=>?_⟩
 ·have h1:(z.length:Int) > n.length:=of_decide_eq_true h1
  rw[within_long (by omega)]
  conv=>whnf
  try exact rfl
 have h1:¬ (z.length:Int) > n.length:=of_decide_eq_false h1
 obtain⟨hn1,hn2,hn3⟩:=qa1 hn
 have hz1:=hz.2.1
 have hmw:IntKind.i64.wrap ((n.length:Int) - (z.length:Int))=((n.length - z.length:Nat):Int):=by rw[qg _ (by omega)];omega
 have hlaw:=within_law hn hz (by omega)
 have hzero:(((n.length - z.length:Nat):Int) == 0)=decide (n.length - z.length=0):=by rw[Bool.eq_iff_iff];simp
 conv=>whnf
 rw[hmw,hzero]
 have hend:∀ i,jd (labN n) i<n.length:=fun i=>by have:=pos_lt (labN n) i;rw [<-hn3] at this;exact this
 have hbt:∀ i l,(labN n)[i]? = some l->bt n (jd (labN n) i)=l.length:=fun i l h=>by
  have:=bt_pos hn2 h
  rw [<-hn3] at this;exact this
 have hbe:bt n (jd (labN n) (labN n).length)=0:=by
  have:=bt_end (labN n)
  rw [<-hn3] at this;exact this
 generalize labN n=ls at hn2 hn3 hlaw hend hbt hbe
 obtain⟨m,hm⟩:∃ m,n.length - z.length=m:=⟨_,rfl⟩
 rw [hm] at hlaw ⊢
 refine .inv Nat (fun i=>i<=ls.length/\∀ j,0<j->j<=i->jd ls j<m) (fun i=>[(3,iV (jd ls i))]) (fun _=>[]) (fun i=>ls.length - i) ⟨0,[0,1,2,3],⟨Nat.zero_le _,fun j h1 h2=>by omega⟩,?_⟩ ?_
 ·conv=>whnf
  repeat'(first|exact ⟨⟩|exact rfl|exact qa _|exact .inr rfl|exact fun _ _=>rfl|exact noI|apply And.intro)
 intro i hi
 obtain⟨hi1,hi2⟩:=hi
 have hp:=hend i
 conv=>whnf
 refine brT (decide_eq_true (by omega)) ?_
 conv=>whnf
 refine⟨by omega,?_⟩
 conv=>whnf
 rw[zl,qg (bt n (jd ls i):Int) (by have:=bt_lt n (jd ls i);omega)]
 rcases Nat.lt_or_ge i ls.length with hlt|hge
 ·have hli:ls[i]? = some ls[i]:=List.getElem?_eq_getElem hlt
  have hb:=hbt i _ hli
  have hok:=hn2 _ (List.getElem_mem hlt)
  have hps:=jg7 hli
  have hp2:=hend (i+1)
  rw[hb]
  generalize ls[i]=l at hli hb hok hps
  obtain⟨ho1,ho2⟩:=hok
  refine brF (by rw[beq_eq_false_iff_ne];omega) ?_
  conv=>whnf
  refine brF (decide_eq_false (by omega)) ?_
  conv=>whnf
  have e1:IntKind.i64.wrap ((n.length:Int) - (jd ls i:Int))=((n.length - jd ls i:Nat):Int):=by rw[qg _ (by omega)];omega
  rw[e1]
  refine brF (decide_eq_false (by omega)) ?_
  conv=>whnf
  have e2:IntKind.i64.wrap ((jd ls i:Int)+IntKind.i64.wrap (1+(l.length:Int)))=((jd ls (i+1):Nat):Int):=by rw[qg (1+(l.length:Int)) (by omega),qg _ (by omega)];omega
  rw[e2]
  refine⟨fun h2=>?_,fun h2=>?_⟩
  ·have h2:m<=jd ls (i+1):=by
    have h:((jd ls (i+1):Nat):Int) >= (m:Int):=of_decide_eq_true h2
    omega
   conv=>whnf
   refine⟨fun h3=>?_,fun h3=>?_⟩
   ·have h3:m=0:=of_decide_eq_true h3
    conv=>whnf
    rw[<-hlaw true ⟨fun _=>⟨0,Nat.zero_le _,h3.symm⟩,fun _=>rfl⟩]
    refine⟨by omega,?_⟩
    conv=>whnf
    rw[qq5]
    refine oD (xo _ (by rw[List.length_drop];omega)) rfl rfl ?_
    conv=>whnf
    refine oD (xo z (by omega)) rfl rfl ?_
    conv=>whnf
    try exact rfl
   ·have h3:¬ m=0:=of_decide_eq_false h3
    conv=>whnf
    refine⟨fun h4=>?_,fun h4=>?_⟩
    ·have h4:jd ls (i+1)=m:=by simp at h4;omega
     conv=>whnf
     rw[<-hlaw true ⟨fun _=>⟨i+1,hlt,h4⟩,fun _=>rfl⟩]
     refine⟨by omega,?_⟩
     conv=>whnf
     rw[qq5]
     refine oD (xo _ (by rw[List.length_drop];omega)) rfl rfl ?_
     conv=>whnf
     refine oD (xo z (by omega)) rfl rfl ?_
     conv=>whnf
     try exact rfl
    ·have h4:¬ jd ls (i+1)=m:=by simp at h4;omega
     have hno:¬ ∃ j,j<=ls.length/\jd ls j=m:=by
      rintro ⟨j,j1,j2⟩
      rcases Nat.lt_trichotomy j (i+1) with x|x|x
      ·rcases Nat.eq_zero_or_pos j with y|y
       ·subst y;exact h3 j2.symm
       ·have:=hi2 j y (by omega);omega
      ·subst x;exact h4 j2
      ·have:=pos_mono x j1;omega
     rw[<-hlaw false ⟨fun h=>(by cases h),fun h=>absurd h hno⟩]
     conv=>whnf
     try exact rfl
  ·have h2:jd ls (i+1)<m:=by
    have h:¬ ((jd ls (i+1):Nat):Int) >= (m:Int):=of_decide_eq_false h2
    omega
   conv=>whnf
   refine⟨i+1,[0,1,2,3],⟨hlt,fun j k1 k2=>?_⟩,by omega,?_⟩
   ·rcases Nat.lt_or_ge j (i+1) with x|x
    ·exact hi2 j k1 (by omega)
    ·rw[show j=i+1 by omega];exact h2
   conv=>whnf
   repeat'(first|exact ⟨⟩|exact rfl|exact qa _|exact .inr rfl|exact fun _ _=>rfl|exact noI|apply And.intro)
 ·have hil:i=ls.length:=by omega
  subst hil
  rw[hbe]
  conv=>whnf
  refine brT rfl ?_
  conv=>whnf
  refine⟨fun h3=>?_,fun h3=>?_⟩
  ·have h3:m=0:=of_decide_eq_true h3
   conv=>whnf
   rw[<-hlaw true ⟨fun _=>⟨0,Nat.zero_le _,h3.symm⟩,fun _=>rfl⟩]
   refine⟨by omega,?_⟩
   conv=>whnf
   rw[qq5]
   refine oD (xo _ (by rw[List.length_drop];omega)) rfl rfl ?_
   conv=>whnf
   refine oD (xo z (by omega)) rfl rfl ?_
   conv=>whnf
   try exact rfl
  ·have h3:¬ m=0:=of_decide_eq_false h3
   have hno:¬ ∃ j,j<=ls.length/\jd ls j=m:=by
    rintro ⟨j,j1,j2⟩
    rcases Nat.eq_zero_or_pos j with y|y
    ·subst y;exact h3 j2.symm
    ·have:=hi2 j y j1;omega
   rw[<-hlaw false ⟨fun h=>(by cases h),fun h=>absurd h hno⟩]
   conv=>whnf
   try exact rfl
end Go.Proofs.YtiiafibkblpbcaaGreat
namespace Go.Proofs.YtiiafibkblpbcaaGreat
section
def rot{α:Type}(p:Nat->α)(a m b:Nat):Nat->α:=fun x=>if a<=x/\x<a+(b - m) then p (x+(m - a)) else if a+(b - m)<=x/\x<b then p (x - (b - m)) else p x
def swp{α:Type}(p:Nat->α)(a b n:Nat):Nat->α:=fun x=>if a<=x/\x<a+n then p (x+(b - a)) else if b<=x/\x<b+n then p (x - (b - a)) else p x
theorem rot_id1{α:Type}(p:Nat->α)(a b:Nat)(h:a<=b):rot p a a b=p:=by
 funext x;unfold rot;(try dsimp only);repeat' split
 all_goals first|rfl|(exfalso;omega)|(congr 1;omega)
theorem rot_id2{α:Type}(p:Nat->α)(a b:Nat)(h:a<=b):rot p a b b=p:=by
 funext x;unfold rot;(try dsimp only);repeat' split
 all_goals first|rfl|(exfalso;omega)|(congr 1;omega)
theorem swp_zero{α:Type}(p:Nat->α)(a b:Nat):swp p a b 0=p:=by
 funext x;unfold swp;(try dsimp only);repeat' split
 all_goals first|rfl|(exfalso;omega)
theorem rot_left{α:Type}(p:Nat->α)(m i j:Nat)(hi:j<i)(him:i<=m):rot (swp p (m - i) m j) (m - (i - j)) m (m+j)=rot p (m - i) m (m+j):=by
 funext x;unfold rot swp;try dsimp only
 repeat' split
 all_goals first|rfl|(exfalso;omega)|(congr 1;omega)
theorem rot_right{α:Type}(p:Nat->α)(m i j:Nat)(hi:i<j)(him:i<=m):rot (swp p (m - i) (m+j - i) i) (m - i) m (m+(j - i))=rot p (m - i) m (m+j):=by
 funext x;unfold rot swp;try dsimp only
 repeat' split
 all_goals first|rfl|(exfalso;omega)|(congr 1;omega)
theorem rot_same{α:Type}(p:Nat->α)(m i:Nat)(him:i<=m):swp p (m - i) m i=rot p (m - i) m (m+i):=by
 funext x;unfold rot swp;try dsimp only
 repeat' split
 all_goals first|rfl|(exfalso;omega)|(congr 1;omega)
theorem swp_one{α:Type}(p:Nat->α)(a b n:Nat)(hb:a+n<b):swp (swp p a b n) (a+n) (b+n) 1=swp p a b (n+1):=by
 funext x;unfold swp;try dsimp only
 repeat' split
 all_goals first|rfl|(exfalso;omega)|(congr 1;omega)
theorem rot_up{α:Type}(p:Nat->α)(a k:Nat)(h:a<=k):swp (rot p a (a+1) (k+1)) k (k+1) 1=rot p a (a+1) (k+2):=by
 funext x;unfold rot swp;try dsimp only
 repeat' split
 all_goals first|rfl|(exfalso;omega)|(congr 1;omega)
theorem rot_down{α:Type}(p:Nat->α)(m k:Nat)(h:k+1<=m):swp (rot p (k+1) m (m+1)) k (k+1) 1=rot p k m (m+1):=by
 funext x;unfold rot swp;try dsimp only
 repeat' split
 all_goals first|rfl|(exfalso;omega)|(congr 1;omega)
structure Inj(n:Nat)(p:Nat->Nat):Prop where
 lt:∀ i,i<n->p i<n
 un:∀ i j,i<n->j<n->p i=p j->i=j
theorem Inj.surj:∀ {n:Nat} {p:Nat->Nat},Inj n p->∀ j,j<n->∃ i,i<n/\p i=j
 |0,_,_=>fun j h=>absurd h (by omega)
 |n+1,p,h=>fun j hj=>by
  have ih:=Inj.surj (n:=n) (p:=fun i=>if p i=n then p n else p i) ⟨fun i hi=>by
   have:=h.lt i (by omega)
   have:=h.lt n (by omega)
   show(if p i=n then p n else p i)<n
   split
   ·rename_i e
    rcases Nat.lt_or_ge (p n) n with hl|hl
    ·exact hl
    ·have:=h.un i n (by omega) (by omega) (by omega)
     omega
   ·omega,fun i k hi hk e=>by
   have e:(if p i=n then p n else p i)=(if p k=n then p n else p k):=e
   split at e <;> split at e
   ·exact h.un i k (by omega) (by omega) (by omega)
   ·have:=h.un n k (by omega) (by omega) e
    omega
   ·have:=h.un i n (by omega) (by omega) e
    omega
   ·exact h.un i k (by omega) (by omega) e⟩
  rcases Nat.lt_or_ge j n with hl|hl
  ·obtain⟨i,hi,e⟩:=ih j hl
   have e:(if p i=n then p n else p i)=j:=e
   split at e
   ·exact⟨n,by omega,e⟩
   ·exact⟨i,by omega,e⟩
  ·have hj:j=n:=by omega
   subst hj
   rcases Nat.lt_or_ge (p j) j with hl|hl
   ·obtain⟨i,hi,e⟩:=ih (p j) hl
    have e:(if p i=j then p j else p i)=p j:=e
    split at e
    ·rename_i e2;exact⟨i,by omega,e2⟩
    ·have:=h.un i j (by omega) (by omega) e
     omega
   ·have:=h.lt j (by omega)
    exact⟨j,by omega,by omega⟩
structure Same(p q:Nat->Nat)(a b:Nat):Prop where
 out:∀ i,¬ (a<=i/\i<b)->q i=p i
 fwd:∀ i,a<=i->i<b->∃ j,a<=j/\j<b/\q i=p j
 bwd:∀ i,a<=i->i<b->∃ j,a<=j/\j<b/\p i=q j
theorem Same.refl(p:Nat->Nat)(a b:Nat):Same p p a b:=⟨fun _ _=>rfl,fun i h1 h2=>⟨i,h1,h2,rfl⟩,fun i h1 h2=>⟨i,h1,h2,rfl⟩⟩
theorem Same.trans{p q r:Nat->Nat}{a b:Nat}(h:Same p q a b)(k:Same q r a b):Same p r a b :=
 ⟨fun i hi=>(k.out i hi).trans (h.out i hi),fun i h1 h2=>by
  obtain⟨j,a1,a2,a3⟩:=k.fwd i h1 h2
  obtain⟨l,b1,b2,b3⟩:=h.fwd j a1 a2
  exact⟨l,b1,b2,a3.trans b3⟩,fun i h1 h2=>by
  obtain⟨j,a1,a2,a3⟩:=h.bwd i h1 h2
  obtain⟨l,b1,b2,b3⟩:=k.bwd j a1 a2
  exact⟨l,b1,b2,a3.trans b3⟩⟩
theorem Same.wide{p q:Nat->Nat}{a b a' b':Nat}(h:Same p q a b)(ha:a'<=a)(hb:b<=b'):Same p q a' b' :=
 ⟨fun i hi=>h.out i (fun e=>hi (by omega)),fun i h1 h2=>by
  by_cases hi:a<=i/\i<b
  ·obtain⟨j,a1,a2,a3⟩:=h.fwd i hi.1 hi.2
   exact⟨j,by omega,by omega,a3⟩
  ·exact⟨i,h1,h2,h.out i hi⟩,fun i h1 h2=>by
  by_cases hi:a<=i/\i<b
  ·obtain⟨j,a1,a2,a3⟩:=h.bwd i hi.1 hi.2
   exact⟨j,by omega,by omega,a3⟩
  ·exact⟨i,h1,h2,(h.out i hi).symm⟩⟩
theorem qx4(p:Nat->Nat)(a m b:Nat)(h1:a<=m)(h2:m<=b):Same p (rot p a m b) a b:=by
 refine⟨fun i hi=>?_,fun i ha hb=>?_,fun i ha hb=>?_⟩
 ·unfold rot;repeat' split
  all_goals first|rfl|(exfalso;omega)
 ·unfold rot
  split
  ·exact⟨i+(m - a),by omega,by omega,rfl⟩
  ·split
   ·exact⟨i - (b - m),by omega,by omega,rfl⟩
   ·omega
 ·by_cases hm:i<m
  ·refine⟨i+(b - m),by omega,by omega,?_⟩
   unfold rot
   rw[if_neg (by omega),if_pos (by omega)]
   congr 1;omega
  ·refine⟨i - (m - a),by omega,by omega,?_⟩
   unfold rot
   rw[if_pos (by omega)]
   congr 1;omega
theorem Inj.rot{n:Nat}{p:Nat->Nat}(h:Inj n p){a m b:Nat}(h1:a<=m)(h2:m<=b)(h3:b<=n):Inj n (rot p a m b):=by
 have key:∀ i,i<n->∃ j,j<n/\YtiiafibkblpbcaaGreat.rot p a m b i=p j/\((a<=i/\i<a+(b - m)/\j=i+(m - a))\/(a+(b - m)<=i/\i<b/\j=i - (b - m))\/(¬ (a<=i/\i<b)/\j=i)):=fun i hi=>by
  unfold YtiiafibkblpbcaaGreat.rot
  split
  ·exact⟨_,by omega,rfl,by omega⟩
  ·split
   ·exact⟨_,by omega,rfl,by omega⟩
   ·exact⟨_,hi,rfl,by omega⟩
 refine⟨fun i hi=>?_,fun i j hi hj e=>?_⟩
 ·obtain⟨k,a1,a2,_⟩:=key i hi
  rw[a2];exact h.lt k a1
 ·obtain⟨k,a1,a2,a3⟩:=key i hi
  obtain⟨l,b1,b2,b3⟩:=key j hj
  rw [a2,b2] at e
  have:=h.un k l a1 b1 e
  omega
section
variable(L:Nat->Nat->Prop)
def Rise(p:Nat->Nat)(a b:Nat):Prop:=∀ i j,a<=i->i<j->j<b->L (p i) (p j)
def Sep(p:Nat->Nat)(a m b:Nat):Prop:=∀ i j,a<=i->i<m->m<=j->j<b->p i<p j
structure Ord(n:Nat):Prop where
 trans:∀ i j k,i<n->j<n->k<n->L i j->L j k->L i k
 irr:∀ i,i<n->¬ L i i
 tot:∀ i j,i<n->j<n->i≠j->L i j\/L j i
variable{L}{n:Nat}{p:Nat->Nat}
theorem Rise.sub{a b a' b':Nat}(h:Rise L p a b)(ha:a<=a')(hb:b'<=b):Rise L p a' b':=fun i j h1 h2 h3=>h i j (by omega) h2 (by omega)
theorem Rise.congr{q:Nat->Nat}{a b:Nat}(h:Rise L p a b)(he:∀ i,a<=i->i<b->q i=p i):Rise L q a b:=fun i j h1 h2 h3=>by
 rw[he i h1 (by omega),he j (by omega) h3];exact h i j h1 h2 h3
structure Cut(p:Nat->Nat)(a m b s e:Nat):Prop where
 sa:a<=s
 sm:s<=m
 me:m<=e
 eb:e<=b
 lo:∀ i j,a<=i->i<s->e<=j->j<b->L (p i) (p j)
 hi:∀ i j,s<=i->i<m->m<=j->j<e->L (p j) (p i)
structure Merged(p q:Nat->Nat)(n a b:Nat):Prop where
 inj:Inj n q
 same:Same p q a b
 rise:Rise L q a b
theorem merge_two{a m b s e mid:Nat}(h1:Rise L p a m)(h2:Rise L p m b)(hc:Cut (L:=L) p a m b s e)(hmid:mid=s+(e - m)){q r:Nat->Nat}(hq:Merged (L:=L) (rot p s m e) q n a mid)(hr:Merged (L:=L) q r n mid b):Merged (L:=L) p r n a b:=by
 have hsa:=hc.sa
 have hsm:=hc.sm
 have hme:=hc.me
 have heb:=hc.eb
 have hs:Same p (rot p s m e) a b:=(qx4 p s m e hsm hme).wide hsa heb
 have hpq:Same p q a b:=hs.trans (hq.same.wide (Nat.le_refl _) (by omega))
 refine⟨hr.inj,hpq.trans (hr.same.wide (by omega) (Nat.le_refl _)),fun i j hi hij hj=>?_⟩
 -- what stands below mid,and what above
 have low:∀ i,a<=i->i<mid->∃ k,((a<=k/\k<s)\/(m<=k/\k<e))/\r i=p k:=fun i h3 h4=>by
  rw[hr.same.out i (by omega)]
  obtain⟨k,b1,b2,b3⟩:=hq.same.fwd i h3 h4
  rw[b3]
  unfold rot
  split
  ·exact⟨_,by omega,rfl⟩
  ·split
   ·omega
   ·exact⟨_,by omega,rfl⟩
 have high:∀ i,mid<=i->i<b->∃ k,((s<=k/\k<m)\/(e<=k/\k<b))/\r i=p k:=fun i h3 h4=>by
  obtain⟨k,b1,b2,b3⟩:=hr.same.fwd i h3 h4
  rw[b3,hq.same.out k (by omega)]
  unfold rot
  split
  ·omega
  ·split
   ·exact⟨_,by omega,rfl⟩
   ·exact⟨_,by omega,rfl⟩
 by_cases hjm:j<mid
 ·rw[hr.same.out i (by omega),hr.same.out j (by omega)]
  exact hq.rise i j hi hij hjm
 ·by_cases him:mid<=i
  ·exact hr.rise i j him hij hj
  ·obtain⟨k,a1,a2⟩:=low i hi (by omega)
   obtain⟨l,b1,b2⟩:=high j (by omega) hj
   rw[a2,b2]
   rcases a1 with a1|a1 <;> rcases b1 with b1|b1
   ·exact h1 k l a1.1 (by omega) b1.2
   ·exact hc.lo k l a1.1 a1.2 b1.1 b1.2
   ·exact hc.hi l k b1.1 b1.2 a1.1 a1.2
   ·exact h2 k l a1.1 (by omega) b1.2
theorem merge_up{a b i:Nat}(hp:Inj n p)(hbn:b<=n)(hai:a+1<=i)(hib:i<=b)(h2:Rise L p (a+1) b)(hlo:∀ j,a+1<=j->j<i->L (p j) (p a))(hhi:∀ j,i<=j->j<b->L (p a) (p j)):Merged (L:=L) p (rot p a (a+1) i) n a b:=by
 refine⟨hp.rot (by omega) hai (by omega),(qx4 p a (a+1) i (by omega) hai).wide (Nat.le_refl _) hib,fun x y hx hxy hy=>?_⟩
 unfold rot
 repeat' split
 ·exact h2 _ _ (by omega) (by omega) (by omega)
 ·have e:y - (i - (a+1))=a:=by omega
  rw[e];exact hlo _ (by omega) (by omega)
 ·exact h2 _ _ (by omega) (by omega) (by omega)
 ·omega
 ·omega
 ·have e:x - (i - (a+1))=a:=by omega
  rw[e];exact hhi _ (by omega) (by omega)
 ·omega
 ·omega
 ·exact h2 _ _ (by omega) (by omega) (by omega)
theorem merge_down{a m i:Nat}(hp:Inj n p)(hmn:m<n)(hai:a<=i)(him:i<=m)(h1:Rise L p a m)(hlo:∀ j,a<=j->j<i->L (p j) (p m))(hhi:∀ j,i<=j->j<m->L (p m) (p j)):Merged (L:=L) p (rot p i m (m+1)) n a (m+1):=by
 refine⟨hp.rot him (by omega) (by omega),(qx4 p i m (m+1) him (by omega)).wide hai (Nat.le_refl _),fun x y hx hxy hy=>?_⟩
 unfold rot
 repeat' split
 ·omega
 ·have e:x+(m - i)=m:=by omega
  rw[e];exact hhi _ (by omega) (by omega)
 ·omega
 ·omega
 ·exact h1 _ _ (by omega) (by omega) (by omega)
 ·omega
 ·have e:y+(m - i)=m:=by omega
  rw[e];exact hlo _ (by omega) (by omega)
 ·exact h1 _ _ (by omega) (by omega) (by omega)
 ·exact h1 _ _ (by omega) (by omega) (by omega)
end
structure Weak(n:Nat)(lt:Nat->Nat->Bool):Prop where
 asym:∀ i j,i<n->j<n->lt i j=true->lt j i=false
 trans:∀ i j k,i<n->j<n->k<n->lt i j=true->lt j k=true->lt i k=true
 ntrans:∀ i j k,i<n->j<n->k<n->lt i j=false->lt j k=false->lt i k=false
def LL(lt:Nat->Nat->Bool)(i j:Nat):Prop:=lt i j=true\/(lt j i=false/\i<j)
theorem Weak.irr{n:Nat}{lt:Nat->Nat->Bool}(h:Weak n lt)(i:Nat)(hi:i<n):lt i i=false:=by
 cases e:lt i i
 ·rfl
 ·have:=h.asym i i hi hi e;rw [e] at this;cases this
theorem Weak.ord{n:Nat}{lt:Nat->Nat->Bool}(h:Weak n lt):Ord (LL lt) n:=by
 refine⟨fun i j k hi hj hk a b=>?_,fun i hi a=>?_,fun i j hi hj hne=>?_⟩
 ·rcases a with a|⟨a,a'⟩ <;> rcases b with b|⟨b,b'⟩
  ·exact .inl (h.trans i j k hi hj hk a b)
  ·left
   cases e:lt i k
   ·have:=h.ntrans i k j hi hk hj e b;rw [a] at this;cases this
   ·rfl
  ·left
   cases e:lt i k
   ·have:=h.ntrans j i k hj hi hk a e;rw [b] at this;cases this
   ·rfl
  ·exact .inr ⟨h.ntrans k j i hk hj hi b a,by omega⟩
 ·rcases a with a|⟨_,a⟩
  ·rw [h.irr i hi] at a;cases a
  ·omega
 ·cases e:lt i j
  ·cases e':lt j i
   ·rcases Nat.lt_or_ge i j with hl|hl
    ·exact .inl (.inr ⟨e',hl⟩)
    ·exact .inr (.inr ⟨e,by omega⟩)
   ·exact .inr (.inl e')
  ·exact .inl (.inl e)
theorem cut_of{L:Nat->Nat->Prop}{n a m b s e:Nat}{p:Nat->Nat}(hO:Ord L n)(hp:Inj n p)(hbn:b<=n)(h1:Rise L p a m)(h2:Rise L p m b)(sa:a<=s)(sm:s<=m)(me:m<=e)(eb:e<=b)
 (hlo:s=a\/e=b\/L (p (s - 1)) (p e)) (hhi:s=m\/e=m\/L (p (e - 1)) (p s)):Cut (L:=L) p a m b s e:=by
 refine⟨sa,sm,me,eb,fun i j hi his hj hjb=>?_,fun i j hi him hj hje=>?_⟩
 ·have hl:L (p (s - 1)) (p e):=by
   rcases hlo with h|h|h
   ·omega
   ·omega
   ·exact h
  have hx:L (p i) (p e):=by
   rcases Nat.lt_or_ge i (s - 1) with h|h
   ·exact hO.trans _ _ _ (hp.lt i (by omega)) (hp.lt _ (by omega)) (hp.lt _ (by omega)) (h1 i (s - 1) hi h (by omega)) hl
   ·have:i=s - 1:=by omega
    rw[this];exact hl
  rcases Nat.lt_or_ge e j with h|h
  ·exact hO.trans _ _ _ (hp.lt i (by omega)) (hp.lt _ (by omega)) (hp.lt _ (by omega)) hx (h2 e j me h hjb)
  ·have:j=e:=by omega
   rw[this];exact hx
 ·have hl:L (p (e - 1)) (p s):=by
   rcases hhi with h|h|h
   ·omega
   ·omega
   ·exact h
  have hx:L (p j) (p s):=by
   rcases Nat.lt_or_ge j (e - 1) with h|h
   ·exact hO.trans _ _ _ (hp.lt j (by omega)) (hp.lt _ (by omega)) (hp.lt _ (by omega)) (h2 j (e - 1) hj h (by omega)) hl
   ·have:j=e - 1:=by omega
    rw[this];exact hl
  rcases Nat.lt_or_ge s i with h|h
  ·exact hO.trans _ _ _ (hp.lt j (by omega)) (hp.lt _ (by omega)) (hp.lt _ (by omega)) hx (h1 s i sa h him)
  ·have:i=s:=by omega
   rw[this];exact hx
theorem up_of{L:Nat->Nat->Prop}{n a b i:Nat}{p:Nat->Nat}(hO:Ord L n)(hp:Inj n p)(hbn:b<=n)(hai:a+1<=i)(hib:i<=b)(h2:Rise L p (a+1) b)(hlo:i=a+1\/L (p (i - 1)) (p a))(hhi:i=b\/L (p a) (p i)):Merged (L:=L) p (rot p a (a+1) i) n a b:=by
 refine merge_up hp hbn hai hib h2 (fun j h3 h4=>?_) (fun j h3 h4=>?_)
 ·have hl:L (p (i - 1)) (p a):=by
   rcases hlo with h|h
   ·omega
   ·exact h
  rcases Nat.lt_or_ge j (i - 1) with h|h
  ·exact hO.trans _ _ _ (hp.lt _ (by omega)) (hp.lt _ (by omega)) (hp.lt _ (by omega)) (h2 j (i - 1) h3 h (by omega)) hl
  ·have:j=i - 1:=by omega
   rw[this];exact hl
 ·have hl:L (p a) (p i):=by
   rcases hhi with h|h
   ·omega
   ·exact h
  rcases Nat.lt_or_ge i j with h|h
  ·exact hO.trans _ _ _ (hp.lt _ (by omega)) (hp.lt _ (by omega)) (hp.lt _ (by omega)) hl (h2 i j hai h h4)
  ·have:j=i:=by omega
   rw[this];exact hl
theorem down_of{L:Nat->Nat->Prop}{n a m i:Nat}{p:Nat->Nat}(hO:Ord L n)(hp:Inj n p)(hmn:m<n)(hai:a<=i)(him:i<=m)(h1:Rise L p a m)(hlo:i=a\/L (p (i - 1)) (p m))(hhi:i=m\/L (p m) (p i)):Merged (L:=L) p (rot p i m (m+1)) n a (m+1):=by
 refine merge_down hp hmn hai him h1 (fun j h3 h4=>?_) (fun j h3 h4=>?_)
 ·have hl:L (p (i - 1)) (p m):=by
   rcases hlo with h|h
   ·omega
   ·exact h
  rcases Nat.lt_or_ge j (i - 1) with h|h
  ·exact hO.trans _ _ _ (hp.lt _ (by omega)) (hp.lt _ (by omega)) (hp.lt _ (by omega)) (h1 j (i - 1) h3 h (by omega)) hl
  ·have:j=i - 1:=by omega
   rw[this];exact hl
 ·have hl:L (p m) (p i):=by
   rcases hhi with h|h
   ·omega
   ·exact h
  rcases Nat.lt_or_ge i j with h|h
  ·exact hO.trans _ _ _ (hp.lt _ (by omega)) (hp.lt _ (by omega)) (hp.lt _ (by omega)) hl (h1 i j hai h h4)
  ·have:j=i:=by omega
   rw[this];exact hl
theorem Sep.congr{q p:Nat->Nat}{a m b:Nat}(h:Sep p a m b)(he:∀ i,a<=i->i<b->q i=p i):Sep q a m b:=fun i j h1 h2 h3 h4=>by
 by_cases hx:i<b
 ·by_cases hy:a<=j
  ·rw[he i h1 hx,he j hy h4];exact h i j h1 h2 h3 h4
  ·omega
 ·omega
theorem rot_a{α:Type}(p:Nat->α){a m b i:Nat}(h:a<=i)(h2:i<a+(b - m)):rot p a m b i=p (i+(m - a)):=by
 unfold rot;rw[if_pos ⟨h,h2⟩]
theorem rot_b{α:Type}(p:Nat->α){a m b i:Nat}(h:a+(b - m)<=i)(h2:i<b):rot p a m b i=p (i - (b - m)):=by
 unfold rot;rw[if_neg (by omega),if_pos ⟨h,h2⟩]
theorem rot_o{α:Type}(p:Nat->α){a m b i:Nat}(h0:a<=m)(h1:m<=b)(h:i<a\/b<=i):rot p a m b i=p i:=by
 unfold rot;rw[if_neg (by omega),if_neg (by omega)]
theorem cut_left{L:Nat->Nat->Prop}{a m b s e mid:Nat}{p:Nat->Nat}(h1:Rise L p a m)(h2:Rise L p m b)(hs:Sep p a m b)(hc:Cut (L:=L) p a m b s e)(hmid:mid=s+(e - m)):Rise L (rot p s m e) a s/\Rise L (rot p s m e) s mid/\Sep (rot p s m e) a s mid:=by
 obtain⟨sa,sm,me,eb,_,_⟩:=hc
 refine⟨fun i j hi hij hj=>?_,fun i j hi hij hj=>?_,fun i j hi hij hj hjb=>?_⟩
 ·rw[rot_o p sm me (by omega),rot_o p sm me (by omega)];exact h1 i j hi hij (by omega)
 ·rw[rot_a p hi (by omega),rot_a p (by omega) (by omega)];exact h2 _ _ (by omega) (by omega) (by omega)
 ·rw[rot_o p sm me (by omega),rot_a p hj (by omega)];exact hs _ _ hi (by omega) (by omega) (by omega)
theorem cut_right{L:Nat->Nat->Prop}{a m b s e mid:Nat}{p:Nat->Nat}(h1:Rise L p a m)(h2:Rise L p m b)(hs:Sep p a m b)(hc:Cut (L:=L) p a m b s e)(hmid:mid=s+(e - m)):Rise L (rot p s m e) mid e/\Rise L (rot p s m e) e b/\Sep (rot p s m e) mid e b:=by
 obtain⟨sa,sm,me,eb,_,_⟩:=hc
 refine⟨fun i j hi hij hj=>?_,fun i j hi hij hj=>?_,fun i j hi hij hj hjb=>?_⟩
 ·rw[rot_b p (by omega) (by omega),rot_b p (by omega) (by omega)];exact h1 _ _ (by omega) (by omega) (by omega)
 ·rw[rot_o p sm me (by omega),rot_o p sm me (by omega)];exact h2 _ _ (by omega) hij hj
 ·rw[rot_b p (by omega) (by omega),rot_o p sm me (by omega)];exact hs _ _ (by omega) (by omega) (by omega) (by omega)
theorem Merged.stay{L:Nat->Nat->Prop}{n a b:Nat}{q:Nat->Nat}(hi:Inj n q)(h:Rise L q a b):Merged (L:=L) q q n a b:=⟨hi,.refl _ _ _,h⟩
def Lc(k lo n:Nat)(p:Nat->Nat):Prop:=∀ i,lo<=i->i<n->p i / k=i / k
def Rs(L:Nat->Nat->Prop)(k lo hi:Nat)(p:Nat->Nat):Prop:=∀ i j,lo<=i->i<j->j<hi->i / k=j / k->L (p i) (p j)
theorem xu{k c i:Nat}(h1:c * k<=i)(h2:i<c * k+k):i / k=c:=by
 have hk:0<k:=by omega
 apply Nat.le_antisymm
 ·exact Nat.lt_succ_iff.1 (Nat.div_lt_of_lt_mul (by rw[Nat.mul_comm];rw[Nat.succ_mul];exact h2))
 ·exact(Nat.le_div_iff_mul_le hk).2 h1
theorem div_two(i k:Nat):i / (2 * k)=(i / k) / 2:=by rw[Nat.div_div_eq_div_mul,Nat.mul_comm]
structure Mg(L:Nat->Nat->Prop)(k n c:Nat)(p:Nat->Nat):Prop where
 inj:Inj n p
 big:Lc (2 * k) 0 n p
 done:Rs L (2 * k) 0 (min (c * (2 * k)) n) p
 rest:Rs L k (c * (2 * k)) n p
 small:Lc k (c * (2 * k)) n p
theorem Mg.begin{L:Nat->Nat->Prop}{k n:Nat}{p:Nat->Nat}(h1:Inj n p)(h2:Lc k 0 n p)(h3:Rs L k 0 n p):Mg L k n 0 p :=
 ⟨h1,fun i hi hn=>by rw[div_two,div_two,h2 i hi hn],fun i j hi hij hj _=>by omega,fun i j hi=>h3 i j (by omega),fun i hi=>h2 i (by omega)⟩
theorem Mg.left{L:Nat->Nat->Prop}{k n c:Nat}{p:Nat->Nat}(h:Mg L k n c p)(hm:c * (2 * k)+k<=n):Rise L p (c * (2 * k)) (c * (2 * k)+k):=fun i j hi hij hj=>by
 have e:c * (2 * k)=(c * 2) * k:=by rw[Nat.mul_assoc]
 refine h.rest i j hi hij (by omega) ?_
 rw[xu (c:=c * 2) (by omega) (by omega),xu (c:=c * 2) (by omega) (by omega)]
theorem Mg.right{L:Nat->Nat->Prop}{k n c b:Nat}{p:Nat->Nat}(h:Mg L k n c p)(hb:b<=n)(hb2:b<=c * (2 * k)+2 * k):Rise L p (c * (2 * k)+k) b:=fun i j hi hij hj=>by
 have e:c * (2 * k)=(c * 2) * k:=by rw[Nat.mul_assoc]
 have e2:(c * 2+1) * k=(c * 2) * k+k:=by rw[Nat.succ_mul]
 refine h.rest i j (by omega) hij (by omega) ?_
 rw[xu (c:=c * 2+1) (by omega) (by omega),xu (c:=c * 2+1) (by omega) (by omega)]
theorem Mg.sep{L:Nat->Nat->Prop}{k n c b:Nat}{p:Nat->Nat}(h:Mg L k n c p)(hb:b<=n)(hb2:b<=c * (2 * k)+2 * k):Sep p (c * (2 * k)) (c * (2 * k)+k) b:=fun i j hi him hj hjb=>by
 have hk:0<k:=by omega
 have e:c * (2 * k)=(c * 2) * k:=by rw[Nat.mul_assoc]
 have e2:(c * 2+1) * k=(c * 2) * k+k:=by rw[Nat.succ_mul]
 have a1:=h.small i hi (by omega)
 have a2:=h.small j (by omega) (by omega)
 rw [xu (c:=c * 2) (i:=i) (by omega) (by omega)] at a1
 rw [xu (c:=c * 2+1) (i:=j) (by omega) (by omega)] at a2
 rcases Nat.lt_or_ge (p i) (p j) with hl|hl
 ·exact hl
 ·have:=Nat.div_le_div_right (c:=k) hl
  omega
theorem Mg.next{L:Nat->Nat->Prop}{k n c b:Nat}{p r:Nat->Nat}(hk:0<k)(h:Mg L k n c p)(hb:b<=n)(hb2:b<=c * (2 * k)+2 * k)(hb3:b=n\/b=c * (2 * k)+2 * k)(hab:c * (2 * k)<=b)(hr:Merged (L:=L) p r n (c * (2 * k)) b):Mg L k n (c+1) r:=by
 have e:(c+1) * (2 * k)=c * (2 * k)+2 * k:=by rw[Nat.succ_mul]
 refine⟨hr.inj,fun i hi hin=>?_,fun i j hi hij hj hd=>?_,fun i j hi hij hj hd=>?_,fun i hi hin=>?_⟩
 ·by_cases hc:c * (2 * k)<=i/\i<b
  ·obtain⟨j,b1,b2,b3⟩:=hr.same.fwd i hc.1 hc.2
   rw[b3,h.big j (by omega) (by omega),xu (c:=c) b1 (by omega),xu (c:=c) hc.1 (by omega)]
  ·rw[hr.same.out i hc];exact h.big i hi hin
 ·by_cases hc:c * (2 * k)<=i
  ·exact hr.rise i j hc hij (by omega)
  ·by_cases hjc:j<c * (2 * k)
   ·rw[hr.same.out i (by omega),hr.same.out j (by omega)]
    exact h.done i j hi hij (by omega) hd
   ·exfalso
    rw [xu (c:=c) (i:=j) (by omega) (by omega)] at hd
    have:=Nat.div_mul_le_self i (2 * k)
    rw [hd] at this
    omega
 ·rw[hr.same.out i (by omega),hr.same.out j (by omega)]
  exact h.rest i j (by omega) hij hj hd
 ·rw[hr.same.out i (by omega)]
  exact h.small i (by omega) hin
theorem Mg.over{L:Nat->Nat->Prop}{k n c:Nat}{p:Nat->Nat}(hk:0<k)(h:Mg L k n c p)(hn:n<=c * (2 * k)+k):Lc (2 * k) 0 n p/\Rs L (2 * k) 0 n p:=by
 refine⟨h.big,fun i j hi hij hj hd=>?_⟩
 have e:c * (2 * k)=(c * 2) * k:=by rw[Nat.mul_assoc]
 by_cases hjc:j<c * (2 * k)
 ·exact h.done i j hi hij (by omega) hd
 ·have hj2:=xu (k:=2 * k) (c:=c) (i:=j) (by omega) (by omega)
  by_cases hic:c * (2 * k)<=i
  ·refine h.rest i j hic hij hj ?_
   rw[xu (c:=c * 2) (by omega) (by omega),xu (c:=c * 2) (by omega) (by omega)]
  ·exfalso
   rw [hj2] at hd
   have:=Nat.div_mul_le_self i (2 * k)
   rw [hd] at this
   omega
structure Fst(L:Nat->Nat->Prop)(k n c:Nat)(p:Nat->Nat):Prop where
 inj:Inj n p
 loc:Lc k 0 n p
 done:Rs L k 0 (min (c * k) n) p
 rest:∀ i,c * k<=i->p i=i
theorem Fst.zero{L:Nat->Nat->Prop}(k n:Nat):Fst L k n 0 id:=⟨⟨fun i h=>h,fun i j _ _ h=>h⟩,fun i _ _=>rfl,fun i j hi hij hj _=>by omega,fun i _=>rfl⟩
theorem Fst.next{L:Nat->Nat->Prop}{k n c b:Nat}{p r:Nat->Nat}(h:Fst L k n c p)(hb:b<=n)(hb2:b<=c * k+k)(hb3:b=n\/b=c * k+k)(hr:Merged (L:=L) p r n (c * k) b):Fst L k n (c+1) r:=by
 have e:(c+1) * k=c * k+k:=by rw[Nat.succ_mul]
 refine⟨hr.inj,fun i hi hin=>?_,fun i j hi hij hj hd=>?_,fun i hi=>?_⟩
 ·by_cases hc:c * k<=i/\i<b
  ·obtain⟨j,b1,b2,b3⟩:=hr.same.fwd i hc.1 hc.2
   rw[b3,h.rest j b1,xu (c:=c) b1 (by omega),xu (c:=c) hc.1 (by omega)]
  ·rw[hr.same.out i hc];exact h.loc i hi hin
 ·by_cases hc:c * k<=i
  ·exact hr.rise i j hc hij (by omega)
  ·by_cases hjc:j<c * k
   ·rw[hr.same.out i (by omega),hr.same.out j (by omega)]
    exact h.done i j hi hij (by omega) hd
   ·exfalso
    rw [xu (c:=c) (i:=j) (by omega) (by omega)] at hd
    have:=Nat.div_mul_le_self i k
    rw [hd] at this
    omega
 ·rw[hr.same.out i (by omega)]
  exact h.rest i (by omega)
theorem Rs.all{L:Nat->Nat->Prop}{k n:Nat}{p:Nat->Nat}(h:Rs L k 0 n p)(hk:n<=k):Rise L p 0 n:=fun i j hi hij hj=>h i j hi hij hj (by rw[Nat.div_eq_of_lt (by omega),Nat.div_eq_of_lt (by omega)])
end
end Go.Proofs.YtiiafibkblpbcaaGreat
namespace Go.Proofs.YtiiafibkblpbcaaGreat
open Go Go.Eng
theorem u8_tri(a b:UInt8)(h1:¬ a<b)(h2:¬ b<a):a=b:=by
 rw [UInt8.lt_iff_toNat_lt] at h1 h2
 exact UInt8.toNat_inj.1 (by omega)
theorem ur:∀ a:List UInt8,Op.bytesLess a a=false
 |[]=>rfl
 |a :: l=>by
  have:¬ a<a:=by rw[UInt8.lt_iff_toNat_lt];omega
  simp[Op.bytesLess,this,ur l]
theorem qh7:∀ a b c:List UInt8,Op.bytesLess a b=true->Op.bytesLess b c=true->Op.bytesLess a c=true
 |_,_,[]=>fun _ h=>by simp [Op.bytesLess] at h
 |_,[],_ :: _=>fun h _=>by simp [Op.bytesLess] at h
 |[],_ :: _,_ :: _=>fun _ _=>rfl
 |a :: l,b :: m,c :: n=>fun h k=>by
  have ih:=qh7 l m n
  simp only [Op.bytesLess,Bool.or_eq_true,Bool.and_eq_true,decide_eq_true_eq,beq_iff_eq] at h k ⊢
  rcases h with h|⟨rfl,h⟩ <;> rcases k with k|⟨rfl,k⟩
  ·left;rw [UInt8.lt_iff_toNat_lt] at *;omega
  ·exact .inl h
  ·exact .inl k
  ·exact .inr ⟨rfl,ih h k⟩
theorem bl_asym(a b:List UInt8)(h:Op.bytesLess a b=true):Op.bytesLess b a=false:=by
 cases e:Op.bytesLess b a
 ·rfl
 ·have:=qh7 a b a h e
  rw [ur] at this;cases this
theorem bl_tri:∀ a b:List UInt8,Op.bytesLess a b=false->Op.bytesLess b a=false->a=b
 |[],[]=>fun _ _=>rfl
 |[],_ :: _=>fun h _=>by simp [Op.bytesLess] at h
 |_ :: _,[]=>fun _ h=>by simp [Op.bytesLess] at h
 |a :: l,b :: m=>fun h k=>by
  have ih:=bl_tri l m
  simp only [Op.bytesLess,Bool.or_eq_false_iff,Bool.and_eq_false_iff,decide_eq_false_iff_not,beq_eq_false_iff_ne] at h k
  have e:a=b:=u8_tri a b h.1 k.1
  subst e
  rw[ih (h.2.resolve_left (fun h=>h rfl)) (k.2.resolve_left (fun h=>h rfl))]
theorem bl_ntrans(a b c:List UInt8)(h:Op.bytesLess a b=false)(k:Op.bytesLess b c=false):Op.bytesLess a c=false:=by
 cases e:Op.bytesLess a c
 ·rfl
 ·cases e2:Op.bytesLess b a
  ·rw [bl_tri a b h e2] at e;rw [e] at k;cases k
  ·rw [qh7 b a c e2 e] at k;cases k
theorem cmp_bl:∀ a b:List UInt8,Lib.compareBytes a b=if Op.bytesLess a b then -1 else if Op.bytesLess b a then 1 else 0
 |[],[]=>rfl
 |[],_ :: _=>rfl
 |_ :: _,[]=>rfl
 |a :: l,b :: m=>by
  have ih:=cmp_bl l m
  unfold Lib.compareBytes
  by_cases h1:a<b
  ·simp[Op.bytesLess,h1]
  ·by_cases h2:b<a
   ·have:¬ a=b:=fun e=>by rw [UInt8.lt_iff_toNat_lt,e] at h2;omega
    simp[Op.bytesLess,h1,h2,this]
   ·have e:=u8_tri a b h1 h2
    subst e
    simp[Op.bytesLess,h1,ih]
theorem cmp_lt(a b:List UInt8):(Lib.compareBytes a b<0)↔Op.bytesLess a b=true:=by
 rw[cmp_bl]
 cases h:Op.bytesLess a b
 ·cases h2:Op.bytesLess b a <;> simp
 ·simp
theorem cmp_eq0(a b:List UInt8):(Lib.compareBytes a b=0)↔a=b:=by
 rw[cmp_bl]
 constructor
 ·intro h
  cases h1:Op.bytesLess a b
  ·cases h2:Op.bytesLess b a
   ·exact bl_tri a b h1 h2
   ·rw [h1,h2] at h;simp at h
  ·rw [h1] at h;simp at h
 ·rintro rfl;rw[ur];rfl
def ltF(F:Nat->List UInt8)(i j:Nat):Bool:=Op.bytesLess (F i) (F j)
theorem ltF_weak(n:Nat)(F:Nat->List UInt8):Weak n (ltF F) :=
 ⟨fun _ _ _ _ h=>bl_asym _ _ h,fun _ _ _ _ _ _ h k=>qh7 _ _ _ h k,fun _ _ _ _ _ _ h k=>bl_ntrans _ _ _ h k⟩
structure Firsts(F:List UInt8->List UInt8)(xs D:List (List UInt8)):Prop where
 rise:D.Pairwise (fun a b=>Op.bytesLess (F a) (F b)=true)
 mem:∀ x,x ∈ D↔∃ i:Nat,xs[i]? = some x/\∀ (j:Nat) (y:List UInt8),j<i->xs[j]? = some y->F y≠F x
theorem rise_uniq(F:List UInt8->List UInt8):∀ (A B:List (List UInt8)),A.Pairwise (fun a b=>Op.bytesLess (F a) (F b)=true)->B.Pairwise (fun a b=>Op.bytesLess (F a) (F b)=true)->(∀ x,x ∈ A↔x ∈ B)->A=B
 |[],[]=>fun _ _ _=>rfl
 |[],b :: B=>fun _ _ h=>by have:=(h b).2 (by simp);simp at this
 |a :: A,[]=>fun _ _ h=>by have:=(h a).1 (by simp);simp at this
 |a :: A,b :: B=>fun hA hB h=>by
  obtain⟨a1,a2⟩:=List.pairwise_cons.1 hA
  obtain⟨b1,b2⟩:=List.pairwise_cons.1 hB
  have e:a=b:=by
   rcases List.mem_cons.1 ((h a).1 (by simp)) with e|e
   ·exact e
   ·rcases List.mem_cons.1 ((h b).2 (by simp)) with e'|e'
    ·exact e'.symm
    ·have:=bl_asym _ _ (b1 a e)
     rw [a1 b e'] at this;cases this
  subst e
  have:A=B:=rise_uniq F A B a2 b2 fun x=>by
   constructor
   ·intro hx
    rcases List.mem_cons.1 ((h x).1 (List.mem_cons_of_mem _ hx)) with e|e
    ·subst e;have:=a1 x hx;rw [ur] at this;cases this
    ·exact e
   ·intro hx
    rcases List.mem_cons.1 ((h x).2 (List.mem_cons_of_mem _ hx)) with e|e
    ·subst e;have:=b1 x hx;rw [ur] at this;cases this
    ·exact e
  rw[this]
theorem Firsts.uniq{F:List UInt8->List UInt8}{xs A B:List (List UInt8)}(h:Firsts F xs A)(k:Firsts F xs B):A=B :=
 rise_uniq F A B h.rise k.rise fun x=>(h.mem x).trans (k.mem x).symm
theorem Firsts.self{F:List UInt8->List UInt8}{xs:List (List UInt8)}(h:xs.Pairwise (fun a b=>Op.bytesLess (F a) (F b)=true)):Firsts F xs xs:=by
 refine⟨h,fun x=>⟨fun hx=>?_,fun⟨i,hi,_⟩=>List.mem_of_getElem? hi⟩⟩
 obtain⟨i,hi⟩:=List.getElem?_of_mem hx
 refine⟨i,hi,fun j y hj hy e=>?_⟩
 obtain⟨hi1,rfl⟩:=List.getElem?_eq_some_iff.1 hi
 obtain⟨hj1,rfl⟩:=List.getElem?_eq_some_iff.1 hy
 have:=List.pairwise_iff_getElem.1 h j i hj1 hi1 hj
 rw [e,ur] at this;cases this
theorem Firsts.cover{F:List UInt8->List UInt8}{xs D:List (List UInt8)}(h:Firsts F xs D):∀ (i:Nat) (y:List UInt8),xs[i]? = some y->∃ a ∈ D,F a=F y:=by
 intro i
 induction i using Nat.strongRecOn with
 |_ i ih =>
  intro y hy
  by_cases hx:∃ j z,j<i/\xs[j]? = some z/\F z=F y
  ·obtain⟨j,z,hj,hz,e⟩:=hx
   obtain⟨a,ha,e2⟩:=ih j hj z hz
   exact⟨a,ha,e2.trans e⟩
  ·exact⟨y,(h.mem y).2 ⟨i,hy,fun j z hj hz e=>hx ⟨j,z,hj,hz,e⟩⟩,rfl⟩
theorem Firsts.from{F:List UInt8->List UInt8}{xs D:List (List UInt8)}(h:Firsts F xs D){a:List UInt8}(ha:a ∈ D):∃ i:Nat,xs[i]? = some a:=by
 obtain⟨i,hi,_⟩:=(h.mem a).1 ha
 exact⟨i,hi⟩
theorem Firsts.skip{F:List UInt8->List UInt8}{xs D:List (List UInt8)}(h:Firsts F xs D){x a:List UInt8}(ha:a ∈ D)(e:F a=F x):Firsts F (xs++[x]) D:=by
 refine⟨h.rise,fun z=>(h.mem z).trans ⟨fun⟨i,hi,hf⟩=>?_,fun⟨i,hi,hf⟩=>?_⟩⟩
 ·have hil:=(List.getElem?_eq_some_iff.1 hi).1
  refine⟨i,by rw[List.getElem?_append_left hil];exact hi,fun j y hj hy=>hf j y hj ?_⟩
  rwa [List.getElem?_append_left (by omega)] at hy
 ·rcases Nat.lt_or_ge i xs.length with hl|hl
  ·rw [List.getElem?_append_left hl] at hi
   exact⟨i,hi,fun j y hj hy=>hf j y hj (by rw[List.getElem?_append_left (by omega)];exact hy)⟩
  ·exfalso
   obtain⟨q,hq⟩:=h.from ha
   have hql:=(List.getElem?_eq_some_iff.1 hq).1
   have hx:z=x:=by
    rw [List.getElem?_append_right hl] at hi
    have:i - xs.length=0:=by
     rcases Nat.eq_zero_or_pos (i - xs.length) with h|h
     ·exact h
     ·rw [List.getElem?_eq_none (by simp;omega)] at hi;cases hi
    rw [this] at hi
    exact(Option.some.inj hi).symm
   refine hf q a (by omega) (by rw[List.getElem?_append_left hql];exact hq) (by rw[hx];exact e)
theorem Firsts.put{F:List UInt8->List UInt8}{xs A B:List (List UInt8)}(h:Firsts F xs (A++B)){x:List UInt8}(hA:∀ a ∈ A,Op.bytesLess (F a) (F x)=true)(hB:∀ b ∈ B,Op.bytesLess (F x) (F b)=true):Firsts F (xs++[x]) (A++x :: B):=by
 have hr:=List.pairwise_append.1 h.rise
 have hno:∀ i y,xs[i]? = some y->F y≠F x:=fun i y hy e=>by
  obtain⟨a,ha,e2⟩:=h.cover i y hy
  rcases List.mem_append.1 ha with ha|ha
  ·have:=hA a ha;rw [e2,e,ur] at this;cases this
  ·have:=hB a ha;rw [e2,e,ur] at this;cases this
 refine⟨?_,fun z=>?_⟩
 ·refine List.pairwise_append.2 ⟨hr.1,List.pairwise_cons.2 ⟨hB,hr.2.1⟩,fun a ha b hb=>?_⟩
  rcases List.mem_cons.1 hb with rfl|hb
  ·exact hA a ha
  ·exact hr.2.2 a ha b hb
 ·have:z ∈ A++x :: B↔z ∈ A++B\/z=x:=by
   simp only[List.mem_append,List.mem_cons]
   constructor
   ·rintro (h|h|h)
    ·exact .inl (.inl h)
    ·exact .inr h
    ·exact .inl (.inr h)
   ·rintro ((h|h)|h)
    ·exact .inl h
    ·exact .inr (.inr h)
    ·exact .inr (.inl h)
  rw[this,h.mem z]
  constructor
  ·rintro (⟨i,hi,hf⟩|rfl)
   ·have hil:=(List.getElem?_eq_some_iff.1 hi).1
    refine⟨i,by rw[List.getElem?_append_left hil];exact hi,fun j y hj hy=>hf j y hj ?_⟩
    rwa [List.getElem?_append_left (by omega)] at hy
   ·refine⟨xs.length,by simp,fun j y hj hy=>hno j y ?_⟩
    rwa [List.getElem?_append_left hj] at hy
  ·rintro ⟨i,hi,hf⟩
   rcases Nat.lt_or_ge i xs.length with hl|hl
   ·left
    rw [List.getElem?_append_left hl] at hi
    exact⟨i,hi,fun j y hj hy=>hf j y hj (by rw[List.getElem?_append_left (by omega)];exact hy)⟩
   ·right
    rw [List.getElem?_append_right hl] at hi
    have:i - xs.length=0:=by
     rcases Nat.eq_zero_or_pos (i - xs.length) with h|h
     ·exact h
     ·rw [List.getElem?_eq_none (by simp;omega)] at hi;cases hi
    rw [this] at hi
    exact(Option.some.inj hi).symm
theorem Firsts.len{F:List UInt8->List UInt8}{xs D:List (List UInt8)}(h:Firsts F xs D)(hx:xs≠[]):0<D.length:=by
 cases xs with
 |nil=>exact absurd rfl hx
 |cons x l =>
  obtain⟨a,ha,_⟩:=h.cover 0 x rfl
  exact List.length_pos_of_mem ha
def insF(F:List UInt8->List UInt8):List (List UInt8)->List UInt8->List (List UInt8)
 |[],x=>[x]
 |d :: D,x=>if Op.bytesLess (F d) (F x) then d :: insF F D x else if F d=F x then d :: D else x :: d :: D
theorem jh5(F:List UInt8->List UInt8):∀ (D:List (List UInt8)) (x:List UInt8),D.Pairwise (fun a b=>Op.bytesLess (F a) (F b)=true) ->
 (insF F D x=D/\∃ a ∈ D,F a=F x)\/∃ A B,D=A++B/\insF F D x=A++x :: B/\(∀ a ∈ A,Op.bytesLess (F a) (F x)=true)/\∀ b ∈ B,Op.bytesLess (F x) (F b)=true
 |[],x=>fun _=>.inr ⟨[],[],rfl,rfl,fun _ h=>(by cases h),fun _ h=>(by cases h)⟩
 |d :: D,x=>fun h=>by
  obtain⟨h1,h2⟩:=List.pairwise_cons.1 h
  unfold insF
  cases e:Op.bytesLess (F d) (F x)
  ·by_cases e2:F d=F x
   ·left
    rw[if_neg (by simp),if_pos e2]
    exact⟨rfl,d,by simp,e2⟩
   ·right
    rw[if_neg (by simp),if_neg e2]
    have e3:Op.bytesLess (F x) (F d)=true:=by
     cases e4:Op.bytesLess (F x) (F d)
     ·exact absurd (bl_tri _ _ e e4) e2
     ·rfl
    refine⟨[],d :: D,rfl,rfl,fun _ h=>by(cases h),fun b hb=>?_⟩
    rcases List.mem_cons.1 hb with rfl|hb
    ·exact e3
    ·exact qh7 _ _ _ e3 (h1 b hb)
  ·rw[if_pos rfl]
   rcases jh5 F D x h2 with⟨h3,a,ha,h4⟩|⟨A,B,h3,h4,h5,h6⟩
   ·left
    rw[h3]
    exact⟨rfl,a,by simp[ha],h4⟩
   ·right
    refine⟨d :: A,B,by rw[h3];rfl,by rw[h4];rfl,fun a ha=>?_,h6⟩
    rcases List.mem_cons.1 ha with rfl|ha
    ·exact e
    ·exact h5 a ha
theorem Firsts.ins{F:List UInt8->List UInt8}{xs D:List (List UInt8)}(h:Firsts F xs D)(x:List UInt8):Firsts F (xs++[x]) (insF F D x):=by
 rcases jh5 F D x h.rise with⟨h3,a,ha,h4⟩|⟨A,B,h3,h4,h5,h6⟩
 ·rw[h3];exact h.skip ha h4
 ·rw[h4];exact Firsts.put (h3 ▸ h) h5 h6
def qy8(F:List UInt8->List UInt8)(xs:List (List UInt8)):List (List UInt8):=xs.foldl (insF F) []
theorem je5(F:List UInt8->List UInt8):∀ (ys xs D:List (List UInt8)),Firsts F xs D->Firsts F (xs++ys) (ys.foldl (insF F) D)
 |[],xs,D=>fun h=>by rw[List.append_nil];exact h
 |y :: ys,xs,D=>fun h=>by
  have:=je5 F ys (xs++[y]) (insF F D y) (h.ins y)
  rw [List.append_assoc] at this
  exact this
theorem firsts_of(F:List UInt8->List UInt8)(xs:List (List UInt8)):Firsts F xs (qy8 F xs):=by
 have:=je5 F xs [] [] ⟨.nil,fun x=>⟨fun h=>(by cases h),fun ⟨i,hi,_⟩=>(by simp at hi)⟩⟩
 exact this
def kept(F:Nat->List UInt8)(p:Nat->Nat):Nat->List Nat
 |0=>[]
 |n+1=>if n=0\/F (p n)≠F (p (n - 1)) then kept F p n++[p n] else kept F p n
theorem kept_le(F:Nat->List UInt8)(p:Nat->Nat):∀ n,(kept F p n).length<=n
 |0=>Nat.le_refl _
 |n+1=>by
  have:=kept_le F p n
  unfold kept;split
  ·simp;omega
  ·omega
theorem kept_pos(F:Nat->List UInt8)(p:Nat->Nat):∀ n,0<n->0<(kept F p n).length
 |0=>fun h=>absurd h (by omega)
 |1=>fun _=>by simp[kept]
 |n+2=>fun _=>by
  have:=kept_pos F p (n+1) (by omega)
  unfold kept;split
  ·simp
  ·exact this
theorem qp9{n:Nat}{F:Nat->List UInt8}{p:Nat->Nat}(hp:Inj n p)(hr:Rise (LL (ltF F)) p 0 n):∀ m,m<=n ->
 (kept F p m).Pairwise (fun a b=>Op.bytesLess (F a) (F b)=true)/\(∀ a ∈ kept F p m,∃ i,i<m/\a=p i/\∀ j,j<n->F j=F a->a<=j)/\(∀ i,i<m->∃ a ∈ kept F p m,F a=F (p i))
 |0=>fun _=>⟨.nil,fun _ h=>(by cases h),fun i h=>absurd h (by omega)⟩
 |m+1=>fun hm=>by
  obtain⟨h1,h2,h3⟩:=qp9 hp hr m (by omega)
  have surj:∀ j,j<n->∃ i,i<n/\p i=j:=Inj.surj hp
  unfold kept
  split
  ·rename_i hne
   have hne2:∀ i,i<m->Op.bytesLess (F (p i)) (F (p m))=true:=fun i hi=>by
    have hne:F (p m)≠F (p (m - 1)):=hne.resolve_left (by omega)
    have e1:Op.bytesLess (F (p (m - 1))) (F (p m))=true:=by
     rcases hr (m - 1) m (by omega) (by omega) (by omega) with h|⟨h,_⟩
     ·exact h
     ·cases e:Op.bytesLess (F (p (m - 1))) (F (p m))
      ·exact absurd (bl_tri _ _ h e) hne
      ·rfl
    rcases Nat.lt_or_ge i (m - 1) with hl|hl
    ·rcases hr i (m - 1) (by omega) hl (by omega) with h|⟨h,_⟩
     ·exact qh7 _ _ _ h e1
     ·cases e:Op.bytesLess (F (p i)) (F (p m))
      ·have:=bl_ntrans _ _ _ h e;rw [e1] at this;cases this
      ·rfl
    ·have:i=m - 1:=by omega
     rw[this];exact e1
   refine⟨List.pairwise_append.2 ⟨h1,by simp,fun a ha b hb=>?_⟩,fun a ha=>?_,fun i hi=>?_⟩
   ·simp only [List.mem_singleton] at hb
    subst hb
    obtain⟨i,hi,rfl,_⟩:=h2 a ha
    exact hne2 i hi
   ·rcases List.mem_append.1 ha with ha|ha
    ·obtain⟨i,hi,e⟩:=h2 a ha
     exact⟨i,by omega,e⟩
    ·simp only [List.mem_singleton] at ha
     subst ha
     refine⟨m,by omega,rfl,fun j hj he=>?_⟩
     obtain⟨i,hi,rfl⟩:=surj j hj
     rcases Nat.lt_trichotomy i m with h|h|h
     ·have:=hne2 i h;rw [he,ur] at this;cases this
     ·rw[h];exact Nat.le_refl _
     ·rcases hr m i (by omega) h hi with h'|⟨_,h'⟩
      ·unfold ltF at h';rw [he,ur] at h';cases h'
      ·omega
   ·rcases Nat.lt_or_ge i m with h|h
    ·obtain⟨a,ha,e⟩:=h3 i h
     exact⟨a,List.mem_append_left _ ha,e⟩
    ·have:i=m:=by omega
     exact⟨p m,by simp,by rw[this]⟩
  ·rename_i hne
   refine⟨h1,fun a ha=>?_,fun i hi=>?_⟩
   ·obtain⟨i,hi,e⟩:=h2 a ha
    exact⟨i,by omega,e⟩
   ·rcases Nat.lt_or_ge i m with h|h
    ·exact h3 i h
    ·have hm0:¬ m=0:=fun e=>hne (.inl e)
     have he:F (p m)=F (p (m - 1)):=Classical.byContradiction fun e=>hne (.inr e)
     have:i=m:=by omega
     rw[this,he]
     exact h3 (m - 1) (by omega)
theorem kept_firsts{F:List UInt8->List UInt8}{xs:List (List UInt8)}{p:Nat->Nat}(hp:Inj xs.length p)(hr:Rise (LL (ltF fun i=>F (xs[i]?.getD []))) p 0 xs.length):Firsts F xs ((kept (fun i=>F (xs[i]?.getD [])) p xs.length).map fun i=>xs[i]?.getD []):=by
 obtain⟨h1,h2,h3⟩:=qp9 hp hr xs.length (Nat.le_refl _)
 refine⟨?_,fun x=>?_⟩
 ·rw[List.pairwise_map];exact h1
 ·rw[List.mem_map]
  constructor
  ·rintro ⟨a,ha,rfl⟩
   obtain⟨i,hi,rfl,hmin⟩:=h2 a ha
   have hlt:=hp.lt i hi
   refine⟨p i,by rw[List.getElem?_eq_getElem hlt];rfl,fun j y hj hy e=>?_⟩
   have:=hmin j (by omega) (by rw[hy];exact e)
   omega
  ·rintro ⟨i,hi,hf⟩
   have hil:i<xs.length:=(List.getElem?_eq_some_iff.1 hi).1
   obtain⟨k,hk,e⟩:=Inj.surj hp i hil
   obtain⟨a,ha,e2⟩:=h3 k hk
   obtain⟨q,hq,e3,hmin⟩:=h2 a ha
   have h4:=hmin i hil (by rw[e2,e])
   refine⟨a,ha,?_⟩
   rcases Nat.lt_or_ge a i with h|h
   ·have hal:a<xs.length:=by omega
    exfalso
    refine hf a (xs[a]?.getD []) h (by rw[List.getElem?_eq_getElem hal];rfl) ?_
    rw[e2,e,hi];rfl
   ·have:a=i:=by omega
    rw[this,hi];rfl
def cel(x:Nat):List DV:=[.int .i64 (x:Int)]
def rowP(n:Nat)(z:Z)(p:Nat->Nat):KB:=.row 3 1 n z (fun i=>cel (p i))
theorem qm3(q:Nat->Nat)(j y:Nat):oneF j 0 (cel y) (fun i=>cel (q i))=fun i=>cel (upd q j y i):=by
 funext i
 unfold oneF upd
 split
 ·rfl
 ·rfl
theorem upd_two{α:Type}(q:Nat->α)(j k:Nat)(h:j<k):upd (upd q j (q k)) k (q j)=swp q j k 1:=by
 funext x;unfold upd swp;(try dsimp only);repeat' split
 all_goals first|rfl|(exfalso;omega)|(congr 1;omega)
theorem puts_two(q:Nat->Nat)(j k:Nat)(h:j<k):oneF k 0 (cel (q j)) (oneF j 0 (cel (q k)) (fun x=>cel (q x)))=fun x=>cel (swp q j k 1 x):=by
 rw[qm3,qm3,upd_two q j k h]
theorem puts_two'(q:Nat->Nat)(j k:Nat)(h:j<k):oneF j 0 (cel (q k)) (oneF k 0 (cel (q j)) (fun x=>cel (q x)))=fun x=>cel (swp q j k 1 x):=by
 rw[qm3,qm3,<-upd_two q j k h]
 funext x;unfold upd;repeat' split
 all_goals first|rfl|omega|(congr 1;omega)
theorem swap_ok(n:Nat)(hn:n<1152921504606846976)(z:Z)(p:Nat->Nat)(a b m:Nat)(ha:a+m<=n)(hb:b+m<=n)(hab:a+m<=b):COk Tryz.prog 299 [.all 0,iV a,iV b,iV m,.any] [rowP n z p] (fun s k=>s = .tup []/\k=[rowP n z (swp p a b m)]):=by
 refine ji (TT:=TT) (IN:=qd []) qf qe mixed 1000 Tryz.func299 rfl (qc Tryz.func299 (by kernel_rfl) rfl) 33 (by kernel_rfl) ?_
 conv=>whnf
 refine .inv Nat (fun i=>i<=m) (fun i=>[(10,iV i)]) (fun i=>[(0,rowP n z (swp p a b i))]) (fun i=>m - i) ⟨0,[0],by omega,?_⟩ ?_
 ·conv=>whnf
  rw[swp_zero]
  repeat'(first|exact ⟨⟩|exact rfl|exact qa _|exact .inr rfl|exact fun _ _=>rfl|exact noI|apply And.intro)
 intro i hi
 conv=>whnf
 refine⟨fun h1=>?_,fun h1=>?_⟩
 ·have h1:i<m:=by
   have h:(i:Int)<m:=of_decide_eq_true h1
   omega
  have e1:IntKind.i64.wrap ((a:Int)+(i:Int))=((a+i:Nat):Int):=by rw[qg _ (by omega)];omega
  have e2:IntKind.i64.wrap ((b:Int)+(i:Int))=((b+i:Nat):Int):=by rw[qg _ (by omega)];omega
  conv=>whnf
  refine⟨?_,?_,?_,?_⟩
  rotate_left 2
  ·conv=>whnf
   rw[e1,e2]
   repeat'(first|exact⟨rfl,rfl⟩|(refine⟨⟨by omega,by omega⟩,?_⟩;conv=>whnf)|exact ⟨⟩|apply And.intro|(conv=>whnf))
  ·conv=>whnf
   refine⟨i+1,[0],by omega,by show m - (i+1)<m - i;omega,?_⟩
   have e3:=w64s i (by omega)
   rw[e3]
   conv=>whnf
   repeat'(first|exact ⟨⟩|exact rfl|exact qa _|exact .inr rfl|exact fun _ _=>rfl|exact noI|apply And.intro)
   intro x hx
   rw[e1]
   exact(congrFun (puts_two (swp p a b i) (a+i) (b+i) (by omega)) x).trans (congrArg (fun f=>cel (f x)) (swp_one p a b i (by omega)))
 ·have h1:i=m:=by
   have h:¬ ((i:Int)<m):=of_decide_eq_false h1
   omega
  subst h1
  conv=>whnf
  refine⟨[0],_,_,rfl,rfl,?_,?_,rfl,rfl⟩
  ·exact rfl
  ·conv=>whnf
   repeat'(first|exact ⟨⟩|exact rfl|exact qa _|exact .inr rfl|exact fun _ _=>rfl|exact noI|apply And.intro)
theorem rotate_ok(n:Nat)(hn:n<1152921504606846976)(z:Z)(p:Nat->Nat)(a m b:Nat)(ha:a<m)(hb:m<b)(hbn:b<=n):COk Tryz.prog 296 [.all 0,iV a,iV m,iV b,.any] [rowP n z p] (fun s k=>s = .tup []/\k=[rowP n z (rot p a m b)]):=by
 refine ji (TT:=TT) (IN:=qd []) qf qe mixed 1000 Tryz.func296 rfl (qc Tryz.func296 (by kernel_rfl) rfl) 53 (by kernel_rfl) ?_
 have e1:IntKind.i64.wrap ((m:Int) - (a:Int))=((m - a:Nat):Int):=by rw[qg _ (by omega)];omega
 have e2:IntKind.i64.wrap ((b:Int) - (m:Int))=((b - m:Nat):Int):=by rw[qg _ (by omega)];omega
 conv=>whnf
 rw[e1,e2]
 refine .inv (Nat × Nat × (Nat->Nat)) (fun s=>0<s.1/\0<s.2.1/\s.1<=m - a/\s.2.1<=b - m/\rot s.2.2 (m - s.1) m (m+s.2.1)=rot p a m b) (fun s=>[(10,iV s.1),(11,iV s.2.1)]) (fun s=>[(0,rowP n z s.2.2)]) (fun s=>s.1+s.2.1) ⟨(m - a,b - m,p),[0],show 0<m - a/\0<b - m/\m - a<=m - a/\b - m<=b - m/\rot p (m - (m - a)) m (m+(b - m))=rot p a m b from⟨by omega,by omega,by omega,by omega,?_⟩,?_⟩ ?_
 ·rw[show m - (m - a)=a by omega,show m+(b - m)=b by omega]
 ·conv=>whnf
  repeat'(first|exact ⟨⟩|exact rfl|exact qa _|exact .inr rfl|exact fun _ _=>rfl|exact noI|apply And.intro)
 intro s hs
 obtain⟨i,j,q⟩:=s
 obtain⟨h0,h00,him,hjb,hq⟩:=hs
 dsimp only at h0 h00 him hjb hq
 conv=>whnf
 refine⟨fun h1=>?_,fun h1=>?_⟩
 ·have h1:¬ i=j:=fun e=>by subst e;simp at h1
  conv=>whnf
  refine⟨fun h2=>?_,fun h2=>?_⟩
  ·have h2:j<i:=by
    have h:(i:Int) > j:=of_decide_eq_true h2
    omega
   have e3:IntKind.i64.wrap ((m:Int) - (i:Int))=((m - i:Nat):Int):=by rw[qg _ (by omega)];omega
   conv=>whnf
   rw[e3]
   refine .rel _ (swap_ok n hn z q (m - i) m j (by omega) (by omega) (by omega)) (fun r ks' hR=>?_)
   obtain⟨rfl,rfl⟩:=hR
   have e4:IntKind.i64.wrap ((i:Int) - (j:Int))=((i - j:Nat):Int):=by rw[qg _ (by omega)];omega
   conv=>whnf
   rw[e4]
   refine⟨(i - j,j,swp q (m - i) m j),[0],(show 0<i - j/\0<j/\i - j<=m - a/\j<=b - m/\rot (swp q (m - i) m j) (m - (i - j)) m (m+j)=rot p a m b from⟨by omega,by omega,by omega,by omega,(rot_left q m i j h2 (by omega)).trans hq⟩),by show i - j+j<i+j;omega,?_⟩
   conv=>whnf
   repeat'(first|exact ⟨⟩|exact rfl|exact qa _|exact .inr rfl|exact fun _ _=>rfl|exact noI|apply And.intro)
  ·have h2:i<j:=by
    have h:¬ ((i:Int) > j):=of_decide_eq_false h2
    omega
   have e3:IntKind.i64.wrap ((m:Int) - (i:Int))=((m - i:Nat):Int):=by rw[qg _ (by omega)];omega
   have e5:IntKind.i64.wrap (IntKind.i64.wrap ((m:Int)+(j:Int)) - (i:Int))=((m+j - i:Nat):Int):=by rw[qg ((m:Int)+j) (by omega),qg _ (by omega)];omega
   conv=>whnf
   rw[e3,e5]
   refine .rel _ (swap_ok n hn z q (m - i) (m+j - i) i (by omega) (by omega) (by omega)) (fun r ks' hR=>?_)
   obtain⟨rfl,rfl⟩:=hR
   have e4:IntKind.i64.wrap ((j:Int) - (i:Int))=((j - i:Nat):Int):=by rw[qg _ (by omega)];omega
   conv=>whnf
   rw[e4]
   refine⟨(i,j - i,swp q (m - i) (m+j - i) i),[0],(show 0<i/\0<j - i/\i<=m - a/\j - i<=b - m/\rot (swp q (m - i) (m+j - i) i) (m - i) m (m+(j - i))=rot p a m b from⟨by omega,by omega,by omega,by omega,(rot_right q m i j h2 (by omega)).trans hq⟩),by show i+(j - i)<i+j;omega,?_⟩
   conv=>whnf
   repeat'(first|exact ⟨⟩|exact rfl|exact qa _|exact .inr rfl|exact fun _ _=>rfl|exact noI|apply And.intro)
 ·have h1:i=j:=by simp at h1;omega
  subst h1
  have e3:IntKind.i64.wrap ((m:Int) - (i:Int))=((m - i:Nat):Int):=by rw[qg _ (by omega)];omega
  conv=>whnf
  rw[e3]
  refine .rel _ (swap_ok n hn z q (m - i) m i (by omega) (by omega) (by omega)) (fun r ks' hR=>?_)
  obtain⟨rfl,rfl⟩:=hR
  rw[rot_same q m i (by omega),hq]
  conv=>whnf
  refine⟨[0],_,_,rfl,rfl,?_,?_,rfl,rfl⟩
  ·exact rfl
  ·conv=>whnf
   repeat'(first|exact ⟨⟩|exact rfl|exact qa _|exact .inr rfl|exact fun _ _=>rfl|exact noI|apply And.intro)
def upN(n:List UInt8):List UInt8:=n.drop (1+bt n 0)
def qw(n:List UInt8):List UInt8 × Int:=if qh n then (if n=[0] then ([],3) else (upN n,0)) else ([],2)
theorem km{n:List UInt8}(h:qh n)(hn:n≠[0]):1+bt n 0<=n.length/\bt n 0<=63:=by
 obtain⟨h1,h2,h3⟩:=qa1 h
 cases hl:labN n with
 |nil=>rw [hl] at h3;exact absurd h3 hn
 |cons l ls =>
  rw [hl] at h2 h3
  have hok:=h2 l (by simp)
  have hb:bt n 0=l.length:=by rw[h3];exact x7 l (mk ls) hok
  rw[hb]
  have:=hok.2
  refine⟨?_,this⟩
  conv=>rhs;rw[h3]
  show _<=(lab l++mk ls).length
  rw[List.length_append,zg];omega
theorem wk(n:List UInt8):FnOk Tryz.prog 261 [.d (.str n)] (.tup [.d (.str (qw n).1),.d (.int .i64 (qw n).2)]):=by
 refine qn (TT:=TT) (IN:=qd []) qf qe mixed 1000 Tryz.func261 rfl (qc Tryz.func261 (by kernel_rfl) rfl) rfl 14 (by kernel_rfl) ?_
 conv=>whnf
 refine oD (j5 n) rfl rfl ?_
 by_cases hn:qh n
 ·rw[if_pos hn]
  conv=>whnf
  refine brF rfl ?_
  conv=>whnf
  refine⟨fun h1=>?_,fun h1=>?_⟩
  ·have h1:n=[0]:=by simpa using h1
   rw[show qw n=([],3) by unfold qw;rw[if_pos hn,if_pos h1]]
   conv=>whnf
   repeat'(first|exact ⟨⟩|exact rfl|exact .inr rfl|exact .inl rfl|exact fun _ _=>rfl|exact noI|apply And.intro)
  ·have h1:n≠[0]:=by simpa using h1
   rw[show qw n=(upN n,0) by unfold qw;rw[if_pos hn,if_neg h1]]
   obtain⟨k1,k2⟩:=km hn h1
   have hpos:=hn.1
   have e1:IntKind.i64.wrap (1+IntKind.i64.wrap (jc n 0))=((1+bt n 0:Nat):Int):=by
    have:=zl n 0
    rw [show ((0:Nat):Int)=0 from rfl] at this
    rw[this,qg (bt n 0:Int) (by omega),qg _ (by omega)];omega
   conv=>whnf
   refine⟨by omega,?_⟩
   conv=>whnf
   rw[e1]
   refine⟨by omega,?_⟩
   conv=>whnf
   rw[qq5]
   repeat'(first|exact ⟨⟩|exact rfl|exact .inr rfl|exact .inl rfl|exact fun _ _=>rfl|exact noI|apply And.intro)
 ·rw[if_neg hn]
  rw[show qw n=([],2) by unfold qw;rw[if_neg hn]]
  conv=>whnf
  refine brT rfl ?_
  conv=>whnf
  repeat'(first|exact ⟨⟩|exact rfl|exact .inr rfl|exact .inl rfl|exact fun _ _=>rfl|exact noI|apply And.intro)
theorem wr{n:List UInt8}(h:qh n)(hn:n≠[0]):qh (upN n):=by
 obtain⟨h1,h2,h3⟩:=qa1 h
 cases hl:labN n with
 |nil=>rw [hl] at h3;exact absurd h3 hn
 |cons l ls =>
  rw [hl] at h2 h3
  have hok:=h2 l (by simp)
  have hb:bt n 0=l.length:=by rw[h3];exact x7 l (mk ls) hok
  have hu:upN n=mk ls:=by
   unfold upN
   rw[hb,h3]
   show(UInt8.ofNat l.length :: (l++mk ls)).drop (1+l.length)=_
   rw[Nat.add_comm,List.drop_succ_cons,List.drop_left]
  rw[hu]
  refine(qe0 _).2 ⟨?_,ls,fun x hx=>h2 x (by simp[hx]),rfl⟩
  rw [h3] at h1
  have:(mk (l :: ls)).length=(lab l).length+(mk ls).length:=by
   show(lab l++mk ls).length=_
   rw[List.length_append]
  omega
theorem COk.frameX{P:Program}{f:FuncId}{as0:List SV}{ks0:List KB}{R0:SV->List KB->Prop}(h:COk P f as0 ks0 R0)(is:List Nat){al:List SV}{ks:List KB}
 (hok:okN (lenB ks) is=true) (ha:mapL (sig is (lenB ks)) as0=al) (hk:qb0 ks is=mapB (sig is (lenB ks)) ks0):COk P f al ks (fun s k=>∃ s0 k0,R0 s0 k0/\s=mapV (sig is (lenB ks)) s0/\k=putBs ks is (mapB (sig is (lenB ks)) k0)) :=
 COk.frame h is hok ha hk (fun s0 k0 h=>⟨s0,k0,h,rfl,rfl⟩)
theorem qz7{K V:Type}{ek:K->List DV}{ev:V->List SV}{σ:Nat->Nat}(hv:∀ v,mapL σ (ev v)=ev v):∀ l:List (K × V),mapM σ (aenc ek ev l)=aenc ek ev l
 |[]=>rfl
 |e :: l=>by
  show(ek e.1,mapL σ (ev e.2)) :: mapM σ (aenc ek ev l)=(ek e.1,ev e.2) :: aenc ek ev l
  rw[hv,qz7 hv l]
theorem qz6{K V:Type}{ek:K->List DV}{ev:V->List SV}{ρ:List Nat}(hv:∀ v,renL ρ (ev v)=ev v):∀ l:List (K × V),renM ρ (aenc ek ev l)=aenc ek ev l
 |[]=>rfl
 |e :: l=>by
  show(ek e.1,renL ρ (ev e.2)) :: renM ρ (aenc ek ev l)=(ek e.1,ev e.2) :: aenc ek ev l
  rw[hv,qz6 hv l]
def intV(n:Nat):List SV:=[.d (.int .i64 (n:Nat))]
def lookB(z:Zo)(i:Nat):KB:=.cells 359 [.d (.str z.apex),.d (rrsD z.z z.rrs),.map i,.map (i+1)]
def wx(S:List ((List UInt8 × Int × Int × List UInt8) × Nat)):KB:=.map [.str,.int .u16,.int .u16,.str] true false (aenc zk intV S)
def ke(N:List (List UInt8 × Hd))(st:MS):KB:=.mapx [.str] false true (aenc strK Hd.enc N) st
def lookK(z:Zo)(S:List ((List UInt8 × Int × Int × List UInt8) × Nat))(N:List (List UInt8 × Hd))(st:MS):List KB:=[lookB z 1,wx S,ke N st]
theorem qq{ρ:List Nat}(S:List ((List UInt8 × Int × Int × List UInt8) × Nat)):renM ρ (aenc zk intV S)=aenc zk intV S:=qz6 (fun _=>rfl) S
theorem qo{ρ:List Nat}(N:List (List UInt8 × Hd)):renM ρ (aenc strK Hd.enc N)=aenc strK Hd.enc N:=qz6 (fun _=>rfl) N
theorem qx5{σ:Nat->Nat}(S:List ((List UInt8 × Int × Int × List UInt8) × Nat)):mapM σ (aenc zk intV S)=aenc zk intV S:=qz7 (fun _=>rfl) S
theorem qy2{σ:Nat->Nat}(N:List (List UInt8 × Hd)):mapM σ (aenc strK Hd.enc N)=aenc strK Hd.enc N:=qz7 (fun _=>rfl) N
theorem qp(N:List (List UInt8 × Hd))(st:MS)(ρ:List Nat):SubK (renK ρ (ke N st)) (ke N st):=by
 cases st
 ·exact⟨⟨rfl,rfl,rfl⟩,qo N⟩
 ·exact⟨⟨⟨rfl,rfl,rfl⟩,qo N⟩,rfl⟩
 ·exact⟨⟨⟨rfl,rfl,rfl⟩,qo N⟩,rfl⟩
theorem uq(p:RR->Bool)(l:List RR)(n:List UInt8):cntZ p l n<=l.length:=List.length_filter_le _ _
theorem fits_ok(z:Zo)(S:List ((List UInt8 × Int × Int × List UInt8) × Nat))(l:List RR)(hl:l.length<=300)(st:MS)(name top:List UInt8)(hn:qh name) :
 COk Tryz.prog 254 [.ptr 0 0,.d (.str name),.d (.str top),.agg (jz l name).enc] (lookK z S (qb l) st) (fun s k=>s = .d (.bool (qx l top name))/\k=lookK z S (qb l) st):=by
 refine ji (TT:=TT) (IN:=qd [(231,Tryz.f231,1),(260,Tryz.f260,2)]) qf (qv (qv qe Tryz.func260 (by kernel_rfl) (by kernel_rfl)) Tryz.func231 (by kernel_rfl) (by kernel_rfl)) mixed 1000 Tryz.func254 rfl (qc Tryz.func254 (by kernel_rfl) rfl) 59 (by kernel_rfl) ?_
 have b1:=uq anyR l name
 have b2:=uq zb l name
 have b3:=uq isNs l name
 have b4:=uq vp l name
 have b5:=uq jv l name
 conv=>whnf
 refine⟨fun h1=>?_,fun h1=>?_⟩
 ·have h1:0<cntZ vp l name:=by
   have h:((cntZ vp l name:Nat):Int) > 0:=of_decide_eq_true h1
   omega
  conv=>whnf
  refine⟨fun h2=>?_,fun h2=>?_⟩
  ·have h2:1<cntZ anyR l name:=by
    have h:((cntZ anyR l name:Nat):Int) > 1:=of_decide_eq_true h2
    omega
   have hf:qx l top name=false:=by unfold qx;rw[if_pos ⟨h1,h2⟩]
   conv=>whnf
   rw[hf]
   refine⟨[0,1,2],_,lookK z S (qb l) st,rfl,rfl,?_,?_,rfl,rfl⟩
   ·exact rfl
   ·conv=>whnf
    repeat'(first|exact ⟨⟩|exact rfl|exact qa _|exact .inr rfl|exact fun _ _=>rfl|exact noI|apply And.intro)
    all_goals first
     |exact qq _
     |exact qo _
     |exact qp _ _ _
  ·have h2:¬ 1<cntZ anyR l name:=by
    have h:¬ ((cntZ anyR l name:Nat):Int) > 1:=of_decide_eq_false h2
    omega
   have hA:¬ (0<cntZ vp l name/\1<cntZ anyR l name):=fun h=>h2 h.2
   conv=>whnf
   refine⟨fun h3=>?_,fun h3=>?_⟩
   ·have h3:name=top:=by simpa using h3
    have hf:qx l top name=true:=by unfold qx;rw[if_neg hA,if_pos h3]
    conv=>whnf
    rw[hf]
    refine⟨[0,1,2],_,lookK z S (qb l) st,rfl,rfl,?_,?_,rfl,rfl⟩
    ·exact rfl
    ·conv=>whnf
     repeat'(first|exact ⟨⟩|exact rfl|exact qa _|exact .inr rfl|exact fun _ _=>rfl|exact noI|apply And.intro)
     all_goals first
      |exact qq _
      |exact qo _
      |exact qp _ _ _
   ·have h3:name≠top:=by simpa using h3
    conv=>whnf
    refine⟨fun h4=>?_,fun h4=>?_⟩
    ·have h4:0<cntZ zb l name:=by
      have h:((cntZ zb l name:Nat):Int) > 0:=of_decide_eq_true h4
      omega
     have hf:qx l top name=false:=by unfold qx;rw[if_neg hA,if_neg h3,if_pos (.inl h4)]
     conv=>whnf
     rw[hf]
     refine⟨[0,1,2],_,lookK z S (qb l) st,rfl,rfl,?_,?_,rfl,rfl⟩
     ·exact rfl
     ·conv=>whnf
      repeat'(first|exact ⟨⟩|exact rfl|exact qa _|exact .inr rfl|exact fun _ _=>rfl|exact noI|apply And.intro)
      all_goals first
       |exact qq _
       |exact qo _
       |exact qp _ _ _
    ·have h4:¬ 0<cntZ zb l name:=by
      have h:¬ ((cntZ zb l name:Nat):Int) > 0:=of_decide_eq_false h4
      omega
     conv=>whnf
     refine⟨fun h5=>?_,fun h5=>?_⟩
     ·have h5:0<cntZ isNs l name:=by
       have h:((cntZ isNs l name:Nat):Int) > 0:=of_decide_eq_true h5
       omega
      have hw:IntKind.i64.wrap (((jz l name).ns:Nat)+((jz l name).addr:Nat):Int)=((cntZ isNs l name+cntZ jv l name:Nat):Int):=by
       show IntKind.i64.wrap (((cntZ isNs l name:Nat):Int)+((cntZ jv l name:Nat):Int))=_
       rw[qg _ (by omega)];omega
      conv=>whnf
      rw[hw]
      refine⟨fun h6=>?_,fun h6=>?_⟩
      ·have h6:cntZ isNs l name+cntZ jv l name<cntZ anyR l name:=by
        have h:((cntZ anyR l name:Nat):Int) > ((cntZ isNs l name+cntZ jv l name:Nat):Int):=of_decide_eq_true h6
        omega
       have hf:qx l top name=false:=by unfold qx;rw[if_neg hA,if_neg h3,if_pos (.inr ⟨h5,h6⟩)]
       conv=>whnf
       rw[hf]
       refine⟨[0,1,2],_,lookK z S (qb l) st,rfl,rfl,?_,?_,rfl,rfl⟩
       ·exact rfl
       ·conv=>whnf
        repeat'(first|exact ⟨⟩|exact rfl|exact qa _|exact .inr rfl|exact fun _ _=>rfl|exact noI|apply And.intro)
        all_goals first
         |exact qq _
         |exact qo _
         |exact qp _ _ _
      ·have h6:¬ cntZ isNs l name+cntZ jv l name<cntZ anyR l name:=by
        have h:¬ ((cntZ anyR l name:Nat):Int) > ((cntZ isNs l name+cntZ jv l name:Nat):Int):=of_decide_eq_false h6
        omega
       have hf:qx l top name=zj l name top (upsN name):=by unfold qx;rw[if_neg hA,if_neg h3,if_neg (fun h=>h.elim h4 (fun h=>h6 h.2))]
       conv=>whnf
       refine oD (j5 name) rfl rfl ?_
       rw[if_pos hn]
       conv=>whnf
       refine brF rfl ?_
       conv=>whnf
       refine .inv (List UInt8 × Nat) (fun s=>qh s.1/\s.1.length<=s.2/\zj l name top (upsF s.2 s.1)=qx l top name) (fun s=>[(3,.d (.str s.1))]) (fun s=>[]) (fun s=>s.2) ⟨(name,name.length),[0,1,2,3,4,5,6,7,8,9],⟨hn,Nat.le_refl _,by rw[hf];unfold upsN;rw[if_pos hn]⟩,?_⟩ ?_
       ·conv=>whnf
        repeat'(first|exact ⟨⟩|exact rfl|exact qa _|exact .inr rfl|exact fun _ _=>rfl|exact noI|apply And.intro)
        all_goals first
         |exact qq _
         |exact qo _
         |exact qp _ _ _
       clear hf
       intro s hs
       obtain⟨g1,g2,g3⟩:=hs
       conv=>whnf
       generalize s.1=n at g1 g2 g3 ⊢
       generalize s.2=k at g2 g3 ⊢
       obtain⟨k,rfl⟩:∃ k',k=k'+1:=⟨k - 1,by have:=g1.1;omega⟩
       have hc:zj l name top (upsF (k+1) n)=if n=top then true else if n≠name/\0<cntZ isNs l n then cntZ anyR l name == cntZ jv l name else zj l name top (if n=[0] then [] else upsF k (n.drop (1+bt n 0))):=rfl
       refine⟨fun g4=>?_,fun g4=>?_⟩
       ·have g4:n=top:=by simpa using g4
        have hf:qx l top name=true:=by rw[<-g3,hc,if_pos g4]
        conv=>whnf
        rw[hf]
        refine⟨[0,1,2],_,lookK z S (qb l) st,rfl,rfl,?_,?_,rfl,rfl⟩
        ·exact rfl
        ·conv=>whnf
         repeat'(first|exact ⟨⟩|exact rfl|exact qa _|exact .inr rfl|exact fun _ _=>rfl|exact noI|apply And.intro)
         all_goals first
          |exact qq _
          |exact qo _
          |exact qp _ _ _
       ·have g4:n≠top:=by simpa using g4
        rw [if_neg g4] at hc
        conv=>whnf
        refine⟨fun g5=>?_,fun g5=>?_⟩
        ·have g5:n≠name:=by simpa using g5
         conv=>whnf
         have hg:=qe3 l n
         cases ha:aget (qb l) n with
         |none =>
          rw [ha] at hg
          have hns:cntZ isNs l n=0:=(congrArg Hd.ns hg).symm
          rw [if_neg (fun h=>by rw [hns] at h;exact absurd h.2 (Nat.lt_irrefl 0))] at hc
          refine ⟨none,by have:=vl (ev:=Hd.enc) zz (qb l) n;rw [ha] at this;exact this,?_⟩
          conv=>whnf
          refine brF rfl ?_
          conv=>whnf
          refine oD (wk n) rfl rfl ?_
          by_cases hz:n=[0]
          ·have hp:qw n=([],3):=by unfold qw;rw[if_pos g1,if_pos hz]
           have hf:qx l top name=true:=by rw[<-g3,hc,if_pos hz];rfl
           rw[hp]
           conv=>whnf
           refine brT rfl ?_
           conv=>whnf
           rw[hf]
           refine⟨[0,1,2],_,lookK z S (qb l) st,rfl,rfl,?_,?_,rfl,rfl⟩
           ·exact rfl
           ·conv=>whnf
            repeat'(first|exact ⟨⟩|exact rfl|exact qa _|exact .inr rfl|exact fun _ _=>rfl|exact noI|apply And.intro)
            all_goals first
             |exact qq _
             |exact qo _
             |exact qp _ _ _
          ·have hp:qw n=(upN n,0):=by unfold qw;rw[if_pos g1,if_neg hz]
           rw [if_neg hz] at hc
           rw[hp]
           conv=>whnf
           refine brF rfl ?_
           conv=>whnf
           refine⟨(upN n,k),[0,1,2,3,4,5,6,7,8,9],⟨wr g1 hz,?_,?_⟩,Nat.lt_succ_self k,?_⟩
           ·have:=km g1 hz
            show(upN n).length<=k
            unfold upN
            rw[List.length_drop]
            omega
           ·exact(by rw[<-g3,hc];rfl)
           ·conv=>whnf
            repeat'(first|exact ⟨⟩|exact rfl|exact qa _|exact .inr rfl|exact fun _ _=>rfl|exact noI|apply And.intro)
            all_goals first
             |exact qq _
             |exact qo _
             |exact qp _ _ _
         |some h0 =>
          rw [ha] at hg
          have hns:h0.ns=cntZ isNs l n:=congrArg Hd.ns hg
          refine ⟨some h0.enc,by have:=vl (ev:=Hd.enc) zz (qb l) n;rw [ha] at this;exact this,?_⟩
          conv=>whnf
          refine⟨fun g6=>?_,fun g6=>?_⟩
          ·have g6:0<cntZ isNs l n:=by
            have h:((h0.ns:Nat):Int) > 0:=of_decide_eq_true g6
            omega
           have hf:qx l top name=((((jz l name).all:Nat):Int) == (((jz l name).addr:Nat):Int)):=by
            rw[<-g3,hc,if_pos ⟨g5,g6⟩,Bool.eq_iff_iff,beq_iff_eq,beq_iff_eq]
            show(cntZ anyR l name=cntZ jv l name)↔((cntZ anyR l name:Nat):Int)=((cntZ jv l name:Nat):Int)
            omega
           conv=>whnf
           rw[hf]
           refine⟨[0,1,2],_,lookK z S (qb l) st,rfl,rfl,?_,?_,rfl,rfl⟩
           ·exact rfl
           ·conv=>whnf
            repeat'(first|exact ⟨⟩|exact rfl|exact qa _|exact .inr rfl|exact fun _ _=>rfl|exact noI|apply And.intro)
            all_goals first
             |exact qq _
             |exact qo _
             |exact qp _ _ _
          ·have g6:¬ 0<cntZ isNs l n:=by
            have h:¬ ((h0.ns:Nat):Int) > 0:=of_decide_eq_false g6
            omega
           rw [if_neg (fun h=>g6 h.2)] at hc
           conv=>whnf
           refine oD (wk n) rfl rfl ?_
           by_cases hz:n=[0]
           ·have hp:qw n=([],3):=by unfold qw;rw[if_pos g1,if_pos hz]
            have hf:qx l top name=true:=by rw[<-g3,hc,if_pos hz];rfl
            rw[hp]
            conv=>whnf
            refine brT rfl ?_
            conv=>whnf
            rw[hf]
            refine⟨[0,1,2],_,lookK z S (qb l) st,rfl,rfl,?_,?_,rfl,rfl⟩
            ·exact rfl
            ·conv=>whnf
             repeat'(first|exact ⟨⟩|exact rfl|exact qa _|exact .inr rfl|exact fun _ _=>rfl|exact noI|apply And.intro)
             all_goals first
              |exact qq _
              |exact qo _
              |exact qp _ _ _
           ·have hp:qw n=(upN n,0):=by unfold qw;rw[if_pos g1,if_neg hz]
            rw [if_neg hz] at hc
            rw[hp]
            conv=>whnf
            refine brF rfl ?_
            conv=>whnf
            refine⟨(upN n,k),[0,1,2,3,4,5,6,7,8,9],⟨wr g1 hz,?_,?_⟩,Nat.lt_succ_self k,?_⟩
            ·have:=km g1 hz
             show(upN n).length<=k
             unfold upN
             rw[List.length_drop]
             omega
            ·exact(by rw[<-g3,hc];rfl)
            ·conv=>whnf
             repeat'(first|exact ⟨⟩|exact rfl|exact qa _|exact .inr rfl|exact fun _ _=>rfl|exact noI|apply And.intro)
             all_goals first
              |exact qq _
              |exact qo _
              |exact qp _ _ _
        ·have g5:n=name:=by simpa using g5
         rw [if_neg (fun h=>h.1 g5)] at hc
         conv=>whnf
         refine oD (wk n) rfl rfl ?_
         by_cases hz:n=[0]
         ·have hp:qw n=([],3):=by unfold qw;rw[if_pos g1,if_pos hz]
          have hf:qx l top name=true:=by rw[<-g3,hc,if_pos hz];rfl
          rw[hp]
          conv=>whnf
          refine brT rfl ?_
          conv=>whnf
          rw[hf]
          refine⟨[0,1,2],_,lookK z S (qb l) st,rfl,rfl,?_,?_,rfl,rfl⟩
          ·exact rfl
          ·conv=>whnf
           repeat'(first|exact ⟨⟩|exact rfl|exact qa _|exact .inr rfl|exact fun _ _=>rfl|exact noI|apply And.intro)
           all_goals first
            |exact qq _
            |exact qo _
            |exact qp _ _ _
         ·have hp:qw n=(upN n,0):=by unfold qw;rw[if_pos g1,if_neg hz]
          rw [if_neg hz] at hc
          rw[hp]
          conv=>whnf
          refine brF rfl ?_
          conv=>whnf
          refine⟨(upN n,k),[0,1,2,3,4,5,6,7,8,9],⟨wr g1 hz,?_,?_⟩,Nat.lt_succ_self k,?_⟩
          ·have:=km g1 hz
           show(upN n).length<=k
           unfold upN
           rw[List.length_drop]
           omega
          ·exact(by rw[<-g3,hc];rfl)
          ·conv=>whnf
           repeat'(first|exact ⟨⟩|exact rfl|exact qa _|exact .inr rfl|exact fun _ _=>rfl|exact noI|apply And.intro)
           all_goals first
            |exact qq _
            |exact qo _
            |exact qp _ _ _
     ·have h5:¬ 0<cntZ isNs l name:=by
       have h:¬ ((cntZ isNs l name:Nat):Int) > 0:=of_decide_eq_false h5
       omega
      have hf:qx l top name=zj l name top (upsN name):=by unfold qx;rw[if_neg hA,if_neg h3,if_neg (fun h=>h.elim h4 (fun h=>h5 h.1))]
      conv=>whnf
      refine oD (j5 name) rfl rfl ?_
      rw[if_pos hn]
      conv=>whnf
      refine brF rfl ?_
      conv=>whnf
      refine .inv (List UInt8 × Nat) (fun s=>qh s.1/\s.1.length<=s.2/\zj l name top (upsF s.2 s.1)=qx l top name) (fun s=>[(3,.d (.str s.1))]) (fun s=>[]) (fun s=>s.2) ⟨(name,name.length),[0,1,2,3,4,5,6,7,8,9],⟨hn,Nat.le_refl _,by rw[hf];unfold upsN;rw[if_pos hn]⟩,?_⟩ ?_
      ·conv=>whnf
       repeat'(first|exact ⟨⟩|exact rfl|exact qa _|exact .inr rfl|exact fun _ _=>rfl|exact noI|apply And.intro)
       all_goals first
        |exact qq _
        |exact qo _
        |exact qp _ _ _
      clear hf
      intro s hs
      obtain⟨g1,g2,g3⟩:=hs
      conv=>whnf
      generalize s.1=n at g1 g2 g3 ⊢
      generalize s.2=k at g2 g3 ⊢
      obtain⟨k,rfl⟩:∃ k',k=k'+1:=⟨k - 1,by have:=g1.1;omega⟩
      have hc:zj l name top (upsF (k+1) n)=if n=top then true else if n≠name/\0<cntZ isNs l n then cntZ anyR l name == cntZ jv l name else zj l name top (if n=[0] then [] else upsF k (n.drop (1+bt n 0))):=rfl
      refine⟨fun g4=>?_,fun g4=>?_⟩
      ·have g4:n=top:=by simpa using g4
       have hf:qx l top name=true:=by rw[<-g3,hc,if_pos g4]
       conv=>whnf
       rw[hf]
       refine⟨[0,1,2],_,lookK z S (qb l) st,rfl,rfl,?_,?_,rfl,rfl⟩
       ·exact rfl
       ·conv=>whnf
        repeat'(first|exact ⟨⟩|exact rfl|exact qa _|exact .inr rfl|exact fun _ _=>rfl|exact noI|apply And.intro)
        all_goals first
         |exact qq _
         |exact qo _
         |exact qp _ _ _
      ·have g4:n≠top:=by simpa using g4
       rw [if_neg g4] at hc
       conv=>whnf
       refine⟨fun g5=>?_,fun g5=>?_⟩
       ·have g5:n≠name:=by simpa using g5
        conv=>whnf
        have hg:=qe3 l n
        cases ha:aget (qb l) n with
        |none =>
         rw [ha] at hg
         have hns:cntZ isNs l n=0:=(congrArg Hd.ns hg).symm
         rw [if_neg (fun h=>by rw [hns] at h;exact absurd h.2 (Nat.lt_irrefl 0))] at hc
         refine ⟨none,by have:=vl (ev:=Hd.enc) zz (qb l) n;rw [ha] at this;exact this,?_⟩
         conv=>whnf
         refine brF rfl ?_
         conv=>whnf
         refine oD (wk n) rfl rfl ?_
         by_cases hz:n=[0]
         ·have hp:qw n=([],3):=by unfold qw;rw[if_pos g1,if_pos hz]
          have hf:qx l top name=true:=by rw[<-g3,hc,if_pos hz];rfl
          rw[hp]
          conv=>whnf
          refine brT rfl ?_
          conv=>whnf
          rw[hf]
          refine⟨[0,1,2],_,lookK z S (qb l) st,rfl,rfl,?_,?_,rfl,rfl⟩
          ·exact rfl
          ·conv=>whnf
           repeat'(first|exact ⟨⟩|exact rfl|exact qa _|exact .inr rfl|exact fun _ _=>rfl|exact noI|apply And.intro)
           all_goals first
            |exact qq _
            |exact qo _
            |exact qp _ _ _
         ·have hp:qw n=(upN n,0):=by unfold qw;rw[if_pos g1,if_neg hz]
          rw [if_neg hz] at hc
          rw[hp]
          conv=>whnf
          refine brF rfl ?_
          conv=>whnf
          refine⟨(upN n,k),[0,1,2,3,4,5,6,7,8,9],⟨wr g1 hz,?_,?_⟩,Nat.lt_succ_self k,?_⟩
          ·have:=km g1 hz
           show(upN n).length<=k
           unfold upN
           rw[List.length_drop]
           omega
          ·exact(by rw[<-g3,hc];rfl)
          ·conv=>whnf
           repeat'(first|exact ⟨⟩|exact rfl|exact qa _|exact .inr rfl|exact fun _ _=>rfl|exact noI|apply And.intro)
           all_goals first
            |exact qq _
            |exact qo _
            |exact qp _ _ _
        |some h0 =>
         rw [ha] at hg
         have hns:h0.ns=cntZ isNs l n:=congrArg Hd.ns hg
         refine ⟨some h0.enc,by have:=vl (ev:=Hd.enc) zz (qb l) n;rw [ha] at this;exact this,?_⟩
         conv=>whnf
         refine⟨fun g6=>?_,fun g6=>?_⟩
         ·have g6:0<cntZ isNs l n:=by
           have h:((h0.ns:Nat):Int) > 0:=of_decide_eq_true g6
           omega
          have hf:qx l top name=((((jz l name).all:Nat):Int) == (((jz l name).addr:Nat):Int)):=by
           rw[<-g3,hc,if_pos ⟨g5,g6⟩,Bool.eq_iff_iff,beq_iff_eq,beq_iff_eq]
           show(cntZ anyR l name=cntZ jv l name)↔((cntZ anyR l name:Nat):Int)=((cntZ jv l name:Nat):Int)
           omega
          conv=>whnf
          rw[hf]
          refine⟨[0,1,2],_,lookK z S (qb l) st,rfl,rfl,?_,?_,rfl,rfl⟩
          ·exact rfl
          ·conv=>whnf
           repeat'(first|exact ⟨⟩|exact rfl|exact qa _|exact .inr rfl|exact fun _ _=>rfl|exact noI|apply And.intro)
           all_goals first
            |exact qq _
            |exact qo _
            |exact qp _ _ _
         ·have g6:¬ 0<cntZ isNs l n:=by
           have h:¬ ((h0.ns:Nat):Int) > 0:=of_decide_eq_false g6
           omega
          rw [if_neg (fun h=>g6 h.2)] at hc
          conv=>whnf
          refine oD (wk n) rfl rfl ?_
          by_cases hz:n=[0]
          ·have hp:qw n=([],3):=by unfold qw;rw[if_pos g1,if_pos hz]
           have hf:qx l top name=true:=by rw[<-g3,hc,if_pos hz];rfl
           rw[hp]
           conv=>whnf
           refine brT rfl ?_
           conv=>whnf
           rw[hf]
           refine⟨[0,1,2],_,lookK z S (qb l) st,rfl,rfl,?_,?_,rfl,rfl⟩
           ·exact rfl
           ·conv=>whnf
            repeat'(first|exact ⟨⟩|exact rfl|exact qa _|exact .inr rfl|exact fun _ _=>rfl|exact noI|apply And.intro)
            all_goals first
             |exact qq _
             |exact qo _
             |exact qp _ _ _
          ·have hp:qw n=(upN n,0):=by unfold qw;rw[if_pos g1,if_neg hz]
           rw [if_neg hz] at hc
           rw[hp]
           conv=>whnf
           refine brF rfl ?_
           conv=>whnf
           refine⟨(upN n,k),[0,1,2,3,4,5,6,7,8,9],⟨wr g1 hz,?_,?_⟩,Nat.lt_succ_self k,?_⟩
           ·have:=km g1 hz
            show(upN n).length<=k
            unfold upN
            rw[List.length_drop]
            omega
           ·exact(by rw[<-g3,hc];rfl)
           ·conv=>whnf
            repeat'(first|exact ⟨⟩|exact rfl|exact qa _|exact .inr rfl|exact fun _ _=>rfl|exact noI|apply And.intro)
            all_goals first
             |exact qq _
             |exact qo _
             |exact qp _ _ _
       ·have g5:n=name:=by simpa using g5
        rw [if_neg (fun h=>h.1 g5)] at hc
        conv=>whnf
        refine oD (wk n) rfl rfl ?_
        by_cases hz:n=[0]
        ·have hp:qw n=([],3):=by unfold qw;rw[if_pos g1,if_pos hz]
         have hf:qx l top name=true:=by rw[<-g3,hc,if_pos hz];rfl
         rw[hp]
         conv=>whnf
         refine brT rfl ?_
         conv=>whnf
         rw[hf]
         refine⟨[0,1,2],_,lookK z S (qb l) st,rfl,rfl,?_,?_,rfl,rfl⟩
         ·exact rfl
         ·conv=>whnf
          repeat'(first|exact ⟨⟩|exact rfl|exact qa _|exact .inr rfl|exact fun _ _=>rfl|exact noI|apply And.intro)
          all_goals first
           |exact qq _
           |exact qo _
           |exact qp _ _ _
        ·have hp:qw n=(upN n,0):=by unfold qw;rw[if_pos g1,if_neg hz]
         rw [if_neg hz] at hc
         rw[hp]
         conv=>whnf
         refine brF rfl ?_
         conv=>whnf
         refine⟨(upN n,k),[0,1,2,3,4,5,6,7,8,9],⟨wr g1 hz,?_,?_⟩,Nat.lt_succ_self k,?_⟩
         ·have:=km g1 hz
          show(upN n).length<=k
          unfold upN
          rw[List.length_drop]
          omega
         ·exact(by rw[<-g3,hc];rfl)
         ·conv=>whnf
          repeat'(first|exact ⟨⟩|exact rfl|exact qa _|exact .inr rfl|exact fun _ _=>rfl|exact noI|apply And.intro)
          all_goals first
           |exact qq _
           |exact qo _
           |exact qp _ _ _
 ·have h1:¬ 0<cntZ vp l name:=by
   have h:¬ ((cntZ vp l name:Nat):Int) > 0:=of_decide_eq_false h1
   omega
  have hA:¬ (0<cntZ vp l name/\1<cntZ anyR l name):=fun h=>h1 h.1
  conv=>whnf
  refine⟨fun h3=>?_,fun h3=>?_⟩
  ·have h3:name=top:=by simpa using h3
   have hf:qx l top name=true:=by unfold qx;rw[if_neg hA,if_pos h3]
   conv=>whnf
   rw[hf]
   refine⟨[0,1,2],_,lookK z S (qb l) st,rfl,rfl,?_,?_,rfl,rfl⟩
   ·exact rfl
   ·conv=>whnf
    repeat'(first|exact ⟨⟩|exact rfl|exact qa _|exact .inr rfl|exact fun _ _=>rfl|exact noI|apply And.intro)
    all_goals first
     |exact qq _
     |exact qo _
     |exact qp _ _ _
  ·have h3:name≠top:=by simpa using h3
   conv=>whnf
   refine⟨fun h4=>?_,fun h4=>?_⟩
   ·have h4:0<cntZ zb l name:=by
     have h:((cntZ zb l name:Nat):Int) > 0:=of_decide_eq_true h4
     omega
    have hf:qx l top name=false:=by unfold qx;rw[if_neg hA,if_neg h3,if_pos (.inl h4)]
    conv=>whnf
    rw[hf]
    refine⟨[0,1,2],_,lookK z S (qb l) st,rfl,rfl,?_,?_,rfl,rfl⟩
    ·exact rfl
    ·conv=>whnf
     repeat'(first|exact ⟨⟩|exact rfl|exact qa _|exact .inr rfl|exact fun _ _=>rfl|exact noI|apply And.intro)
     all_goals first
      |exact qq _
      |exact qo _
      |exact qp _ _ _
   ·have h4:¬ 0<cntZ zb l name:=by
     have h:¬ ((cntZ zb l name:Nat):Int) > 0:=of_decide_eq_false h4
     omega
    conv=>whnf
    refine⟨fun h5=>?_,fun h5=>?_⟩
    ·have h5:0<cntZ isNs l name:=by
      have h:((cntZ isNs l name:Nat):Int) > 0:=of_decide_eq_true h5
      omega
     have hw:IntKind.i64.wrap (((jz l name).ns:Nat)+((jz l name).addr:Nat):Int)=((cntZ isNs l name+cntZ jv l name:Nat):Int):=by
      show IntKind.i64.wrap (((cntZ isNs l name:Nat):Int)+((cntZ jv l name:Nat):Int))=_
      rw[qg _ (by omega)];omega
     conv=>whnf
     rw[hw]
     refine⟨fun h6=>?_,fun h6=>?_⟩
     ·have h6:cntZ isNs l name+cntZ jv l name<cntZ anyR l name:=by
       have h:((cntZ anyR l name:Nat):Int) > ((cntZ isNs l name+cntZ jv l name:Nat):Int):=of_decide_eq_true h6
       omega
      have hf:qx l top name=false:=by unfold qx;rw[if_neg hA,if_neg h3,if_pos (.inr ⟨h5,h6⟩)]
      conv=>whnf
      rw[hf]
      refine⟨[0,1,2],_,lookK z S (qb l) st,rfl,rfl,?_,?_,rfl,rfl⟩
      ·exact rfl
      ·conv=>whnf
       repeat'(first|exact ⟨⟩|exact rfl|exact qa _|exact .inr rfl|exact fun _ _=>rfl|exact noI|apply And.intro)
       all_goals first
        |exact qq _
        |exact qo _
        |exact qp _ _ _
     ·have h6:¬ cntZ isNs l name+cntZ jv l name<cntZ anyR l name:=by
       have h:¬ ((cntZ anyR l name:Nat):Int) > ((cntZ isNs l name+cntZ jv l name:Nat):Int):=of_decide_eq_false h6
       omega
      have hf:qx l top name=zj l name top (upsN name):=by unfold qx;rw[if_neg hA,if_neg h3,if_neg (fun h=>h.elim h4 (fun h=>h6 h.2))]
      conv=>whnf
      refine oD (j5 name) rfl rfl ?_
      rw[if_pos hn]
      conv=>whnf
      refine brF rfl ?_
      conv=>whnf
      refine .inv (List UInt8 × Nat) (fun s=>qh s.1/\s.1.length<=s.2/\zj l name top (upsF s.2 s.1)=qx l top name) (fun s=>[(3,.d (.str s.1))]) (fun s=>[]) (fun s=>s.2) ⟨(name,name.length),[0,1,2,3,4,5,6,7,8,9],⟨hn,Nat.le_refl _,by rw[hf];unfold upsN;rw[if_pos hn]⟩,?_⟩ ?_
      ·conv=>whnf
       repeat'(first|exact ⟨⟩|exact rfl|exact qa _|exact .inr rfl|exact fun _ _=>rfl|exact noI|apply And.intro)
       all_goals first
        |exact qq _
        |exact qo _
        |exact qp _ _ _
      clear hf
      intro s hs
      obtain⟨g1,g2,g3⟩:=hs
      conv=>whnf
      generalize s.1=n at g1 g2 g3 ⊢
      generalize s.2=k at g2 g3 ⊢
      obtain⟨k,rfl⟩:∃ k',k=k'+1:=⟨k - 1,by have:=g1.1;omega⟩
      have hc:zj l name top (upsF (k+1) n)=if n=top then true else if n≠name/\0<cntZ isNs l n then cntZ anyR l name == cntZ jv l name else zj l name top (if n=[0] then [] else upsF k (n.drop (1+bt n 0))):=rfl
      refine⟨fun g4=>?_,fun g4=>?_⟩
      ·have g4:n=top:=by simpa using g4
       have hf:qx l top name=true:=by rw[<-g3,hc,if_pos g4]
       conv=>whnf
       rw[hf]
       refine⟨[0,1,2],_,lookK z S (qb l) st,rfl,rfl,?_,?_,rfl,rfl⟩
       ·exact rfl
       ·conv=>whnf
        repeat'(first|exact ⟨⟩|exact rfl|exact qa _|exact .inr rfl|exact fun _ _=>rfl|exact noI|apply And.intro)
        all_goals first
         |exact qq _
         |exact qo _
         |exact qp _ _ _
      ·have g4:n≠top:=by simpa using g4
       rw [if_neg g4] at hc
       conv=>whnf
       refine⟨fun g5=>?_,fun g5=>?_⟩
       ·have g5:n≠name:=by simpa using g5
        conv=>whnf
        have hg:=qe3 l n
        cases ha:aget (qb l) n with
        |none =>
         rw [ha] at hg
         have hns:cntZ isNs l n=0:=(congrArg Hd.ns hg).symm
         rw [if_neg (fun h=>by rw [hns] at h;exact absurd h.2 (Nat.lt_irrefl 0))] at hc
         refine ⟨none,by have:=vl (ev:=Hd.enc) zz (qb l) n;rw [ha] at this;exact this,?_⟩
         conv=>whnf
         refine brF rfl ?_
         conv=>whnf
         refine oD (wk n) rfl rfl ?_
         by_cases hz:n=[0]
         ·have hp:qw n=([],3):=by unfold qw;rw[if_pos g1,if_pos hz]
          have hf:qx l top name=true:=by rw[<-g3,hc,if_pos hz];rfl
          rw[hp]
          conv=>whnf
          refine brT rfl ?_
          conv=>whnf
          rw[hf]
          refine⟨[0,1,2],_,lookK z S (qb l) st,rfl,rfl,?_,?_,rfl,rfl⟩
          ·exact rfl
          ·conv=>whnf
           repeat'(first|exact ⟨⟩|exact rfl|exact qa _|exact .inr rfl|exact fun _ _=>rfl|exact noI|apply And.intro)
           all_goals first
            |exact qq _
            |exact qo _
            |exact qp _ _ _
         ·have hp:qw n=(upN n,0):=by unfold qw;rw[if_pos g1,if_neg hz]
          rw [if_neg hz] at hc
          rw[hp]
          conv=>whnf
          refine brF rfl ?_
          conv=>whnf
          refine⟨(upN n,k),[0,1,2,3,4,5,6,7,8,9],⟨wr g1 hz,?_,?_⟩,Nat.lt_succ_self k,?_⟩
          ·have:=km g1 hz
           show(upN n).length<=k
           unfold upN
           rw[List.length_drop]
           omega
          ·exact(by rw[<-g3,hc];rfl)
          ·conv=>whnf
           repeat'(first|exact ⟨⟩|exact rfl|exact qa _|exact .inr rfl|exact fun _ _=>rfl|exact noI|apply And.intro)
           all_goals first
            |exact qq _
            |exact qo _
            |exact qp _ _ _
        |some h0 =>
         rw [ha] at hg
         have hns:h0.ns=cntZ isNs l n:=congrArg Hd.ns hg
         refine ⟨some h0.enc,by have:=vl (ev:=Hd.enc) zz (qb l) n;rw [ha] at this;exact this,?_⟩
         conv=>whnf
         refine⟨fun g6=>?_,fun g6=>?_⟩
         ·have g6:0<cntZ isNs l n:=by
           have h:((h0.ns:Nat):Int) > 0:=of_decide_eq_true g6
           omega
          have hf:qx l top name=((((jz l name).all:Nat):Int) == (((jz l name).addr:Nat):Int)):=by
           rw[<-g3,hc,if_pos ⟨g5,g6⟩,Bool.eq_iff_iff,beq_iff_eq,beq_iff_eq]
           show(cntZ anyR l name=cntZ jv l name)↔((cntZ anyR l name:Nat):Int)=((cntZ jv l name:Nat):Int)
           omega
          conv=>whnf
          rw[hf]
          refine⟨[0,1,2],_,lookK z S (qb l) st,rfl,rfl,?_,?_,rfl,rfl⟩
          ·exact rfl
          ·conv=>whnf
           repeat'(first|exact ⟨⟩|exact rfl|exact qa _|exact .inr rfl|exact fun _ _=>rfl|exact noI|apply And.intro)
           all_goals first
            |exact qq _
            |exact qo _
            |exact qp _ _ _
         ·have g6:¬ 0<cntZ isNs l n:=by
           have h:¬ ((h0.ns:Nat):Int) > 0:=of_decide_eq_false g6
           omega
          rw [if_neg (fun h=>g6 h.2)] at hc
          conv=>whnf
          refine oD (wk n) rfl rfl ?_
          by_cases hz:n=[0]
          ·have hp:qw n=([],3):=by unfold qw;rw[if_pos g1,if_pos hz]
           have hf:qx l top name=true:=by rw[<-g3,hc,if_pos hz];rfl
           rw[hp]
           conv=>whnf
           refine brT rfl ?_
           conv=>whnf
           rw[hf]
           refine⟨[0,1,2],_,lookK z S (qb l) st,rfl,rfl,?_,?_,rfl,rfl⟩
           ·exact rfl
           ·conv=>whnf
            repeat'(first|exact ⟨⟩|exact rfl|exact qa _|exact .inr rfl|exact fun _ _=>rfl|exact noI|apply And.intro)
            all_goals first
             |exact qq _
             |exact qo _
             |exact qp _ _ _
          ·have hp:qw n=(upN n,0):=by unfold qw;rw[if_pos g1,if_neg hz]
           rw [if_neg hz] at hc
           rw[hp]
           conv=>whnf
           refine brF rfl ?_
           conv=>whnf
           refine⟨(upN n,k),[0,1,2,3,4,5,6,7,8,9],⟨wr g1 hz,?_,?_⟩,Nat.lt_succ_self k,?_⟩
           ·have:=km g1 hz
            show(upN n).length<=k
            unfold upN
            rw[List.length_drop]
            omega
           ·exact(by rw[<-g3,hc];rfl)
           ·conv=>whnf
            repeat'(first|exact ⟨⟩|exact rfl|exact qa _|exact .inr rfl|exact fun _ _=>rfl|exact noI|apply And.intro)
            all_goals first
             |exact qq _
             |exact qo _
             |exact qp _ _ _
       ·have g5:n=name:=by simpa using g5
        rw [if_neg (fun h=>h.1 g5)] at hc
        conv=>whnf
        refine oD (wk n) rfl rfl ?_
        by_cases hz:n=[0]
        ·have hp:qw n=([],3):=by unfold qw;rw[if_pos g1,if_pos hz]
         have hf:qx l top name=true:=by rw[<-g3,hc,if_pos hz];rfl
         rw[hp]
         conv=>whnf
         refine brT rfl ?_
         conv=>whnf
         rw[hf]
         refine⟨[0,1,2],_,lookK z S (qb l) st,rfl,rfl,?_,?_,rfl,rfl⟩
         ·exact rfl
         ·conv=>whnf
          repeat'(first|exact ⟨⟩|exact rfl|exact qa _|exact .inr rfl|exact fun _ _=>rfl|exact noI|apply And.intro)
          all_goals first
           |exact qq _
           |exact qo _
           |exact qp _ _ _
        ·have hp:qw n=(upN n,0):=by unfold qw;rw[if_pos g1,if_neg hz]
         rw [if_neg hz] at hc
         rw[hp]
         conv=>whnf
         refine brF rfl ?_
         conv=>whnf
         refine⟨(upN n,k),[0,1,2,3,4,5,6,7,8,9],⟨wr g1 hz,?_,?_⟩,Nat.lt_succ_self k,?_⟩
         ·have:=km g1 hz
          show(upN n).length<=k
          unfold upN
          rw[List.length_drop]
          omega
         ·exact(by rw[<-g3,hc];rfl)
         ·conv=>whnf
          repeat'(first|exact ⟨⟩|exact rfl|exact qa _|exact .inr rfl|exact fun _ _=>rfl|exact noI|apply And.intro)
          all_goals first
           |exact qq _
           |exact qo _
           |exact qp _ _ _
    ·have h5:¬ 0<cntZ isNs l name:=by
      have h:¬ ((cntZ isNs l name:Nat):Int) > 0:=of_decide_eq_false h5
      omega
     have hf:qx l top name=zj l name top (upsN name):=by unfold qx;rw[if_neg hA,if_neg h3,if_neg (fun h=>h.elim h4 (fun h=>h5 h.1))]
     conv=>whnf
     refine oD (j5 name) rfl rfl ?_
     rw[if_pos hn]
     conv=>whnf
     refine brF rfl ?_
     conv=>whnf
     refine .inv (List UInt8 × Nat) (fun s=>qh s.1/\s.1.length<=s.2/\zj l name top (upsF s.2 s.1)=qx l top name) (fun s=>[(3,.d (.str s.1))]) (fun s=>[]) (fun s=>s.2) ⟨(name,name.length),[0,1,2,3,4,5,6,7,8,9],⟨hn,Nat.le_refl _,by rw[hf];unfold upsN;rw[if_pos hn]⟩,?_⟩ ?_
     ·conv=>whnf
      repeat'(first|exact ⟨⟩|exact rfl|exact qa _|exact .inr rfl|exact fun _ _=>rfl|exact noI|apply And.intro)
      all_goals first
       |exact qq _
       |exact qo _
       |exact qp _ _ _
     clear hf
     intro s hs
     obtain⟨g1,g2,g3⟩:=hs
     conv=>whnf
     generalize s.1=n at g1 g2 g3 ⊢
     generalize s.2=k at g2 g3 ⊢
     obtain⟨k,rfl⟩:∃ k',k=k'+1:=⟨k - 1,by have:=g1.1;omega⟩
     have hc:zj l name top (upsF (k+1) n)=if n=top then true else if n≠name/\0<cntZ isNs l n then cntZ anyR l name == cntZ jv l name else zj l name top (if n=[0] then [] else upsF k (n.drop (1+bt n 0))):=rfl
     refine⟨fun g4=>?_,fun g4=>?_⟩
     ·have g4:n=top:=by simpa using g4
      have hf:qx l top name=true:=by rw[<-g3,hc,if_pos g4]
      conv=>whnf
      rw[hf]
      refine⟨[0,1,2],_,lookK z S (qb l) st,rfl,rfl,?_,?_,rfl,rfl⟩
      ·exact rfl
      ·conv=>whnf
       repeat'(first|exact ⟨⟩|exact rfl|exact qa _|exact .inr rfl|exact fun _ _=>rfl|exact noI|apply And.intro)
       all_goals first
        |exact qq _
        |exact qo _
        |exact qp _ _ _
     ·have g4:n≠top:=by simpa using g4
      rw [if_neg g4] at hc
      conv=>whnf
      refine⟨fun g5=>?_,fun g5=>?_⟩
      ·have g5:n≠name:=by simpa using g5
       conv=>whnf
       have hg:=qe3 l n
       cases ha:aget (qb l) n with
       |none =>
        rw [ha] at hg
        have hns:cntZ isNs l n=0:=(congrArg Hd.ns hg).symm
        rw [if_neg (fun h=>by rw [hns] at h;exact absurd h.2 (Nat.lt_irrefl 0))] at hc
        refine ⟨none,by have:=vl (ev:=Hd.enc) zz (qb l) n;rw [ha] at this;exact this,?_⟩
        conv=>whnf
        refine brF rfl ?_
        conv=>whnf
        refine oD (wk n) rfl rfl ?_
        by_cases hz:n=[0]
        ·have hp:qw n=([],3):=by unfold qw;rw[if_pos g1,if_pos hz]
         have hf:qx l top name=true:=by rw[<-g3,hc,if_pos hz];rfl
         rw[hp]
         conv=>whnf
         refine brT rfl ?_
         conv=>whnf
         rw[hf]
         refine⟨[0,1,2],_,lookK z S (qb l) st,rfl,rfl,?_,?_,rfl,rfl⟩
         ·exact rfl
         ·conv=>whnf
          repeat'(first|exact ⟨⟩|exact rfl|exact qa _|exact .inr rfl|exact fun _ _=>rfl|exact noI|apply And.intro)
          all_goals first
           |exact qq _
           |exact qo _
           |exact qp _ _ _
        ·have hp:qw n=(upN n,0):=by unfold qw;rw[if_pos g1,if_neg hz]
         rw [if_neg hz] at hc
         rw[hp]
         conv=>whnf
         refine brF rfl ?_
         conv=>whnf
         refine⟨(upN n,k),[0,1,2,3,4,5,6,7,8,9],⟨wr g1 hz,?_,?_⟩,Nat.lt_succ_self k,?_⟩
         ·have:=km g1 hz
          show(upN n).length<=k
          unfold upN
          rw[List.length_drop]
          omega
         ·exact(by rw[<-g3,hc];rfl)
         ·conv=>whnf
          repeat'(first|exact ⟨⟩|exact rfl|exact qa _|exact .inr rfl|exact fun _ _=>rfl|exact noI|apply And.intro)
          all_goals first
           |exact qq _
           |exact qo _
           |exact qp _ _ _
       |some h0 =>
        rw [ha] at hg
        have hns:h0.ns=cntZ isNs l n:=congrArg Hd.ns hg
        refine ⟨some h0.enc,by have:=vl (ev:=Hd.enc) zz (qb l) n;rw [ha] at this;exact this,?_⟩
        conv=>whnf
        refine⟨fun g6=>?_,fun g6=>?_⟩
        ·have g6:0<cntZ isNs l n:=by
          have h:((h0.ns:Nat):Int) > 0:=of_decide_eq_true g6
          omega
         have hf:qx l top name=((((jz l name).all:Nat):Int) == (((jz l name).addr:Nat):Int)):=by
          rw[<-g3,hc,if_pos ⟨g5,g6⟩,Bool.eq_iff_iff,beq_iff_eq,beq_iff_eq]
          show(cntZ anyR l name=cntZ jv l name)↔((cntZ anyR l name:Nat):Int)=((cntZ jv l name:Nat):Int)
          omega
         conv=>whnf
         rw[hf]
         refine⟨[0,1,2],_,lookK z S (qb l) st,rfl,rfl,?_,?_,rfl,rfl⟩
         ·exact rfl
         ·conv=>whnf
          repeat'(first|exact ⟨⟩|exact rfl|exact qa _|exact .inr rfl|exact fun _ _=>rfl|exact noI|apply And.intro)
          all_goals first
           |exact qq _
           |exact qo _
           |exact qp _ _ _
        ·have g6:¬ 0<cntZ isNs l n:=by
          have h:¬ ((h0.ns:Nat):Int) > 0:=of_decide_eq_false g6
          omega
         rw [if_neg (fun h=>g6 h.2)] at hc
         conv=>whnf
         refine oD (wk n) rfl rfl ?_
         by_cases hz:n=[0]
         ·have hp:qw n=([],3):=by unfold qw;rw[if_pos g1,if_pos hz]
          have hf:qx l top name=true:=by rw[<-g3,hc,if_pos hz];rfl
          rw[hp]
          conv=>whnf
          refine brT rfl ?_
          conv=>whnf
          rw[hf]
          refine⟨[0,1,2],_,lookK z S (qb l) st,rfl,rfl,?_,?_,rfl,rfl⟩
          ·exact rfl
          ·conv=>whnf
           repeat'(first|exact ⟨⟩|exact rfl|exact qa _|exact .inr rfl|exact fun _ _=>rfl|exact noI|apply And.intro)
           all_goals first
            |exact qq _
            |exact qo _
            |exact qp _ _ _
         ·have hp:qw n=(upN n,0):=by unfold qw;rw[if_pos g1,if_neg hz]
          rw [if_neg hz] at hc
          rw[hp]
          conv=>whnf
          refine brF rfl ?_
          conv=>whnf
          refine⟨(upN n,k),[0,1,2,3,4,5,6,7,8,9],⟨wr g1 hz,?_,?_⟩,Nat.lt_succ_self k,?_⟩
          ·have:=km g1 hz
           show(upN n).length<=k
           unfold upN
           rw[List.length_drop]
           omega
          ·exact(by rw[<-g3,hc];rfl)
          ·conv=>whnf
           repeat'(first|exact ⟨⟩|exact rfl|exact qa _|exact .inr rfl|exact fun _ _=>rfl|exact noI|apply And.intro)
           all_goals first
            |exact qq _
            |exact qo _
            |exact qp _ _ _
      ·have g5:n=name:=by simpa using g5
       rw [if_neg (fun h=>h.1 g5)] at hc
       conv=>whnf
       refine oD (wk n) rfl rfl ?_
       by_cases hz:n=[0]
       ·have hp:qw n=([],3):=by unfold qw;rw[if_pos g1,if_pos hz]
        have hf:qx l top name=true:=by rw[<-g3,hc,if_pos hz];rfl
        rw[hp]
        conv=>whnf
        refine brT rfl ?_
        conv=>whnf
        rw[hf]
        refine⟨[0,1,2],_,lookK z S (qb l) st,rfl,rfl,?_,?_,rfl,rfl⟩
        ·exact rfl
        ·conv=>whnf
         repeat'(first|exact ⟨⟩|exact rfl|exact qa _|exact .inr rfl|exact fun _ _=>rfl|exact noI|apply And.intro)
         all_goals first
          |exact qq _
          |exact qo _
          |exact qp _ _ _
       ·have hp:qw n=(upN n,0):=by unfold qw;rw[if_pos g1,if_neg hz]
        rw [if_neg hz] at hc
        rw[hp]
        conv=>whnf
        refine brF rfl ?_
        conv=>whnf
        refine⟨(upN n,k),[0,1,2,3,4,5,6,7,8,9],⟨wr g1 hz,?_,?_⟩,Nat.lt_succ_self k,?_⟩
        ·have:=km g1 hz
         show(upN n).length<=k
         unfold upN
         rw[List.length_drop]
         omega
        ·exact(by rw[<-g3,hc];rfl)
        ·conv=>whnf
         repeat'(first|exact ⟨⟩|exact rfl|exact qa _|exact .inr rfl|exact fun _ _=>rfl|exact noI|apply And.intro)
         all_goals first
          |exact qq _
          |exact qo _
          |exact qp _ _ _
def xf(z:Zo)(l:List RR)(r:RR):Bool:=x9 z.apex r && !l.any fun x=>keyZ x == keyZ r
theorem opnM_new:∀ {l:List (List DV × List SV)} {key:List DV} (z:List SV),yp l key=none->opnM l key z=(l++[(key,z)],z,l.length)
 |[],_,_,_=>rfl
 |(k,v) :: l,key,z,h=>by
  unfold yp at h
  split at h
  ·cases h
  ·rename_i hk
   unfold opnM
   rw[if_neg hk,opnM_new z h]
   rfl
theorem findM_end{key:List DV}{v:List SV}(hk:jj key key=true):∀ {l:List (List DV × List SV)},yp l key=none->yp (l++[(key,v)]) key=some v
 |[],_=>by
  show(if jj key key then some v else yp [] key)=some v
  rw[if_pos hk]
 |(k,u) :: l,h=>by
  unfold yp at h
  split at h
  ·cases h
  ·rename_i hn
   show(if jj key k then some u else yp (l++[(key,v)]) key)=some v
   rw[if_neg hn]
   exact findM_end hk h
theorem lookE{zero:List SV}{o:Option Hd}{F:SV->Prop}(hz:zero=Hd.no.enc)(hF:Eng.lookK false true zero (some (o.getD Hd.no).enc) F):Eng.lookK false true zero (o.map Hd.enc) F:=by
 cases o with
 |none=>subst hz;exact hF
 |some h=>exact hF
theorem putQ_end(k:List DV)(v v':List SV):∀ l:List (List DV × List SV),putQ (l++[(k,v)]) l.length v'=l++[(k,v')]
 |[]=>rfl
 |p :: l=>by
  show p :: putQ (l++[(k,v)]) l.length v'=_
  rw[putQ_end k v v' l]
  rfl
theorem take_ok(z:Zo)(l:List RR)(hl:l.length<=300)(r:RR)(hr:r.nm.length<=100000) :
 COk Tryz.prog 228 [.ptr 0 0,.agg (r.enc.map .d)] (lookK z (jm l) (qb l) .free) (fun s k=>s = .d (.bool (xf z l r))/\k=if xf z l r then lookK z (jm (l++[r])) (qb (l++[r])) .free else lookK z (jm l) (qb l) .free):=by
 refine ji (TT:=TT) (IN:=qd []) qf qe mixed 1000 Tryz.func228 rfl (qc Tryz.func228 (by kernel_rfl) rfl) 106 (by kernel_rfl) ?_
 conv=>whnf
 refine⟨fun h1=>?_,fun h1=>?_⟩
 ·have hb:xf z l r=false:=by unfold xf x9;rw[show(r.cl == 1)=false by simpa using h1];rfl
  conv=>whnf
  rw[hb]
  refine⟨[0,1,2],_,lookK z (jm l) (qb l) .free,rfl,rfl,?_,?_,rfl,rfl⟩
  ·exact rfl
  ·conv=>whnf
   repeat'(first|exact ⟨⟩|exact rfl|exact qa _|exact .inr rfl|exact fun _ _=>rfl|exact noI|apply And.intro)
   all_goals first
    |exact qq _
    |exact qo _
    |exact qp _ _ _
 have h1:(r.cl == 1)=true:=by simpa using h1
 conv=>whnf
 refine⟨fun h2=>?_,fun h2=>?_⟩
 ·have hb:xf z l r=false:=by unfold xf x9;rw[h1,show(r.ty != 41)=false by simpa using h2];rfl
  conv=>whnf
  rw[hb]
  refine⟨[0,1,2],_,lookK z (jm l) (qb l) .free,rfl,rfl,?_,?_,rfl,rfl⟩
  ·exact rfl
  ·conv=>whnf
   repeat'(first|exact ⟨⟩|exact rfl|exact qa _|exact .inr rfl|exact fun _ _=>rfl|exact noI|apply And.intro)
   all_goals first
    |exact qq _
    |exact qo _
    |exact qp _ _ _
 have h2:(r.ty != 41)=true:=by simpa using h2
 conv=>whnf
 refine⟨fun h3=>?_,fun h3=>?_⟩
 ·have hb:xf z l r=false:=by unfold xf x9;rw[h1,h2,show(r.ttl != 0)=false by simpa using h3];rfl
  conv=>whnf
  rw[hb]
  refine⟨[0,1,2],_,lookK z (jm l) (qb l) .free,rfl,rfl,?_,?_,rfl,rfl⟩
  ·exact rfl
  ·conv=>whnf
   repeat'(first|exact ⟨⟩|exact rfl|exact qa _|exact .inr rfl|exact fun _ _=>rfl|exact noI|apply And.intro)
   all_goals first
    |exact qq _
    |exact qo _
    |exact qp _ _ _
 have h3:(r.ttl != 0)=true:=by simpa using h3
 conv=>whnf
 refine .data _ (qg0 r) rfl rfl ?_
 cases h4:r.check with
 |false =>
  have hb:xf z l r=false:=by unfold xf x9;rw[h1,h2,h3,h4];rfl
  conv=>whnf
  refine brT rfl ?_
  conv=>whnf
  rw[hb]
  refine⟨[0,1,2],_,lookK z (jm l) (qb l) .free,rfl,rfl,?_,?_,rfl,rfl⟩
  ·exact rfl
  ·conv=>whnf
   repeat'(first|exact ⟨⟩|exact rfl|exact qa _|exact .inr rfl|exact fun _ _=>rfl|exact noI|apply And.intro)
   all_goals first
    |exact qq _
    |exact qo _
    |exact qp _ _ _
 |true =>
  conv=>whnf
  refine brF rfl ?_
  conv=>whnf
  refine .data _ (ql1 _ _) rfl rfl ?_
  cases h5:zy r.nm z.apex with
  |false =>
   have hb:xf z l r=false:=by unfold xf x9;rw[h1,h2,h3,h4,h5];rfl
   conv=>whnf
   refine brT rfl ?_
   conv=>whnf
   rw[hb]
   refine⟨[0,1,2],_,lookK z (jm l) (qb l) .free,rfl,rfl,?_,?_,rfl,rfl⟩
   ·exact rfl
   ·conv=>whnf
    repeat'(first|exact ⟨⟩|exact rfl|exact qa _|exact .inr rfl|exact fun _ _=>rfl|exact noI|apply And.intro)
    all_goals first
     |exact qq _
     |exact qo _
     |exact qp _ _ _
  |true =>
   have hb:xf z l r = !l.any fun x=>keyZ x == keyZ r:=by unfold xf x9;rw[h1,h2,h3,h4,h5];rfl
   conv=>whnf
   refine brF rfl ?_
   conv=>whnf
   refine oD (xo r.nm (by omega)) rfl rfl ?_
   conv=>whnf
   refine .data _ (qx8 r.ty r.d) rfl rfl ?_
   conv=>whnf
   have hfs:yp (aenc zk intV (jm l)) [.str (fold r.nm),.int .u16 r.ty,.int .u16 r.cl,.str (jx r.ty r.d)]=(aget (jm l) (keyZ r)).map intV:=vl saidK_eq (jm l) (keyZ r)
   rw [said_get] at hfs
   cases h6:l.any fun x=>keyZ x == keyZ r with
   |true =>
    rw [h6] at hfs hb
    refine⟨_,hfs,?_⟩
    conv=>whnf
    refine brT rfl ?_
    conv=>whnf
    rw[hb]
    refine⟨[0,1,2],_,lookK z (jm l) (qb l) .free,rfl,rfl,?_,?_,rfl,rfl⟩
    ·exact rfl
    ·conv=>whnf
     repeat'(first|exact ⟨⟩|exact rfl|exact qa _|exact .inr rfl|exact fun _ _=>rfl|exact noI|apply And.intro)
     all_goals first
      |exact qq _
      |exact qo _
      |exact qp _ _ _
   |false =>
    rw [h6] at hfs hb
    refine⟨_,hfs,?_⟩
    conv=>whnf
    refine brF rfl ?_
    conv=>whnf
    have hop:=opnM_new [SV.d (.int .i64 0)] hfs
    have hfs2:yp (aenc zk intV (jm l)++[(zk (keyZ r),[SV.d (.int .i64 0)])]) [.str (fold r.nm),.int .u16 r.ty,.int .u16 r.cl,.str (jx r.ty r.d)]=some [SV.d (.int .i64 0)]:=findM_end ((saidK_eq (keyZ r) (keyZ r)).trans (decide_eq_true rfl)) hfs
    have hss:putQ (aenc zk intV (jm l)++[(zk (keyZ r),[SV.d (.int .i64 0)])]) (aenc zk intV (jm l)).length [SV.d (.int .i64 1)]=aenc zk intV (jm (l++[r])):=by
     rw[putQ_end,said_snoc]
     unfold aenc
     rw[List.map_append]
     rfl
    apply Exists.intro
    refine⟨?_,?_⟩
    ·conv=>whnf
     repeat'(first|exact ⟨⟩|exact⟨rfl,rfl⟩|refine⟨_,hfs,?_⟩|refine⟨_,hfs2,?_⟩|refine⟨_,_,_,hop,?_⟩|intro s|refine⟨rfl,_,hss,?_⟩|apply And.intro|(conv=>whnf))
    conv=>whnf
    rw[hb]
    have hfn:yp (aenc strK Hd.enc (qb l)) [.str (fold r.nm)]=(aget (qb l) (fold r.nm)).map Hd.enc:=vl zz (qb l) (fold r.nm)
    have hg:=qe3 l (fold r.nm)
    have b1:=uq anyR l (fold r.nm)
    have b2:=uq zb l (fold r.nm)
    have b3:=uq isNs l (fold r.nm)
    have b4:=uq vp l (fold r.nm)
    have b5:=uq jv l (fold r.nm)
    have hh:(aget (qb l) (fold r.nm)).getD Hd.no=jz l (fold r.nm):=hg
    refine⟨_,hfn,?_⟩
    refine lookE rfl ?_
    rw[hh]
    have hg:jz l (fold r.nm)=jz l (fold r.nm):=rfl
    generalize hgen:jz l (fold r.nm)=h at hh ⊢
    clear hg
    have hg:h=jz l (fold r.nm):=hgen.symm
    have c1:h.all<=300:=by rw[hg];exact Nat.le_trans b1 hl
    have c2:h.soa<=300:=by rw[hg];exact Nat.le_trans b2 hl
    have c3:h.ns<=300:=by rw[hg];exact Nat.le_trans b3 hl
    have c4:h.alias<=300:=by rw[hg];exact Nat.le_trans b4 hl
    have c5:h.addr<=300:=by rw[hg];exact Nat.le_trans b5 hl
    have e0:IntKind.i64.wrap ((h.all:Int)+1)=((h.all+1:Nat):Int):=by rw[qg _ (by omega)];omega
    have e1:IntKind.i64.wrap ((h.soa:Int)+1)=((h.soa+1:Nat):Int):=by rw[qg _ (by omega)];omega
    have e2:IntKind.i64.wrap ((h.ns:Int)+1)=((h.ns+1:Nat):Int):=by rw[qg _ (by omega)];omega
    have e3:IntKind.i64.wrap ((h.alias:Int)+1)=((h.alias+1:Nat):Int):=by rw[qg _ (by omega)];omega
    have e4:IntKind.i64.wrap ((h.addr:Int)+1)=((h.addr+1:Nat):Int):=by rw[qg _ (by omega)];omega
    conv=>whnf
    rw[e0]
    refine⟨fun k1=>?_,fun k1=>?_⟩
    ·have k1:r.ty=6:=by simpa using k1
     have hadd:h.add r=⟨h.all+1,h.soa+1,h.ns,h.alias,h.addr⟩:=by unfold Hd.add;rw[k1];rfl
     conv=>whnf
     rw[e1]
     have hput:putM (aenc strK Hd.enc (qb l)) [.str (fold r.nm)] (h.add r).enc=aenc strK Hd.enc (qb (l++[r])):=by
      have:=qi0 (ev:=Hd.enc) zz (qb l) (fold r.nm) (h.add r)
      rw[uf,hh]
      exact this
     rw [hadd] at hput
     refine⟨_,hput,?_⟩
     conv=>whnf
     refine⟨[0,1,2],_,lookK z (jm (l++[r])) (qb (l++[r])) .free,rfl,rfl,?_,?_,rfl,rfl⟩
     ·exact rfl
     ·conv=>whnf
      repeat'(first|exact ⟨⟩|exact rfl|exact qa _|exact .inr rfl|exact fun _ _=>rfl|exact noI|apply And.intro)
      all_goals first
       |exact qq _
       |exact qo _
       |exact qp _ _ _
    have k1:r.ty≠6:=by simpa using k1
    conv=>whnf
    refine⟨fun k2=>?_,fun k2=>?_⟩
    ·have k2:r.ty=2:=by simpa using k2
     have hadd:h.add r=⟨h.all+1,h.soa,h.ns+1,h.alias,h.addr⟩:=by unfold Hd.add;rw[k2];rfl
     conv=>whnf
     rw[e2]
     have hput:putM (aenc strK Hd.enc (qb l)) [.str (fold r.nm)] (h.add r).enc=aenc strK Hd.enc (qb (l++[r])):=by
      have:=qi0 (ev:=Hd.enc) zz (qb l) (fold r.nm) (h.add r)
      rw[uf,hh]
      exact this
     rw [hadd] at hput
     refine⟨_,hput,?_⟩
     conv=>whnf
     refine⟨[0,1,2],_,lookK z (jm (l++[r])) (qb (l++[r])) .free,rfl,rfl,?_,?_,rfl,rfl⟩
     ·exact rfl
     ·conv=>whnf
      repeat'(first|exact ⟨⟩|exact rfl|exact qa _|exact .inr rfl|exact fun _ _=>rfl|exact noI|apply And.intro)
      all_goals first
       |exact qq _
       |exact qo _
       |exact qp _ _ _
    have k2:r.ty≠2:=by simpa using k2
    conv=>whnf
    refine⟨fun k3=>?_,fun k3=>?_⟩
    ·have k3:r.ty=5:=by simpa using k3
     have hadd:h.add r=⟨h.all+1,h.soa,h.ns,h.alias+1,h.addr⟩:=by unfold Hd.add;rw[k3];rfl
     conv=>whnf
     rw[e3]
     have hput:putM (aenc strK Hd.enc (qb l)) [.str (fold r.nm)] (h.add r).enc=aenc strK Hd.enc (qb (l++[r])):=by
      have:=qi0 (ev:=Hd.enc) zz (qb l) (fold r.nm) (h.add r)
      rw[uf,hh]
      exact this
     rw [hadd] at hput
     refine⟨_,hput,?_⟩
     conv=>whnf
     refine⟨[0,1,2],_,lookK z (jm (l++[r])) (qb (l++[r])) .free,rfl,rfl,?_,?_,rfl,rfl⟩
     ·exact rfl
     ·conv=>whnf
      repeat'(first|exact ⟨⟩|exact rfl|exact qa _|exact .inr rfl|exact fun _ _=>rfl|exact noI|apply And.intro)
      all_goals first
       |exact qq _
       |exact qo _
       |exact qp _ _ _
    have k3:r.ty≠5:=by simpa using k3
    conv=>whnf
    refine⟨fun k4=>?_,fun k4=>?_⟩
    ·have k4':=k4
     have k4:r.ty=1:=by simpa using k4
     have hadd:h.add r=⟨h.all+1,h.soa,h.ns,h.alias,h.addr+1⟩:=by unfold Hd.add;rw[k4];rfl
     conv=>whnf
     refine brT k4' ?_
     conv=>whnf
     rw[e4]
     have hput:putM (aenc strK Hd.enc (qb l)) [.str (fold r.nm)] (h.add r).enc=aenc strK Hd.enc (qb (l++[r])):=by
      have:=qi0 (ev:=Hd.enc) zz (qb l) (fold r.nm) (h.add r)
      rw[uf,hh]
      exact this
     rw [hadd] at hput
     refine⟨_,hput,?_⟩
     conv=>whnf
     refine⟨[0,1,2],_,lookK z (jm (l++[r])) (qb (l++[r])) .free,rfl,rfl,?_,?_,rfl,rfl⟩
     ·exact rfl
     ·conv=>whnf
      repeat'(first|exact ⟨⟩|exact rfl|exact qa _|exact .inr rfl|exact fun _ _=>rfl|exact noI|apply And.intro)
      all_goals first
       |exact qq _
       |exact qo _
       |exact qp _ _ _
    have k4:r.ty≠1:=by simpa using k4
    conv=>whnf
    refine⟨fun k5=>?_,fun k5=>?_⟩
    ·have k5:r.ty=28:=by simpa using k5
     have hadd:h.add r=⟨h.all+1,h.soa,h.ns,h.alias,h.addr+1⟩:=by unfold Hd.add;rw[k5];rfl
     conv=>whnf
     rw[e4]
     have hput:putM (aenc strK Hd.enc (qb l)) [.str (fold r.nm)] (h.add r).enc=aenc strK Hd.enc (qb (l++[r])):=by
      have:=qi0 (ev:=Hd.enc) zz (qb l) (fold r.nm) (h.add r)
      rw[uf,hh]
      exact this
     rw [hadd] at hput
     refine⟨_,hput,?_⟩
     conv=>whnf
     refine⟨[0,1,2],_,lookK z (jm (l++[r])) (qb (l++[r])) .free,rfl,rfl,?_,?_,rfl,rfl⟩
     ·exact rfl
     ·conv=>whnf
      repeat'(first|exact ⟨⟩|exact rfl|exact qa _|exact .inr rfl|exact fun _ _=>rfl|exact noI|apply And.intro)
      all_goals first
       |exact qq _
       |exact qo _
       |exact qp _ _ _
    have k5:r.ty≠28:=by simpa using k5
    have hadd:h.add r=⟨h.all+1,h.soa,h.ns,h.alias,h.addr⟩:=by unfold Hd.add;rw[if_neg k1,if_neg k2,if_neg k3,if_neg (fun h=>h.elim k4 k5)]
    conv=>whnf
    have hput:putM (aenc strK Hd.enc (qb l)) [.str (fold r.nm)] (h.add r).enc=aenc strK Hd.enc (qb (l++[r])):=by
     have:=qi0 (ev:=Hd.enc) zz (qb l) (fold r.nm) (h.add r)
     rw[uf,hh]
     exact this
    rw [hadd] at hput
    refine⟨_,hput,?_⟩
    conv=>whnf
    refine⟨[0,1,2],_,lookK z (jm (l++[r])) (qb (l++[r])) .free,rfl,rfl,?_,?_,rfl,rfl⟩
    ·exact rfl
    ·conv=>whnf
     repeat'(first|exact ⟨⟩|exact rfl|exact qa _|exact .inr rfl|exact fun _ _=>rfl|exact noI|apply And.intro)
     all_goals first
      |exact qq _
      |exact qo _
      |exact qp _ _ _
theorem sound_law{z:Zo}(h1:cntZ zb z.rrs (fold z.apex)=1)(h2:cntZ isNs z.rrs (fold z.apex)≠0):ky z=(qb z.rrs).all fun e=>qx z.rrs (fold z.apex) e.1:=by
 unfold ky
 rw[h1,names_all z.rrs (fun n=>qx z.rrs (fold z.apex) n)]
 have:(cntZ isNs z.rrs (fold z.apex) != 0)=true:=by simpa using h2
 rw[this]
 rfl
instance:Inhabited Hd:=⟨Hd.no⟩
theorem lookK_map(z:Zo)(S:List ((List UInt8 × Int × Int × List UInt8) × Nat))(N:List (List UInt8 × Hd))(st:MS){σ:Nat->Nat}(h1:σ 1=1)(h2:σ 2=2):mapB σ (lookK z S N st)=lookK z S N st:=by
 show[KB.cells _ [_,_,SV.map (σ 1),SV.map (σ 2)],KB.mapx _ _ _ (mapM _ (aenc zk intV S)) _,KB.mapx _ _ _ (mapM _ (aenc strK Hd.enc N)) _]=_
 rw[h1,h2,qx5,qy2]
 rfl
theorem sound_ok(z:Zo)(S:List ((List UInt8 × Int × Int × List UInt8) × Nat))(hl:z.rrs.length<=300)(hn:∀ r ∈ z.rrs,qh r.nm)(ha:z.apex.length<=100000) :
 COk Tryz.prog 229 [.ptr 0 0] (lookK z S (qb z.rrs) .free) (fun s k=>s = .d (.bool (ky z))/\k=lookK z S (qb z.rrs) .free):=by
 refine ji (TT:=TT) (IN:=qd []) qf qe mixed 1000 Tryz.func229 rfl (qc Tryz.func229 (by kernel_rfl) rfl) 42 (by kernel_rfl) ?_
 conv=>whnf
 refine oD (xo z.apex (by omega)) rfl rfl ?_
 conv=>whnf
 have hfn:yp (aenc strK Hd.enc (qb z.rrs)) [.str (fold z.apex)]=(aget (qb z.rrs) (fold z.apex)).map Hd.enc:=vl zz (qb z.rrs) (fold z.apex)
 have hg:=qe3 z.rrs (fold z.apex)
 refine⟨_,hfn,?_⟩
 refine lookE rfl ?_
 rw[hg]
 conv=>whnf
 refine⟨fun h1=>?_,fun h1=>?_⟩
 ·have hb:ky z=false:=by
   have h1:((cntZ zb z.rrs (fold z.apex):Nat):Int)≠1:=(show(((jz z.rrs (fold z.apex)).soa:Nat):Int)≠1 by simpa using h1)
   unfold ky
   rw[show(cntZ zb z.rrs (fold z.apex) == 1)=false by rw[beq_eq_false_iff_ne];omega]
   rfl
  conv=>whnf
  rw[hb]
  refine⟨[0,1,2],_,lookK z S (qb z.rrs) .free,rfl,rfl,?_,?_,rfl,rfl⟩
  ·exact rfl
  ·conv=>whnf
   repeat'(first|exact ⟨⟩|exact rfl|exact qa _|exact .inr rfl|exact fun _ _=>rfl|exact noI|apply And.intro)
   all_goals first
    |exact qq _
    |exact qo _
    |exact qp _ _ _
 have h1:cntZ zb z.rrs (fold z.apex)=1:=by
  have h2:(((jz z.rrs (fold z.apex)).soa:Nat):Int)=1:=by simpa using h1
  have h3:((cntZ zb z.rrs (fold z.apex):Nat):Int)=1:=h2
  omega
 conv=>whnf
 refine⟨fun h2=>?_,fun h2=>?_⟩
 ·have hb:ky z=false:=by
   have h2:(((jz z.rrs (fold z.apex)).ns:Nat):Int)=0:=by simpa using h2
   have h3:((cntZ isNs z.rrs (fold z.apex):Nat):Int)=0:=h2
   unfold ky
   rw[show(cntZ isNs z.rrs (fold z.apex) != 0)=false by rw[bne_eq_false_iff_eq];omega]
   rw[Bool.false_and,Bool.and_false]
  conv=>whnf
  rw[hb]
  refine⟨[0,1,2],_,lookK z S (qb z.rrs) .free,rfl,rfl,?_,?_,rfl,rfl⟩
  ·exact rfl
  ·conv=>whnf
   repeat'(first|exact ⟨⟩|exact rfl|exact qa _|exact .inr rfl|exact fun _ _=>rfl|exact noI|apply And.intro)
   all_goals first
    |exact qq _
    |exact qo _
    |exact qp _ _ _
 have h2:cntZ isNs z.rrs (fold z.apex)≠0:=by
  have h2:¬ (((jz z.rrs (fold z.apex)).ns:Nat):Int)=0:=by simpa using h2
  have h3:¬ ((cntZ isNs z.rrs (fold z.apex):Nat):Int)=0:=h2
  omega
 have hlaw:=sound_law h1 h2
 conv=>whnf
 intro bs c rem hbl hrem
 conv=>whnf
 refine .inv (List Nat × Nat) (fun s=>s.1.Nodup/\(∀ q ∈ s.1,q<(qb z.rrs).length)/\∀ q,q<(qb z.rrs).length->q ∉ s.1->qx z.rrs (fold z.apex) ((qb z.rrs).getD q default).1=true) (fun s=>[]) (fun s=>[(4,.iter 2 bs c s.1 s.2)]) (fun s=>s.1.length) ⟨(rem,bs.length),[0,1,2,3,4],?_,?_⟩ ?_
 ·have hL:(aenc strK Hd.enc (qb z.rrs)).length=(qb z.rrs).length:=List.length_map ..
  refine⟨?_,fun q hq=>?_,fun q hq hn=>?_⟩
  ·rw[<-hrem];exact List.nodup_range
  ·rw [<-hrem,hL] at hq;exact List.mem_range.1 hq
  ·exact absurd (by rw[<-hrem,hL];exact List.mem_range.2 hq) hn
 ·conv=>whnf
  repeat'(first|exact ⟨⟩|exact rfl|exact qa _|exact .inr rfl|exact fun _ _=>rfl|exact noI|apply And.intro)
  all_goals first
   |exact qq _
   |exact qo _
   |exact qp _ _ _
 intro s hs
 conv=>whnf
 obtain⟨s1,s2,s3⟩:=hs
 generalize s.1=R at s1 s2 s3 ⊢
 generalize s.2=lst
 refine⟨⟨rfl,rfl⟩,fun q hq=>?_,fun h0=>?_⟩
 ·have hql:=s2 q hq
  have hqe:(qb z.rrs)[q]? = some (qb z.rrs)[q]:=List.getElem?_eq_getElem hql
  have hgd:(qb z.rrs).getD q default=(qb z.rrs)[q]:=by rw[List.getD_eq_getElem?_getD,hqe];rfl
  have hmem:=List.getElem_mem hql
  generalize (qb z.rrs)[q]=e at hqe hgd hmem
  have hae:(aenc strK Hd.enc (qb z.rrs))[q]? = some (strK e.1,e.2.enc):=by unfold aenc;rw[List.getElem?_map,hqe];rfl
  have he2:=namesL_mem hmem
  obtain⟨r,hr,hre⟩:=namesL_of hmem
  have hen:qh e.1:=by rw[<-hre];exact isName_fold (hn r hr)
  refine⟨_,_,hae,?_⟩
  conv=>whnf
  intro R' hR'
  conv=>whnf
  refine⟨⟨rfl,rfl⟩,_,_,hae,?_⟩
  conv=>whnf
  rw[he2]
  refine .rel _ (COk.frameX (fits_ok z S z.rrs hl (.born bs c) e.1 (fold z.apex) hen) [0,1,2] rfl rfl (lookK_map z S (qb z.rrs) (.born bs c) rfl rfl).symm) (fun x ks' hR=>?_)
  obtain⟨s0,k0,⟨rfl,rfl⟩,rfl,rfl⟩:=hR
  rw[lookK_map z S (qb z.rrs) (.born bs c) rfl rfl]
  cases hfit:qx z.rrs (fold z.apex) e.1 with
  |false =>
   have hb:ky z=false:=by
    rw[hlaw,List.all_eq_false]
    exact⟨e,hmem,by rw[hfit];decide⟩
   conv=>whnf
   refine brT rfl ?_
   conv=>whnf
   rw[hb]
   refine⟨[0,1,2],_,lookK z S (qb z.rrs) .free,rfl,rfl,?_,?_,rfl,rfl⟩
   ·exact rfl
   ·conv=>whnf
    repeat'(first|exact ⟨⟩|exact rfl|exact qa _|exact .inr rfl|exact fun _ _=>rfl|exact noI|apply And.intro)
    all_goals first
     |exact qq _
     |exact qo _
     |exact qp _ _ _
  |true =>
   conv=>whnf
   refine brF rfl ?_
   conv=>whnf
   refine⟨(R',q),[0,1,2,3,4],⟨?_,?_,?_⟩,?_,?_⟩
   ·rw[<-hR'];exact s1.erase q
   ·intro q' hq'
    rw [<-hR'] at hq'
    exact s2 q' (List.mem_of_mem_erase hq')
   ·intro q' hq' hn'
    by_cases hqq:q'=q
    ·subst hqq;rw[hgd];exact hfit
    ·exact s3 q' hq' (fun hm=>hn' (by rw[<-hR'];exact(List.mem_erase_of_ne hqq).2 hm))
   ·rw[<-hR']
    show(R.erase q).length<R.length
    rw[List.length_erase_of_mem hq]
    have:=List.length_pos_of_mem hq
    omega
   ·conv=>whnf
    repeat'(first|exact ⟨⟩|exact rfl|exact qa _|exact .inr rfl|exact fun _ _=>rfl|exact noI|apply And.intro)
    all_goals first
     |exact qq _
     |exact qo _
     |exact qp _ _ _
 ·have hb:ky z=true:=by
   rw[hlaw,List.all_eq_true]
   intro e he
   obtain⟨q,hq,rfl⟩:=List.mem_iff_getElem.1 he
   have:=s3 q hq (by rw[h0];simp)
   rw [List.getD_eq_getElem?_getD,List.getElem?_eq_getElem hq] at this
   exact this
  conv=>whnf
  rw[hb]
  refine⟨[0,1,2],_,lookK z S (qb z.rrs) .free,rfl,rfl,?_,?_,rfl,rfl⟩
  ·exact rfl
  ·conv=>whnf
   repeat'(first|exact ⟨⟩|exact rfl|exact qa _|exact .inr rfl|exact fun _ _=>rfl|exact noI|apply And.intro)
   all_goals first
    |exact qq _
    |exact qo _
    |exact qp _ _ _
theorem DenTo.tup[Dr]{l m:List SV}(h:DenToL l m):DenTo (.tup l) (.tup m):=fun w M β v hd=>by
 cases hd with
 |tup _ vs h1 h2 =>
  refine .tup _ vs (by rw[<-h.len];exact h1) (fun j t u ht hu=>?_)
  have hj:j<l.length:=by rw[h.len];exact(List.getElem?_eq_some_iff.1 ht).1
  exact h.at j _ t (List.getElem?_eq_getElem hj) ht _ _ _ _ (h2 j _ u (List.getElem?_eq_getElem hj) hu)
theorem COk.resD[Dr]{P:Program}{f:FuncId}{args:List SV}{ks:List KB}{R R':SV->List KB->Prop}(h:COk P f args ks R)(hR:∀ s k,R s k->∃ s',DenTo s s'/\R' s' k):COk P f args ks R' :=
 ⟨h.1,fun X w β fp vs hM hl hd=>(h.2 X w β fp vs hM hl hd).mono (fun e w' h=>by
  obtain⟨r,s,ks',β',fp',h1,h2,h3,h4⟩:=h
  obtain⟨s',hs,hR'⟩:=hR s ks' h2
  exact⟨r,s',ks',β',fp',h1,hR',h3,hs _ _ _ _ h4⟩)⟩
def topCut(name:List UInt8):List (List UInt8)->Option (List UInt8)
 |[]=>none
 |c :: l=>if zy name c then (match topCut name l with
  |none=>some (fold c)
  |some b=>if countN c<=countN b then some (fold c) else some b) else topCut name l
def Zo.cut(z:Zo)(name:List UInt8):Option (List UInt8):=topCut name z.cutL
theorem within_name{n c:List UInt8}(h:zy n c=true):qh n/\qh c:=by
 unfold zy at h
 simp only [Bool.and_eq_true,decide_eq_true_eq] at h
 exact⟨h.1,h.2.1⟩
def Zo.V(z:Zo):SV:=.agg [.d (.str z.apex),.d (rrsD z.z z.rrs)]
theorem took_next(z:Zo){i:Nat}{r:RR}(h:z.rrs[i]? = some r):zr z.apex (z.rrs.take (i+1))=(zr z.apex (z.rrs.take i) && xf z (z.rrs.take i) r):=by
 rw[List.take_add_one,h]
 exact jf8 _ _ _
theorem qd9(z:Zo)(S:List ((List UInt8 × Int × Int × List UInt8) × Nat))(N:List (List UInt8 × Hd))(st:MS)(σ:Nat->Nat):mapB σ (lookK z S N st)=[.cells 359 [.d (.str z.apex),.d (rrsD z.z z.rrs),.map (σ 1),.map (σ 2)],wx S,ke N st]:=by
 show[KB.cells _ [_,_,SV.map (σ 1),SV.map (σ 2)],KB.mapx _ _ _ (mapM _ (aenc zk intV S)) _,KB.mapx _ _ _ (mapM _ (aenc strK Hd.enc N)) _]=_
 rw[qx5,qy2]
 rfl
theorem see_raw(z:Zo)(hz:∀ r ∈ z.rrs,r.nm.length<=100000/\r.d.length<=100000) :
 COk Tryz.prog 188 [z.V] [] (fun s k=>∃ S N b,s = .tup [.agg [.d (.str z.apex),.d (rrsD z.z z.rrs),.map 0,.map 1],.d b]/\DenTo (.d b) (.d (.bool z.ok))/\k=[wx S,ke N .free]):=by
 refine ji (TT:=TT) (IN:=qd []) qf qe mixed 1000 Tryz.func188 rfl (qc Tryz.func188 (by kernel_rfl) rfl) 38 (by kernel_rfl) ?_
 conv=>whnf
 refine oD (j5 z.apex) rfl rfl ?_
 by_cases hn:qh z.apex
 case neg =>
  rw[if_neg hn]
  have hb:z.ok=false:=by rw[z.ok_eq,decide_eq_false hn];rfl
  conv=>whnf
  refine brT rfl ?_
  conv=>whnf
  rw[hb]
  refine⟨[2,3],_,[wx [],ke [] .free],rfl,rfl,?_,?_,[],[],.ff,rfl,DenTo.ff,rfl⟩
  ·exact rfl
  ·conv=>whnf
   repeat'(first|exact ⟨⟩|exact rfl|exact qa _|exact .inr rfl|exact fun _ _=>rfl|exact noI|apply And.intro)
 rw[if_pos hn]
 conv=>whnf
 refine brF rfl ?_
 conv=>whnf
 refine⟨fun h1=>?_,fun h1=>?_⟩
 ·have h1:¬ z.rrs.length<=256:=by
   have h:(z.rrs.length:Int) > 256:=of_decide_eq_true h1
   omega
  have hb:z.ok=false:=by rw[z.ok_eq,decide_eq_false h1,Bool.false_and,Bool.and_false]
  rw[hb]
  conv=>whnf
  refine⟨[2,3],_,[wx [],ke [] .free],rfl,rfl,?_,?_,[],[],.ff,rfl,DenTo.ff,rfl⟩
  ·exact rfl
  ·conv=>whnf
   repeat'(first|exact ⟨⟩|exact rfl|exact qa _|exact .inr rfl|exact fun _ _=>rfl|exact noI|apply And.intro)
 have h1:z.rrs.length<=256:=by
  have h:¬ (z.rrs.length:Int) > 256:=of_decide_eq_false h1
  omega
 have hok:z.ok=(zr z.apex z.rrs && ky z):=by rw[z.ok_eq,decide_eq_true hn,decide_eq_true h1];rfl
 conv=>whnf
 refine .inv Nat (fun i=>i<=z.rrs.length/\zr z.apex (z.rrs.take i)=true) (fun i=>[(28,iV i)]) (fun i=>[(2,wx (jm (z.rrs.take i))),(3,ke (qb (z.rrs.take i)) .free)]) (fun i=>z.rrs.length - i) ⟨0,[0,1,2,3,4],⟨Nat.zero_le _,rfl⟩,?_⟩ ?_
 ·conv=>whnf
  repeat'(first|exact ⟨⟩|exact rfl|exact qa _|exact .inr rfl|exact fun _ _=>rfl|exact noI|apply And.intro)
 intro i hi
 obtain⟨hi,hti⟩:=hi
 conv=>whnf
 refine⟨fun h2=>?_,fun h2=>?_⟩
 ·have h2:i<z.rrs.length:=by
   have h:(i:Int)<z.rrs.length:=of_decide_eq_true h2
   omega
  have hw1:=w64s i (by omega)
  obtain⟨r,hr⟩:∃ r,z.rrs.getD i default=r:=⟨_,rfl⟩
  have hrl:z.rrs[i]? = some r:=by rw[<-hr,List.getD,List.getElem?_eq_getElem h2];rfl
  have hnx:=took_next z hrl
  have htk:z.rrs.take (i+1)=z.rrs.take i++[r]:=by rw[List.take_add_one,hrl];rfl
  conv=>whnf
  refine⟨by omega,?_⟩
  conv=>whnf
  rw[Int.toNat_natCast,hr]
  refine .rel _ (COk.frameX (take_ok z (z.rrs.take i) (by rw[List.length_take];omega) r (hz r (List.mem_of_getElem? hrl)).1) [4,2,3] rfl rfl (by rw[qd9];rfl)) (fun x ks' hR=>?_)
  obtain⟨s0,k0,⟨rfl,rfl⟩,rfl,rfl⟩:=hR
  cases hto:xf z (z.rrs.take i) r with
  |false =>
   have hb:z.ok=false:=by
    rw[hok,taken_bad (i:=i+1) (by rw[hnx,hto,Bool.and_false])]
    rfl
   rw[hb,if_neg (by decide),qd9]
   conv=>whnf
   refine brT rfl ?_
   conv=>whnf
   refine⟨[2,3],_,[wx (jm (z.rrs.take i)),ke (qb (z.rrs.take i)) .free],rfl,rfl,?_,?_,_,_,.ff,rfl,DenTo.ff,rfl⟩
   ·exact rfl
   ·conv=>whnf
    repeat'(first|exact ⟨⟩|exact rfl|exact qa _|exact .inr rfl|exact fun _ _=>rfl|exact noI|apply And.intro)
    all_goals first
     |exact qq _
     |exact qo _
     |exact qp _ _ _
  |true =>
   rw[if_pos rfl,qd9]
   conv=>whnf
   refine brF rfl ?_
   conv=>whnf
   rw[hw1]
   refine⟨i+1,[0,1,2,3,4],⟨h2,by rw[hnx,hti,hto];rfl⟩,by omega,?_⟩
   rw[htk]
   conv=>whnf
   repeat'(first|exact ⟨⟩|exact rfl|exact qa _|exact .inr rfl|exact fun _ _=>rfl|exact noI|apply And.intro)
   all_goals first
    |exact qq _
    |exact qo _
    |exact qp _ _ _
 ·have h2:i=z.rrs.length:=by
   have h:¬ (i:Int)<z.rrs.length:=of_decide_eq_false h2
   omega
  subst h2
  rw [List.take_length] at hti ⊢
  rw [hti,Bool.true_and] at hok
  have hnm:∀ r ∈ z.rrs,qh r.nm:=fun r hr=>by
   unfold zr at hti
   simp only [Bool.and_eq_true,List.all_eq_true] at hti
   have:=hti.1 r hr
   unfold x9 at this
   simp only [Bool.and_eq_true] at this
   exact(within_name this.2.2.2.2).1
  have hsd:COk Tryz.prog 229 [.ptr 4 0] [.cells 272 [.d (.str z.apex),.d (rrsD z.z z.rrs)],.cells 359 [.d (.str []),nilS,.v (.map none),.v (.map none)],wx (jm z.rrs),ke (qb z.rrs) .free,.cells 359 [.d (.str z.apex),.d (rrsD z.z z.rrs),.map 2,.map 3]]
   (fun s k=>s = .d (.bool (ky z))/\k=[.cells 272 [.d (.str z.apex),.d (rrsD z.z z.rrs)],.cells 359 [.d (.str []),nilS,.v (.map none),.v (.map none)],wx (jm z.rrs),ke (qb z.rrs) .free,.cells 359 [.d (.str z.apex),.d (rrsD z.z z.rrs),.map 2,.map 3]]) :=
   (COk.frameX (sound_ok z (jm z.rrs) (by omega) hnm (by have:=hn.2.1;omega)) [4,2,3] rfl rfl (by rw[qd9];rfl)).imp fun r k ⟨s0,k0,⟨h1,h2⟩,h3,h4⟩=>by
    subst h1 h2 h3 h4
    rw[qd9]
    exact⟨rfl,rfl⟩
  conv=>whnf
  apply Exists.intro
  apply Exists.intro
  refine⟨?_,?_⟩
  ·conv=>whnf
   repeat'(first|exact ⟨⟩|exact⟨rfl,rfl⟩|refine .mem _ _ hsd ?_|apply And.intro|(conv=>whnf))
  conv=>whnf
  refine⟨[2,3],_,[wx (jm z.rrs),ke (qb z.rrs) .free],rfl,rfl,?_,?_,_,_,_,rfl,by rw[hok];exact DenTo.refl _,rfl⟩
  ·exact rfl
  ·conv=>whnf
   repeat'(first|exact ⟨⟩|exact rfl|exact qa _|exact .inr rfl|exact fun _ _=>rfl|exact noI|apply And.intro)
   all_goals first
    |exact qq _
    |exact qo _
    |exact qp _ _ _
theorem see_ok(z:Zo)(hz:∀ r ∈ z.rrs,r.nm.length<=100000/\r.d.length<=100000) :
 COk Tryz.prog 188 [z.V] [] (fun s k=>∃ S N,s = .tup [.agg [.d (.str z.apex),.d (rrsD z.z z.rrs),.map 0,.map 1],.d (.bool z.ok)]/\k=[wx S,ke N .free]) :=
 COk.resD (see_raw z hz) fun s k ⟨S,N,b,h1,h2,h3⟩=>⟨_,h1 ▸ DenTo.tup ⟨DenTo.refl _,h2,trivial⟩,S,N,rfl,h3⟩
theorem lsame_ok(a b:List UInt8):FnOk Tryz.prog 17 [.d (.str a),.d (.str b)] (.d (.bool (ww a b))):=by
 refine qn (TT:=TT) (IN:=qd []) qf qe mixed 1000 Tryz.func17 rfl (qc Tryz.func17 (by kernel_rfl) rfl) rfl 25 (by kernel_rfl) ?_
 conv=>whnf
 cases h0:((a.length:Int) == (b.length:Int))
 ·have:ww a b=false:=by
   cases hf:fold a == fold b
   ·unfold ww;rw[hf,Bool.and_false,Bool.and_false]
   ·have:=congrArg List.length (eq_of_beq hf)
    rw [fold_len,fold_len] at this
    rw [this] at h0;simp at h0
  rw[this]
  refine brF rfl ?_
  conv=>whnf
  repeat(first|(refine brF rfl ?_;conv=>whnf))
  try exact rfl
 ·refine brT rfl ?_
  conv=>whnf
  refine oD (j5 a) rfl rfl ?_
  by_cases ha:qh a
  ·rw[if_pos ha]
   conv=>whnf
   refine brT rfl ?_
   conv=>whnf
   refine oD (j5 b) rfl rfl ?_
   by_cases hb:qh b
   ·rw[if_pos hb]
    conv=>whnf
    refine brT rfl ?_
    conv=>whnf
    refine oD (xo a (jc2 ha)) rfl rfl ?_
    conv=>whnf
    refine oD (xo b (jc2 hb)) rfl rfl ?_
    rw[show ww a b=(fold a == fold b) by unfold ww;rw[decide_eq_true ha,decide_eq_true hb];rfl]
    conv=>whnf
    try exact rfl
   ·rw[if_neg hb,show ww a b=false by unfold ww;rw[decide_eq_false hb,Bool.false_and,Bool.and_false]]
    conv=>whnf
    refine brF rfl ?_
    conv=>whnf
    repeat(first|(refine brF rfl ?_;conv=>whnf))
    try exact rfl
  ·rw[if_neg ha,show ww a b=false by unfold ww;rw[decide_eq_false ha,Bool.false_and]]
   conv=>whnf
   refine brF rfl ?_
   conv=>whnf
   repeat(first|(refine brF rfl ?_;conv=>whnf))
   try exact rfl
theorem wsort_nil:FnOk Tryz.prog 230 [nilS] nilS:=by
 refine qn (TT:=TT) (IN:=qd [(256,Tryz.f256,2),(280,Tryz.f280,3),(288,Tryz.f288,4)]) qf (qv (qv (qv qe Tryz.func288 (by kernel_rfl) (by kernel_rfl)) Tryz.func280 (by kernel_rfl) (by kernel_rfl)) Tryz.func256 (by kernel_rfl) (by kernel_rfl)) mixed 1000 Tryz.func230 rfl (qc Tryz.func230 (by kernel_rfl) rfl) rfl 55 (by kernel_rfl) ?_
 conv=>whnf
 refine .once ?_
 conv=>whnf
 refine brF rfl ?_
 conv=>whnf
 refine .once ?_
 conv=>whnf
 refine brF rfl ?_
 conv=>whnf
 refine .once ?_
 conv=>whnf
 refine brF rfl ?_
 conv=>whnf
 refine .once ?_
 conv=>whnf
 refine brF rfl ?_
 conv=>whnf
 refine .once ?_
 conv=>whnf
 refine brF rfl ?_
 conv=>whnf
 exact⟨rfl,rfl,.inl rfl,fun i h=>rfl⟩
def cutZ(apex:List UInt8)(r:RR):Bool:=isNs r && !ww r.nm apex
theorem cuts_nil(z:Zo)(S:List ((List UInt8 × Int × Int × List UInt8) × Nat))(N:List (List UInt8 × Hd))(hl:z.rrs.length<=100000)(hc:∀ r ∈ z.rrs,cutZ z.apex r=false) :
 COk Tryz.prog 189 [.ptr 0 0] (lookK z S N .free) (fun s k=>s=nilS/\k=lookK z S N .free):=by
 refine ji (TT:=TT) (IN:=qd []) qf qe mixed 1000 Tryz.func189 rfl (qc Tryz.func189 (by kernel_rfl) rfl) 37 (by kernel_rfl) ?_
 conv=>whnf
 refine .inv Nat (fun i=>i<=z.rrs.length) (fun i=>[(12,iV i),(3,nilS)]) (fun i=>[]) (fun i=>z.rrs.length - i) ⟨0,[0,1,2],Nat.zero_le _,?_⟩ ?_
 ·conv=>whnf
  repeat'(first|exact ⟨⟩|exact rfl|exact qa _|exact .inr rfl|exact fun _ _=>rfl|exact noI|apply And.intro)
  all_goals first
   |exact qq _
   |exact qo _
   |exact qp _ _ _
 intro i hi
 conv=>whnf
 refine⟨fun h1=>?_,fun h1=>?_⟩
 ·have h1:i<z.rrs.length:=by
   have h:(i:Int)<z.rrs.length:=of_decide_eq_true h1
   omega
  have hw1:=w64s i (by omega)
  obtain⟨r,hr⟩:∃ r,z.rrs.getD i default=r:=⟨_,rfl⟩
  have hrl:z.rrs[i]? = some r:=by rw[<-hr,List.getD,List.getElem?_eq_getElem h1];rfl
  have hcr:=hc r (List.mem_of_getElem? hrl)
  conv=>whnf
  refine⟨by omega,?_⟩
  conv=>whnf
  rw[Int.toNat_natCast,hr]
  refine⟨fun h2=>?_,fun h2=>?_⟩
  ·have h2:isNs r=true:=h2
   conv=>whnf
   refine .data _ (lsame_ok r.nm z.apex) rfl rfl ?_
   have h3:ww r.nm z.apex=true:=by
    unfold cutZ at hcr
    rw [h2] at hcr
    simpa using hcr
   rw[h3]
   conv=>whnf
   refine brF rfl ?_
   conv=>whnf
   rw[hw1]
   refine⟨i+1,[0,1,2],h1,by omega,?_⟩
   conv=>whnf
   repeat'(first|exact ⟨⟩|exact rfl|exact qa _|exact .inr rfl|exact fun _ _=>rfl|exact noI|apply And.intro)
   all_goals first
    |exact qq _
    |exact qo _
    |exact qp _ _ _
  ·conv=>whnf
   rw[hw1]
   refine⟨i+1,[0,1,2],h1,by omega,?_⟩
   conv=>whnf
   repeat'(first|exact ⟨⟩|exact rfl|exact qa _|exact .inr rfl|exact fun _ _=>rfl|exact noI|apply And.intro)
   all_goals first
    |exact qq _
    |exact qo _
    |exact qp _ _ _
 ·conv=>whnf
  refine oD wsort_nil rfl rfl ?_
  conv=>whnf
  refine⟨[0,1,2],_,lookK z S N .free,rfl,rfl,?_,?_,rfl,rfl⟩
  ·exact rfl
  ·conv=>whnf
   repeat'(first|exact ⟨⟩|exact rfl|exact qa _|exact .inr rfl|exact fun _ _=>rfl|exact noI|apply And.intro)
   all_goals first
    |exact qq _
    |exact qo _
    |exact qp _ _ _
def cCap:List SV:=[.ptr 1 0]
def vi(nf:Nat)(zf:Z)(fo:Nat->List DV):List KB:=[.cells 41 [.all 2],.row 9 1 nf zf fo]
def ltC(c:Nat->Nat->Int)(x y:Nat):Bool:=decide (c x y<0)
def CmpOk(g:FuncId)(c:Nat->Nat->Int)(n:Nat)(z:Z)(nf:Nat)(zf:Z)(fo:Nat->List DV):Prop :=
 ∀ (q:Nat->Nat) (x y:Nat),x<n->y<n->COk Tryz.prog g (iV x :: iV y :: cCap) (rowP n z q :: vi nf zf fo) (fun s k=>s = .d (.int .i64 (c x y))/\k=rowP n z q :: vi nf zf fo)
theorem ins_ok(n:Nat)(hn:n<1152921504606846976)(z:Z)(p:Nat->Nat)(c:Nat->Nat->Int)(g:FuncId)(nf:Nat)(zf:Z)(fo:Nat->List DV)(hg:CmpOk g c n z nf zf fo)(hw:Weak n (ltC c))(hp:Inj n p)(a b:Nat)(hab:a<=b)(hb:b<=n)(hasc:∀ i j,a<=i->i<j->j<b->p i<p j):COk Tryz.prog 292 [.all 0,iV a,iV b,.fn g cCap] (rowP n z p :: vi nf zf fo) (fun s k=>s = .tup []/\∃ r,Merged (L:=LL (ltC c)) p r n a b/\k=rowP n z r :: vi nf zf fo):=by
 refine ji (TT:=TT) (IN:=qd []) qf qe mixed 1000 Tryz.func292 rfl (qc Tryz.func292 (by kernel_rfl) rfl) 49 (by kernel_rfl) ?_
 have e1:=w64s a (by omega)
 conv=>whnf
 rw[e1]
 refine .inv (Nat × (Nat->Nat)) (fun s=>a+1<=s.1/\(s.1<=b\/(s.1=a+1/\s.2=p))/\Merged (L:=LL (ltC c)) p s.2 n a s.1) (fun s=>[(8,iV s.1)]) (fun s=>[(0,rowP n z s.2)]) (fun s=>n+1 - s.1) ⟨(a+1,p),[0,1,2],show a+1<=a+1/\(a+1<=b\/(a+1=a+1/\p=p))/\Merged (L:=LL (ltC c)) p p n a (a+1) from⟨by omega,.inr ⟨rfl,rfl⟩,.stay hp (fun i j _ _ _=>by omega)⟩,?_⟩ ?_
 ·conv=>whnf
  repeat'(first|exact ⟨⟩|exact rfl|exact qa _|exact .inr rfl|exact fun _ _=>rfl|exact noI|apply And.intro)
 intro s hs
 obtain⟨i,q⟩:=s
 obtain⟨hai,hib,hm⟩:=hs
 have hai:a+1<=i:=hai
 have hib:i<=b\/(i=a+1/\q=p):=hib
 have hm:Merged (L:=LL (ltC c)) p q n a i:=hm
 conv=>whnf
 refine⟨fun h1=>?_,fun h1=>?_⟩
 ·have h1:i<b:=by
   have h:(i:Int)<b:=of_decide_eq_true h1
   omega
  have asc:∀ t,a<=t->t<i->q t<q i:=fun t h3 h4=>by
   obtain⟨t',b1,b2,b3⟩:=hm.same.fwd t h3 h4
   rw[b3,hm.same.out i (by omega)]
   exact hasc t' i b1 b2 h1
  have next:∀ j,a<=j->j<=i->(j=a\/LL (ltC c) (q (j - 1)) (q i))->(j=i\/LL (ltC c) (q i) (q j))->Merged (L:=LL (ltC c)) p (rot q j i (i+1)) n a (i+1):=fun j h3 h4 h5 h6=>by
   have:=down_of hw.ord hm.inj (show i<n by omega) h3 h4 hm.rise h5 h6
   exact⟨this.inj,(hm.same.wide (Nat.le_refl _) (by omega)).trans this.same,this.rise⟩
  have e6:=w64s i (by omega)
  conv=>whnf
  refine .inv Nat (fun j=>a<=j/\j<=i/\(j=i\/LL (ltC c) (q i) (q j))) (fun j=>[(9,iV j)]) (fun j=>[(0,rowP n z (rot q j i (i+1)))]) (fun j=>j) ⟨i,[0,1,2],⟨by omega,by omega,.inl rfl⟩,?_⟩ ?_
  ·conv=>whnf
   rw[rot_id1 q i (i+1) (by omega)]
   repeat'(first|exact ⟨⟩|exact rfl|exact qa _|exact .inr rfl|exact fun _ _=>rfl|exact noI|apply And.intro)
  intro j hj
  obtain⟨haj,hji,hjL⟩:=hj
  conv=>whnf
  refine⟨fun h2=>?_,fun h2=>?_⟩
  ·have h2:a<j:=by
    have h:(j:Int) > a:=of_decide_eq_true h2
    omega
   have e2:IntKind.i64.wrap ((j:Int) - 1)=((j - 1:Nat):Int):=by rw[qg _ (by omega)];omega
   have e3:rot q j i (i+1) j=q i:=by rw[rot_a q (by omega) (by omega)];congr 1;omega
   have e4:rot q j i (i+1) (j - 1)=q (j - 1):=rot_o q (by omega) (by omega) (by omega)
   conv=>whnf
   refine⟨by omega,?_⟩
   conv=>whnf
   rw[e2]
   refine⟨by omega,?_⟩
   conv=>whnf
   rw[Int.toNat_natCast,Int.toNat_natCast,e3,e4]
   refine .mem _ _ (hg _ _ _ (hm.inj.lt i (by omega)) (hm.inj.lt (j - 1) (by omega))) ?_
   conv=>whnf
   refine⟨fun h3=>?_,fun h3=>?_⟩
   ·have h3:ltC c (q i) (q (j - 1))=true:=h3
    conv=>whnf
    refine⟨?_,?_,?_,?_⟩
    rotate_left 2
    ·conv=>whnf
     rw[e2]
     repeat'(first|exact⟨rfl,rfl⟩|(refine⟨⟨by omega,by omega⟩,?_⟩;conv=>whnf)|exact ⟨⟩|apply And.intro|(conv=>whnf))
    ·conv=>whnf
     rw[e2]
     refine⟨j - 1,[0,1,2],⟨by omega,by omega,.inr (.inl h3)⟩,by omega,?_⟩
     conv=>whnf
     repeat'(first|exact ⟨⟩|exact rfl|exact qa _|exact .inr rfl|exact fun _ _=>rfl|exact noI|apply And.intro)
     intro x hx
     rw[Int.toNat_natCast,Int.toNat_natCast]
     have:=puts_two' (rot q j i (i+1)) (j - 1) j (by omega)
     have e5:=rot_down q i (j - 1) (by omega)
     rw [show j - 1+1=j by omega] at e5
     exact(congrFun this x).trans (congrArg (fun f=>cel (f x)) e5)
   ·have h3:ltC c (q i) (q (j - 1))=false:=h3
    have hL:LL (ltC c) (q (j - 1)) (q i):=.inr ⟨h3,asc (j - 1) (by omega) (by omega)⟩
    conv=>whnf
    refine⟨(i+1,rot q j i (i+1)),[0,1,2],(show a+1<=i+1/\(i+1<=b\/(i+1=a+1/\rot q j i (i+1)=p))/\Merged (L:=LL (ltC c)) p (rot q j i (i+1)) n a (i+1) from⟨by omega,.inl (by omega),next j haj hji (.inr hL) hjL⟩),by show n+1 - (i+1)<n+1 - i;omega,?_⟩
    conv=>whnf
    rw[e6]
    repeat'(first|exact ⟨⟩|exact rfl|exact qa _|exact .inr rfl|exact fun _ _=>rfl|exact noI|apply And.intro)
  ·have h2:j=a:=by
    have h:¬ ((j:Int) > a):=of_decide_eq_false h2
    omega
   conv=>whnf
   refine⟨(i+1,rot q j i (i+1)),[0,1,2],(show a+1<=i+1/\(i+1<=b\/(i+1=a+1/\rot q j i (i+1)=p))/\Merged (L:=LL (ltC c)) p (rot q j i (i+1)) n a (i+1) from⟨by omega,.inl (by omega),next j haj hji (.inl h2) hjL⟩),by show n+1 - (i+1)<n+1 - i;omega,?_⟩
   conv=>whnf
   rw[e6]
   repeat'(first|exact ⟨⟩|exact rfl|exact qa _|exact .inr rfl|exact fun _ _=>rfl|exact noI|apply And.intro)
 ·have h1:b<=i:=by
   have h:¬ ((i:Int)<b):=of_decide_eq_false h1
   omega
  conv=>whnf
  refine⟨[0,1,2],_,_,rfl,rfl,?_,?_,rfl,q,?_,rfl⟩
  ·exact rfl
  ·conv=>whnf
   repeat'(first|exact ⟨⟩|exact rfl|exact qa _|exact .inr rfl|exact fun _ _=>rfl|exact noI|apply And.intro)
  ·rcases hib with h|h
   ·have:i=b:=by omega
    rw[<-this];exact hm
   ·rw[h.2]
    exact .stay hp (fun i j _ _ _=>by omega)
theorem rot_in(n:Nat)(hn:n<1152921504606846976)(z:Z)(p:Nat->Nat)(a m b:Nat)(ha:a<m)(hb:m<b)(hbn:b<=n)(g:FuncId)(nf:Nat)(zf:Z)(fo:Nat->List DV):COk Tryz.prog 296 [.all 0,iV a,iV m,iV b,.fn g cCap] (rowP n z p :: vi nf zf fo) (fun s k=>s = .tup []/\k=rowP n z (rot p a m b) :: vi nf zf fo):=by
 refine COk.anyA (COk.frame (rotate_ok n hn z p a m b ha hb hbn) [0] («as»:=[.all 0,iV a,iV m,iV b,.any]) rfl rfl rfl (fun s0 k0 h=>?_)) ⟨.inr rfl,.inr rfl,.inr rfl,.inr rfl,.inl rfl,True.intro⟩
 obtain⟨rfl,rfl⟩:=h
 exact⟨rfl,rfl⟩
theorem half(i j:Nat)(h:i+j<9223372036854775808):IntKind.i64.wrap ((IntKind.u64.wrap (IntKind.i64.wrap ((i:Int)+(j:Int)))).fdiv (2 ^ (min (Int.toNat 1) IntKind.u64.bits)))=(((i+j) / 2:Nat):Int):=by
 rw[qg ((i:Int)+(j:Int)) (by omega),IntKind.wrap_u64]
 rw[show(2:Int) ^ (min (Int.toNat 1) IntKind.u64.bits)=2 from rfl,Int.fdiv_eq_ediv_of_nonneg _ (by omega)]
 rw[qg _ (by omega)]
 omega
theorem sym_ok(n:Nat)(hn:n<1152921504606846976)(z:Z)(c:Nat->Nat->Int)(g:FuncId)(nf:Nat)(zf:Z)(fo:Nat->List DV)(hg:CmpOk g c n z nf zf fo)(hw:Weak n (ltC c)):∀ (k:Nat) (p:Nat->Nat) (a m b:Nat),b - a<k->Inj n p->a<m->m<b->b<=n->Rise (LL (ltC c)) p a m->Rise (LL (ltC c)) p m b->Sep p a m b ->
 COk Tryz.prog 293 [.all 0,iV a,iV m,iV b,.fn g cCap] (rowP n z p :: vi nf zf fo) (fun s k=>s = .tup []/\∃ r,Merged (L:=LL (ltC c)) p r n a b/\k=rowP n z r :: vi nf zf fo):=by
 intro k
 induction k with
 |zero=>intro p a m b h;omega
 |succ k ih =>
 intro p a m b hk hp ham hmb hbn h1 h2 hs
 refine ji (TT:=TT) (IN:=qd []) qf qe mixed 1000 Tryz.func293 rfl (qc Tryz.func293 (by kernel_rfl) rfl) 215 (by kernel_rfl) ?_
 have e1:IntKind.i64.wrap ((m:Int) - (a:Int))=((m - a:Nat):Int):=by rw[qg _ (by omega)];omega
 have e2:IntKind.i64.wrap ((b:Int) - (m:Int))=((b - m:Nat):Int):=by rw[qg _ (by omega)];omega
 conv=>whnf
 rw[e1]
 refine⟨fun c1=>?_,fun c1=>?_⟩
 ·have c1:m=a+1:=by simp at c1;omega
  subst c1
  conv=>whnf
  refine .inv (Nat × Nat) (fun s=>a+1<=s.1/\s.1<=s.2/\s.2<=b/\(s.1=a+1\/LL (ltC c) (p (s.1 - 1)) (p a))/\(s.2=b\/LL (ltC c) (p a) (p s.2))) (fun s=>[(10,iV s.1),(11,iV s.2)]) (fun s=>[]) (fun s=>s.2 - s.1) ⟨(a+1,b),[0,1,2],⟨show a+1<=a+1 by omega,show a+1<=b by omega,show b<=b by omega,.inl rfl,.inl rfl⟩,?_⟩ ?_
  ·conv=>whnf
   repeat'(first|exact ⟨⟩|exact rfl|exact qa _|exact .inr rfl|exact fun _ _=>rfl|exact noI|apply And.intro)
  intro s hs2
  obtain⟨q1,q2,q3,q4,q5⟩:=hs2
  conv=>whnf
  generalize s.1=i at q1 q2 q4 ⊢
  generalize s.2=j at q2 q3 q5 ⊢
  refine⟨fun h3=>?_,fun h3=>?_⟩
  ·have h3:i<j:=by
    have h:(i:Int)<j:=of_decide_eq_true h3
    omega
   conv=>whnf
   refine⟨by omega,?_⟩
   conv=>whnf
   rw[half i j (by omega)]
   have g1:i<=(i+j) / 2:=by omega
   have g2:(i+j) / 2<j:=by omega
   generalize (i+j) / 2=h at g1 g2 ⊢
   refine⟨by omega,?_⟩
   conv=>whnf
   refine⟨by omega,?_⟩
   conv=>whnf
   rw[Int.toNat_natCast,Int.toNat_natCast]
   refine .mem _ _ (hg _ _ _ (hp.lt h (by omega)) (hp.lt a (by omega))) ?_
   conv=>whnf
   refine⟨fun h4=>?_,fun h4=>?_⟩
   ·have h4:ltC c (p h) (p a)=true:=h4
    conv=>whnf
    rw[show IntKind.i64.wrap ((h:Int)+1)=((h+1:Nat):Int) by rw[qg _ (by omega)];omega]
    refine⟨(h+1,j),[0,1,2],⟨show a+1<=h+1 by omega,show h+1<=j by omega,q3,.inr (.inl h4),q5⟩,by show j - (h+1)<j - i;omega,?_⟩
    conv=>whnf
    repeat'(first|exact ⟨⟩|exact rfl|exact qa _|exact .inr rfl|exact fun _ _=>rfl|exact noI|apply And.intro)
   ·have h4:ltC c (p h) (p a)=false:=h4
    conv=>whnf
    refine⟨(i,h),[0,1,2],⟨q1,g1,show h<=b by omega,q4,.inr (.inr ⟨h4,hs a h (by omega) (by omega) (by omega) (by omega)⟩)⟩,by show h - i<j - i;omega,?_⟩
    conv=>whnf
    repeat'(first|exact ⟨⟩|exact rfl|exact qa _|exact .inr rfl|exact fun _ _=>rfl|exact noI|apply And.intro)
  ·have h3:i=j:=by
    have h:¬ (i:Int)<j:=of_decide_eq_false h3
    omega
   subst h3
   have hfin:=up_of hw.ord hp hbn q1 q3 h2 q4 q5
   have ei:IntKind.i64.wrap ((i:Int) - 1)=((i - 1:Nat):Int):=by rw[qg _ (by omega)];omega
   conv=>whnf
   refine .inv Nat (fun k=>a<=k/\k+1<=i) (fun k=>[(13,iV k)]) (fun k=>[(0,rowP n z (rot p a (a+1) (k+1)))]) (fun k=>i - k) ⟨a,[0,1,2],⟨by omega,by omega⟩,?_⟩ ?_
   ·conv=>whnf
    rw[rot_id2 p a (a+1) (by omega)]
    repeat'(first|exact ⟨⟩|exact rfl|exact qa _|exact .inr rfl|exact fun _ _=>rfl|exact noI|apply And.intro)
   intro k hk2
   obtain⟨r1,r2⟩:=hk2
   conv=>whnf
   rw[ei]
   refine⟨fun h3=>?_,fun h3=>?_⟩
   ·have h3:k<i - 1:=by
     have h:(k:Int)<((i - 1:Nat):Int):=of_decide_eq_true h3
     omega
    have ek:=w64s k (by omega)
    conv=>whnf
    refine⟨?_,?_,?_,?_⟩
    rotate_left 2
    ·conv=>whnf
     rw[ek]
     repeat'(first|exact⟨rfl,rfl⟩|(refine⟨⟨by omega,by omega⟩,?_⟩;conv=>whnf)|exact ⟨⟩|apply And.intro|(conv=>whnf))
    ·conv=>whnf
     rw[ek]
     refine⟨k+1,[0,1,2],⟨by omega,by omega⟩,by omega,?_⟩
     conv=>whnf
     repeat'(first|exact ⟨⟩|exact rfl|exact qa _|exact .inr rfl|exact fun _ _=>rfl|exact noI|apply And.intro)
     intro x hx
     rw[Int.toNat_natCast,Int.toNat_natCast]
     have:=puts_two (rot p a (a+1) (k+1)) k (k+1) (by omega)
     exact(congrFun this x).trans (congrArg (fun f=>cel (f x)) (rot_up p a k (by omega)))
   ·have h3:k+1=i:=by
     have h:¬ (k:Int)<((i - 1:Nat):Int):=of_decide_eq_false h3
     omega
    rw[h3]
    conv=>whnf
    refine⟨[0,1,2],_,_,rfl,rfl,?_,?_,rfl,_,hfin,rfl⟩
    ·exact rfl
    ·conv=>whnf
     repeat'(first|exact ⟨⟩|exact rfl|exact qa _|exact .inr rfl|exact fun _ _=>rfl|exact noI|apply And.intro)
 have c1:¬ m=a+1:=by simp at c1;omega
 conv=>whnf
 rw[e2]
 refine⟨fun c2=>?_,fun c2=>?_⟩
 ·have c2:b=m+1:=by simp at c2;omega
  subst c2
  conv=>whnf
  refine .inv (Nat × Nat) (fun s=>a<=s.1/\s.1<=s.2/\s.2<=m/\(s.1=a\/LL (ltC c) (p (s.1 - 1)) (p m))/\(s.2=m\/LL (ltC c) (p m) (p s.2))) (fun s=>[(14,iV s.1),(15,iV s.2)]) (fun s=>[]) (fun s=>s.2 - s.1) ⟨(a,m),[0,1,2],⟨show a<=a by omega,show a<=m by omega,show m<=m by omega,.inl rfl,.inl rfl⟩,?_⟩ ?_
  ·conv=>whnf
   repeat'(first|exact ⟨⟩|exact rfl|exact qa _|exact .inr rfl|exact fun _ _=>rfl|exact noI|apply And.intro)
  intro s hs2
  obtain⟨q1,q2,q3,q4,q5⟩:=hs2
  conv=>whnf
  generalize s.1=i at q1 q2 q4 ⊢
  generalize s.2=j at q2 q3 q5 ⊢
  refine⟨fun h3=>?_,fun h3=>?_⟩
  ·have h3:i<j:=by
    have h:(i:Int)<j:=of_decide_eq_true h3
    omega
   conv=>whnf
   refine⟨by omega,?_⟩
   conv=>whnf
   rw[half i j (by omega)]
   have g1:i<=(i+j) / 2:=by omega
   have g2:(i+j) / 2<j:=by omega
   generalize (i+j) / 2=h at g1 g2 ⊢
   refine⟨by omega,?_⟩
   conv=>whnf
   refine⟨by omega,?_⟩
   conv=>whnf
   rw[Int.toNat_natCast,Int.toNat_natCast]
   refine .mem _ _ (hg _ _ _ (hp.lt m (by omega)) (hp.lt h (by omega))) ?_
   conv=>whnf
   refine⟨fun h4=>?_,fun h4=>?_⟩
   ·have h4:ltC c (p m) (p h)=false:=by
     have h5:(!(ltC c (p m) (p h)))=true:=h4
     simpa using h5
    conv=>whnf
    rw[show IntKind.i64.wrap ((h:Int)+1)=((h+1:Nat):Int) by rw[qg _ (by omega)];omega]
    refine⟨(h+1,j),[0,1,2],⟨show a<=h+1 by omega,show h+1<=j by omega,q3,.inr (.inr ⟨h4,hs h m (by omega) (by omega) (by omega) (by omega)⟩),q5⟩,by show j - (h+1)<j - i;omega,?_⟩
    conv=>whnf
    repeat'(first|exact ⟨⟩|exact rfl|exact qa _|exact .inr rfl|exact fun _ _=>rfl|exact noI|apply And.intro)
   ·have h4:ltC c (p m) (p h)=true:=by
     have h5:(!(ltC c (p m) (p h)))=false:=h4
     simpa using h5
    conv=>whnf
    refine⟨(i,h),[0,1,2],⟨q1,g1,show h<=m by omega,q4,.inr (.inl h4)⟩,by show h - i<j - i;omega,?_⟩
    conv=>whnf
    repeat'(first|exact ⟨⟩|exact rfl|exact qa _|exact .inr rfl|exact fun _ _=>rfl|exact noI|apply And.intro)
  ·have h3:i=j:=by
    have h:¬ (i:Int)<j:=of_decide_eq_false h3
    omega
   subst h3
   have hfin:=down_of hw.ord hp (show m<n by omega) q1 q3 h1 q4 q5
   conv=>whnf
   refine .inv Nat (fun k=>i<=k/\k<=m) (fun k=>[(17,iV k)]) (fun k=>[(0,rowP n z (rot p k m (m+1)))]) (fun k=>k) ⟨m,[0,1,2],⟨by omega,by omega⟩,?_⟩ ?_
   ·conv=>whnf
    rw[rot_id1 p m (m+1) (by omega)]
    repeat'(first|exact ⟨⟩|exact rfl|exact qa _|exact .inr rfl|exact fun _ _=>rfl|exact noI|apply And.intro)
   intro k hk2
   obtain⟨r1,r2⟩:=hk2
   conv=>whnf
   refine⟨fun h3=>?_,fun h3=>?_⟩
   ·have h3:i<k:=by
     have h:(k:Int) > (i:Int):=of_decide_eq_true h3
     omega
    have ek:IntKind.i64.wrap ((k:Int) - 1)=((k - 1:Nat):Int):=by rw[qg _ (by omega)];omega
    conv=>whnf
    refine⟨?_,?_,?_,?_⟩
    rotate_left 2
    ·conv=>whnf
     rw[ek]
     repeat'(first|exact⟨rfl,rfl⟩|(refine⟨⟨by omega,by omega⟩,?_⟩;conv=>whnf)|exact ⟨⟩|apply And.intro|(conv=>whnf))
    ·conv=>whnf
     rw[ek]
     refine⟨k - 1,[0,1,2],⟨by omega,by omega⟩,by omega,?_⟩
     conv=>whnf
     repeat'(first|exact ⟨⟩|exact rfl|exact qa _|exact .inr rfl|exact fun _ _=>rfl|exact noI|apply And.intro)
     intro x hx
     rw[Int.toNat_natCast,Int.toNat_natCast]
     have:=puts_two' (rot p k m (m+1)) (k - 1) k (by omega)
     have e5:=rot_down p m (k - 1) (by omega)
     rw [show k - 1+1=k by omega] at e5
     exact(congrFun this x).trans (congrArg (fun f=>cel (f x)) e5)
   ·have h3:k=i:=by
     have h:¬ (k:Int) > (i:Int):=of_decide_eq_false h3
     omega
    rw[h3]
    conv=>whnf
    refine⟨[0,1,2],_,_,rfl,rfl,?_,?_,rfl,_,hfin,rfl⟩
    ·exact rfl
    ·conv=>whnf
     repeat'(first|exact ⟨⟩|exact rfl|exact qa _|exact .inr rfl|exact fun _ _=>rfl|exact noI|apply And.intro)
 have c2:¬ b=m+1:=by simp at c2;omega
 conv=>whnf
 refine⟨by omega,?_⟩
 conv=>whnf
 rw[half a b (by omega)]
 rw[show IntKind.i64.wrap ((((a+b) / 2:Nat):Int)+(m:Int))=(((a+b) / 2+m:Nat):Int) by rw[qg _ (by omega)];omega]
 refine⟨fun c3=>?_,fun c3=>?_⟩
 have c3:(a+b) / 2<m:=by
  have h:(m:Int) > (((a+b) / 2:Nat):Int):=of_decide_eq_true c3
  omega
 conv=>whnf
 obtain⟨N,hN⟩:∃ N,N=(a+b) / 2+m:=⟨_,rfl⟩
 rw[<-hN]
 obtain⟨s0,hs0⟩:∃ s0,s0=N - b:=⟨_,rfl⟩
 obtain⟨r0,hr0⟩:∃ r0,r0=(a+b) / 2:=⟨_,rfl⟩
 have f1:s0=a\/N - s0=b:=by omega
 have f2:r0=m\/N - r0=m:=by omega
 have f3:a<=s0/\s0<=r0/\r0<=m/\m<=N - r0/\N - s0<=b:=by omega
 have x1:IntKind.i64.wrap ((N:Int) - (b:Int))=(s0:Int):=by rw[qg _ (by omega)];omega
 have x2:IntKind.i64.wrap ((N:Int) - 1)=((N - 1:Nat):Int):=by rw[qg _ (by omega)];omega
 rw[x1,x2]
 rotate_left
 have c3:m<=(a+b) / 2:=by
  have h:¬ (m:Int) > (((a+b) / 2:Nat):Int):=of_decide_eq_false c3
  omega
 conv=>whnf
 obtain⟨N,hN⟩:∃ N,N=(a+b) / 2+m:=⟨_,rfl⟩
 rw[<-hN]
 obtain⟨s0,hs0⟩:∃ s0,s0=a:=⟨_,rfl⟩
 obtain⟨r0,hr0⟩:∃ r0,r0=m:=⟨_,rfl⟩
 have f1:s0=a\/N - s0=b:=by omega
 have f2:r0=m\/N - r0=m:=by omega
 have f3:a<=s0/\s0<=r0/\r0<=m/\m<=N - r0/\N - s0<=b:=by omega
 have x2:IntKind.i64.wrap ((N:Int) - 1)=((N - 1:Nat):Int):=by rw[qg _ (by omega)];omega
 rw[x2]
 all_goals
  refine .inv (Nat × Nat) (fun s=>s0<=s.1/\s.1<=s.2/\s.2<=r0/\(s.1=s0\/LL (ltC c) (p (s.1 - 1)) (p (N - s.1)))/\(s.2=r0\/LL (ltC c) (p (N - 1 - s.2)) (p s.2))) (fun s=>[(20,iV s.1),(21,iV s.2)]) (fun s=>[]) (fun s=>s.2 - s.1) ⟨(s0,r0),[0,1,2],⟨show s0<=s0 by omega,show s0<=r0 by omega,show r0<=r0 by omega,.inl rfl,.inl rfl⟩,?_⟩ ?_
  ·subst hr0
   subst hs0
   conv=>whnf
   repeat'(first|exact ⟨⟩|exact rfl|exact qa _|exact .inr rfl|exact fun _ _=>rfl|exact noI|apply And.intro)
  intro st hst
  obtain⟨q1,q2,q3,q4,q5⟩:=hst
  conv=>whnf
  generalize st.1=s at q1 q2 q4 ⊢
  generalize st.2=j at q2 q3 q5 ⊢
  refine⟨fun h3=>?_,fun h3=>?_⟩
  ·have h3:s<j:=by
    have h:(s:Int)<j:=of_decide_eq_true h3
    omega
   conv=>whnf
   refine⟨by omega,?_⟩
   conv=>whnf
   rw[half s j (by omega)]
   have g1:s<=(s+j) / 2:=by omega
   have g2:(s+j) / 2<j:=by omega
   generalize (s+j) / 2=h at g1 g2 ⊢
   rw[show IntKind.i64.wrap (((N - 1:Nat):Int) - (h:Int))=((N - 1 - h:Nat):Int) by rw[qg _ (by omega)];omega]
   refine⟨by omega,?_⟩
   conv=>whnf
   refine⟨by omega,?_⟩
   conv=>whnf
   rw[Int.toNat_natCast,Int.toNat_natCast]
   refine .mem _ _ (hg _ _ _ (hp.lt (N - 1 - h) (by omega)) (hp.lt h (by omega))) ?_
   conv=>whnf
   refine⟨fun h4=>?_,fun h4=>?_⟩
   ·have h4:ltC c (p (N - 1 - h)) (p h)=false:=by
     have h5:(!(ltC c (p (N - 1 - h)) (p h)))=true:=h4
     simpa using h5
    conv=>whnf
    rw[show IntKind.i64.wrap ((h:Int)+1)=((h+1:Nat):Int) by rw[qg _ (by omega)];omega]
    refine⟨(h+1,j),[0,1,2],⟨show s0<=h+1 by omega,show h+1<=j by omega,q3,.inr (?_:LL (ltC c) (p (h+1 - 1)) (p (N - (h+1)))),q5⟩,by show j - (h+1)<j - s;omega,?_⟩
    ·rw[show h+1 - 1=h by omega,show N - (h+1)=N - 1 - h by omega]
     exact .inr ⟨h4,hs h (N - 1 - h) (by omega) (by omega) (by omega) (by omega)⟩
    conv=>whnf
    repeat'(first|exact ⟨⟩|exact rfl|exact qa _|exact .inr rfl|exact fun _ _=>rfl|exact noI|apply And.intro)
   ·have h4:ltC c (p (N - 1 - h)) (p h)=true:=by
     have h5:(!(ltC c (p (N - 1 - h)) (p h)))=false:=h4
     simpa using h5
    conv=>whnf
    refine⟨(s,h),[0,1,2],⟨q1,g1,show h<=r0 by omega,q4,.inr (.inl h4)⟩,by show h - s<j - s;omega,?_⟩
    conv=>whnf
    repeat'(first|exact ⟨⟩|exact rfl|exact qa _|exact .inr rfl|exact fun _ _=>rfl|exact noI|apply And.intro)
  have h3:s=j:=by
   have h:¬ (s:Int)<j:=of_decide_eq_false h3
   omega
  subst h3
  have hc:Cut (L:=LL (ltC c)) p a m b s (N - s):=cut_of hw.ord hp hbn h1 h2 (by omega) (by omega) (by omega) (by omega)
   (by
    rcases q4 with x|x
    ·rcases f1 with y|y
     ·exact .inl (by omega)
     ·exact .inr (.inl (by omega))
    ·exact .inr (.inr x))
   (by
    rcases q5 with x|x
    ·rcases f2 with y|y
     ·exact .inl (by omega)
     ·exact .inr (.inl (by omega))
    ·exact .inr (.inr (by rw[show N - s - 1=N - 1 - s by omega];exact x)))
  have hmid:(a+b) / 2=s+(N - s - m):=by omega
  have cl:=cut_left h1 h2 hs hc hmid
  have cr:=cut_right h1 h2 hs hc hmid
  have hrot:Inj n (rot p s m (N - s)):=hp.rot (by omega) (by omega) (by omega)
  have ee:IntKind.i64.wrap ((N:Int) - (s:Int))=((N - s:Nat):Int):=by rw[qg _ (by omega)];omega
  conv=>whnf
  rw[ee]
  by_cases k1:s<m/\m<N - s
  refine brT (decide_eq_true (by omega)) ?_
  conv=>whnf
  refine brT (decide_eq_true (by omega)) ?_
  conv=>whnf
  refine .rel _ (rot_in n hn z p s m (N - s) k1.1 k1.2 (by omega) g nf zf fo) (fun r ks' hR=>?_)
  obtain⟨rfl,rfl⟩:=hR
  conv=>whnf
  rotate_left
  have eq:rot p s m (N - s)=p:=by
   rcases Nat.lt_or_ge s m with x|x
   ·rw[show N - s=m by omega];exact rot_id2 p s m (by omega)
   ·rw[show s=m by omega];exact rot_id1 p m _ (by omega)
  rw[show rowP n z p=rowP n z (rot p s m (N - s)) by rw[eq]]
  by_cases k0:s<m
  refine brT (decide_eq_true (by omega)) ?_
  conv=>whnf
  refine brF (decide_eq_false (by omega)) ?_
  conv=>whnf
  rotate_left
  refine brF (decide_eq_false (by omega)) ?_
  conv=>whnf
  all_goals
   by_cases k2:a<s/\s<(a+b) / 2
   refine brT (decide_eq_true (by omega)) ?_
   conv=>whnf
   refine brT (decide_eq_true (by omega)) ?_
   conv=>whnf
   refine .rel _ (ih (rot p s m (N - s)) a s ((a+b) / 2) (by omega) hrot k2.1 k2.2 (by omega) cl.1 cl.2.1 cl.2.2) (fun r ks' hR=>?_)
   obtain⟨rfl,r1,hr1,rfl⟩:=hR
   have hfin:∀ r2,Merged (L:=LL (ltC c)) r1 r2 n ((a+b) / 2) b->Merged (L:=LL (ltC c)) p r2 n a b:=fun r2 h=>merge_two h1 h2 hc hmid hr1 h
   conv=>whnf
   rotate_left
   obtain⟨r1,hr1,er⟩:∃ r1,Merged (L:=LL (ltC c)) (rot p s m (N - s)) r1 n a ((a+b) / 2)/\r1=rot p s m (N - s):=⟨_,.stay hrot (by
    rcases Nat.lt_or_ge a s with x|x
    ·exact cl.1.sub (Nat.le_refl _) (by omega)
    ·exact cl.2.1.sub (by omega) (Nat.le_refl _)),rfl⟩
   have hfin:∀ r2,Merged (L:=LL (ltC c)) r1 r2 n ((a+b) / 2) b->Merged (L:=LL (ltC c)) p r2 n a b:=fun r2 h=>merge_two h1 h2 hc hmid hr1 h
   rw[<-er]
   clear er
   by_cases k0:a<s
   refine brT (decide_eq_true (by omega)) ?_
   conv=>whnf
   refine brF (decide_eq_false (by omega)) ?_
   conv=>whnf
   rotate_left
   refine brF (decide_eq_false (by omega)) ?_
   conv=>whnf
   all_goals
    by_cases k3:(a+b) / 2<N - s/\N - s<b
    refine brT (decide_eq_true (by omega)) ?_
    conv=>whnf
    refine brT (decide_eq_true (by omega)) ?_
    conv=>whnf
    refine .rel _ (ih r1 ((a+b) / 2) (N - s) b (by omega) hr1.inj k3.1 k3.2 hbn (cr.1.congr fun i x1 x2=>hr1.same.out i (by omega)) (cr.2.1.congr fun i x1 x2=>hr1.same.out i (by omega)) (cr.2.2.congr fun i x1 x2=>hr1.same.out i (by omega))) (fun r ks' hR=>?_)
    obtain⟨rfl,r2,hr2,rfl⟩:=hR
    conv=>whnf
    rotate_left
    have hr2:Merged (L:=LL (ltC c)) r1 r1 n ((a+b) / 2) b:=.stay hr1.inj (by
     rcases Nat.lt_or_ge ((a+b) / 2) (N - s) with x|x
     ·exact(cr.1.congr fun i x1 x2=>hr1.same.out i (by omega)).sub (Nat.le_refl _) (by omega)
     ·exact(cr.2.1.congr fun i x1 x2=>hr1.same.out i (by omega)).sub (by omega) (Nat.le_refl _))
    by_cases k0:(a+b) / 2<N - s
    refine brT (decide_eq_true (by omega)) ?_
    conv=>whnf
    refine brF (decide_eq_false (by omega)) ?_
    conv=>whnf
    rotate_left
    refine brF (decide_eq_false (by omega)) ?_
    conv=>whnf
    all_goals
     refine⟨[0,1,2],_,_,rfl,rfl,?_,?_,rfl,_,hfin _ hr2,rfl⟩
     ·exact rfl
     ·conv=>whnf
      repeat'(first|exact ⟨⟩|exact rfl|exact qa _|exact .inr rfl|exact fun _ _=>rfl|exact noI|apply And.intro)
theorem stable_ok(n:Nat)(hn:n<1152921504606846976)(z:Z)(c:Nat->Nat->Int)(g:FuncId)(nf:Nat)(zf:Z)(fo:Nat->List DV)(hg:CmpOk g c n z nf zf fo)(hw:Weak n (ltC c)) :
 COk Tryz.prog 283 [.all 0,iV n,.fn g cCap] (rowP n z id :: vi nf zf fo) (fun s k=>s = .tup []/\∃ r,Inj n r/\Rise (LL (ltC c)) r 0 n/\k=rowP n z r :: vi nf zf fo):=by
 refine ji (TT:=TT) (IN:=qd []) qf qe mixed 1000 Tryz.func283 rfl (qc Tryz.func283 (by kernel_rfl) rfl) 60 (by kernel_rfl) ?_
 conv=>whnf
 refine .inv (Nat × (Nat->Nat)) (fun s=>s.1 * 20<=n/\Fst (LL (ltC c)) 20 n s.1 s.2) (fun s=>[(6,iV 20),(7,iV (s.1 * 20)),(8,iV (s.1 * 20+20))]) (fun s=>[(0,rowP n z s.2)]) (fun s=>n - s.1 * 20) ⟨(0,id),[0,1,2],⟨by show 0 * 20<=n;omega,Fst.zero 20 n⟩,?_⟩ ?_
 ·conv=>whnf
  repeat'(first|exact ⟨⟩|exact rfl|exact qa _|exact .inr rfl|exact fun _ _=>rfl|exact noI|apply And.intro)
 intro s hs
 obtain⟨h1,h2⟩:=hs
 conv=>whnf
 generalize s.1=q at h1 h2 ⊢
 generalize s.2=p at h2 ⊢
 refine⟨fun h3=>?_,fun h3=>?_⟩
 ·have h3:q * 20+20<=n:=by
   have h:((q * 20+20:Nat):Int)<=n:=of_decide_eq_true h3
   omega
  conv=>whnf
  refine .rel _ (ins_ok n hn z p c g nf zf fo hg hw h2.inj (q * 20) (q * 20+20) (by omega) h3 (fun i j x1 x2 x3=>by rw[h2.rest i x1,h2.rest j (by omega)];exact x2)) (fun r ks' hR=>?_)
  obtain⟨rfl,r,hr,rfl⟩:=hR
  have e1:IntKind.i64.wrap (((q * 20+20:Nat):Int)+((20:Nat):Int))=(((q+1) * 20+20:Nat):Int):=by rw[qg _ (by omega)];omega
  have e2:q * 20+20=(q+1) * 20:=by omega
  conv=>whnf
  rw[e1,e2]
  refine⟨(q+1,r),[0,1,2],⟨by show(q+1) * 20<=n;omega,h2.next h3 (by omega) (.inr rfl) hr⟩,by show n - (q+1) * 20<n - q * 20;omega,?_⟩
  conv=>whnf
  repeat'(first|exact ⟨⟩|exact rfl|exact qa _|exact .inr rfl|exact fun _ _=>rfl|exact noI|apply And.intro)
 ·have h3:n<q * 20+20:=by
   have h:¬ ((q * 20+20:Nat):Int)<=n:=of_decide_eq_false h3
   omega
  conv=>whnf
  refine .rel _ (ins_ok n hn z p c g nf zf fo hg hw h2.inj (q * 20) n h1 (Nat.le_refl _) (fun i j x1 x2 x3=>by rw[h2.rest i x1,h2.rest j (by omega)];exact x2)) (fun r ks' hR=>?_)
  obtain⟨rfl,r,hr,rfl⟩:=hR
  have h4:=h2.next (Nat.le_refl _) (by omega) (.inl rfl) hr
  conv=>whnf
  refine .inv (Nat × (Nat->Nat)) (fun s=>0<s.1/\s.1<=20+2 * n/\Inj n s.2/\Lc s.1 0 n s.2/\Rs (LL (ltC c)) s.1 0 n s.2) (fun s=>[(6,iV s.1)]) (fun s=>[(0,rowP n z s.2)]) (fun s=>n - s.1) ⟨(20,r),[0,1,2],⟨show 0<20 by omega,show 20<=20+2 * n by omega,h4.inj,h4.loc,?_⟩,?_⟩ ?_
  ·have:=h4.done
   rw [show min ((q+1) * 20) n=n by omega] at this
   exact this
  ·conv=>whnf
   repeat'(first|exact ⟨⟩|exact rfl|exact qa _|exact .inr rfl|exact fun _ _=>rfl|exact noI|apply And.intro)
  clear h1 h2 h3 h4 hr
  intro s hs
  obtain⟨h1,h2,h3,h4,h5⟩:=hs
  conv=>whnf
  generalize s.1=k at h1 h2 h4 h5 ⊢
  generalize s.2=p at h3 h4 h5 ⊢
  refine⟨fun h6=>?_,fun h6=>?_⟩
  ·have h6:k<n:=by
    have h:(k:Int)<n:=of_decide_eq_true h6
    omega
   have e1:IntKind.i64.wrap (2 * (k:Int))=((2 * k:Nat):Int):=by rw[qg _ (by omega)];omega
   conv=>whnf
   rw[e1]
   refine .inv (Nat × (Nat->Nat)) (fun s=>s.1<=n/\∃ q,s.1=q * (2 * k)/\Mg (LL (ltC c)) k n q s.2) (fun s=>[(7,iV s.1),(8,iV (s.1+2 * k))]) (fun s=>[(0,rowP n z s.2)]) (fun s=>n - s.1) ⟨(0,p),[0,1,2],⟨Nat.zero_le _,0,(Nat.zero_mul _).symm,Mg.begin h3 h4 h5⟩,?_⟩ ?_
   ·conv=>whnf
    rw[Nat.zero_add]
    repeat'(first|exact ⟨⟩|exact rfl|exact qa _|exact .inr rfl|exact fun _ _=>rfl|exact noI|apply And.intro)
   intro s hs
   obtain⟨g1,q,g2,g3⟩:=hs
   conv=>whnf
   generalize s.1=a at g1 g2 ⊢
   generalize s.2=p at g3 ⊢
   refine⟨fun h7=>?_,fun h7=>?_⟩
   ·have h7:a+2 * k<=n:=by
     have h:((a+2 * k:Nat):Int)<=n:=of_decide_eq_true h7
     omega
    have e2:IntKind.i64.wrap ((a:Int)+(k:Int))=((a+k:Nat):Int):=by rw[qg _ (by omega)];omega
    have e3:IntKind.i64.wrap (((a+2 * k:Nat):Int)+((2 * k:Nat):Int))=((a+2 * k+2 * k:Nat):Int):=by rw[qg _ (by omega)];omega
    conv=>whnf
    rw[e2]
    refine .rel _ (sym_ok n hn z c g nf zf fo hg hw (2 * k+1) p a (a+k) (a+2 * k) (by omega) g3.inj (by omega) (by omega) h7 (by rw[g2];exact g3.left (by omega)) (by rw[g2];exact g3.right (by omega) (by omega)) (by rw[g2];exact g3.sep (by omega) (by omega))) (fun r ks' hR=>?_)
    obtain⟨rfl,r,hr,rfl⟩:=hR
    have hn2:Mg (LL (ltC c)) k n (q+1) r:=g3.next h1 h7 (by omega) (by omega) (by omega) (by rw[<-g2];exact hr)
    conv=>whnf
    rw[e1,e3]
    refine⟨(a+2 * k,r),[0,1,2],⟨h7,q+1,by show a+2 * k=(q+1) * (2 * k);rw[Nat.succ_mul q (2 * k),<-g2],hn2⟩,by show n - (a+2 * k)<n - a;omega,?_⟩
    conv=>whnf
    repeat'(first|exact ⟨⟩|exact rfl|exact qa _|exact .inr rfl|exact fun _ _=>rfl|exact noI|apply And.intro)
   ·have h7:n<a+2 * k:=by
     have h:¬ ((a+2 * k:Nat):Int)<=n:=of_decide_eq_false h7
     omega
    have e2:IntKind.i64.wrap ((a:Int)+(k:Int))=((a+k:Nat):Int):=by rw[qg _ (by omega)];omega
    have e4:IntKind.i64.wrap ((k:Int) * 2)=((2 * k:Nat):Int):=by rw[qg _ (by omega)];omega
    conv=>whnf
    rw[e2]
    refine⟨fun h8=>?_,fun h8=>?_⟩
    ·have h8:a+k<n:=by
      have h:((a+k:Nat):Int)<n:=of_decide_eq_true h8
      omega
     conv=>whnf
     refine .rel _ (sym_ok n hn z c g nf zf fo hg hw (2 * k+1) p a (a+k) n (by omega) g3.inj (by omega) h8 (Nat.le_refl _) (by rw[g2];exact g3.left (by omega)) (by rw[g2];exact g3.right (Nat.le_refl _) (by omega)) (by rw[g2];exact g3.sep (Nat.le_refl _) (by omega))) (fun r ks' hR=>?_)
     obtain⟨rfl,r,hr,rfl⟩:=hR
     have hn2:Mg (LL (ltC c)) k n (q+1) r:=g3.next h1 (Nat.le_refl _) (by omega) (by omega) (by omega) (by rw[<-g2];exact hr)
     have ho:=hn2.over h1 (by rw[Nat.succ_mul,<-g2];omega)
     conv=>whnf
     rw[e4]
     refine⟨(2 * k,r),[0,1,2],⟨show 0<2 * k by omega,show 2 * k<=20+2 * n by omega,hn2.inj,ho.1,ho.2⟩,by show n - 2 * k<n - k;omega,?_⟩
     conv=>whnf
     repeat'(first|exact ⟨⟩|exact rfl|exact qa _|exact .inr rfl|exact fun _ _=>rfl|exact noI|apply And.intro)
    ·have h8:n<=a+k:=by
      have h:¬ ((a+k:Nat):Int)<n:=of_decide_eq_false h8
      omega
     have ho:=g3.over h1 (by rw[<-g2];exact h8)
     conv=>whnf
     rw[e4]
     refine⟨(2 * k,p),[0,1,2],⟨show 0<2 * k by omega,show 2 * k<=20+2 * n by omega,g3.inj,ho.1,ho.2⟩,by show n - 2 * k<n - k;omega,?_⟩
     conv=>whnf
     repeat'(first|exact ⟨⟩|exact rfl|exact qa _|exact .inr rfl|exact fun _ _=>rfl|exact noI|apply And.intro)
  ·have h6:n<=k:=by
    have h:¬ (k:Int)<n:=of_decide_eq_false h6
    omega
   conv=>whnf
   refine⟨[0,1,2],_,_,rfl,rfl,?_,?_,rfl,p,h3,h5.all h6,rfl⟩
   ·exact rfl
   ·conv=>whnf
    repeat'(first|exact ⟨⟩|exact rfl|exact qa _|exact .inr rfl|exact fun _ _=>rfl|exact noI|apply And.intro)
theorem sort_ok(n:Nat)(hn:n<1152921504606846976)(z:Z)(c:Nat->Nat->Int)(g:FuncId)(nf:Nat)(zf:Z)(fo:Nat->List DV)(hg:CmpOk g c n z nf zf fo)(hw:Weak n (ltC c)) :
 COk Tryz.prog 266 [.all 0,.fn g cCap] (rowP n z id :: vi nf zf fo) (fun s k=>s = .tup []/\∃ r,Inj n r/\Rise (LL (ltC c)) r 0 n/\k=rowP n z r :: vi nf zf fo):=by
 refine ji (TT:=TT) (IN:=qd []) qf qe mixed 1000 Tryz.func266 rfl (qc Tryz.func266 (by kernel_rfl) rfl) 7 (by kernel_rfl) ?_
 conv=>whnf
 refine .rel _ (stable_ok n hn z c g nf zf fo hg hw) (fun r ks' hR=>?_)
 obtain⟨rfl,r,hr,h2,rfl⟩:=hR
 conv=>whnf
 refine⟨[0,1,2],_,_,rfl,rfl,?_,?_,rfl,r,hr,h2,rfl⟩
 ·exact rfl
 ·conv=>whnf
  repeat'(first|exact ⟨⟩|exact rfl|exact qa _|exact .inr rfl|exact fun _ _=>rfl|exact noI|apply And.intro)
def eCap:List SV:=[.ptr 1 0]
def eRest(nf:Nat)(zf:Z)(fo:Nat->List DV):List KB:=[.cells 420 [.fn 264 [.ptr 2 0]],.cells 41 [.all 3],.row 9 1 nf zf fo]
def EqOk(g:FuncId)(F:Nat->List UInt8)(n:Nat)(z:Z)(nf:Nat)(zf:Z)(fo:Nat->List DV):Prop :=
 ∀ (q:Nat->Nat) (x y:Nat),x<n->y<n->COk Tryz.prog g (iV x :: iV y :: eCap) (rowP n z q :: eRest nf zf fo) (fun s k=>s = .d (.bool (decide (F x=F y)))/\k=rowP n z q :: eRest nf zf fo)
def over(K:List Nat)(p:Nat->Nat):Nat->Nat:=fun i=>if i<K.length then K.getD i 0 else p i
theorem qr1{F:Nat->List UInt8}{p:Nat->Nat}:∀ k,(∀ i,0<i->i<k->F (p i)≠F (p (i - 1)))->kept F p k=(List.range k).map p
 |0=>fun _=>rfl
 |k+1=>fun h=>by
  unfold kept
  rw[qr1 k (fun i h1 h2=>h i h1 (by omega)),List.range_succ,List.map_append]
  rw[if_pos]
  ·rfl
  ·rcases Nat.eq_zero_or_pos k with e|e
   ·exact .inl e
   ·exact .inr (h k e (by omega))
theorem over_all{p:Nat->Nat}(k:Nat):over ((List.range k).map p) p=p:=by
 funext i;unfold over
 rw[List.length_map,List.length_range]
 split
 ·rename_i h;simp[List.getD,List.getElem?_range h]
 ·rfl
theorem over_put{F:Nat->List UInt8}{p:Nat->Nat}{m:Nat}(hne:F (p m)≠F (p (m - 1))):upd (over (kept F p m) p) (kept F p m).length (p m)=over (kept F p (m+1)) p:=by
 have e:kept F p (m+1)=kept F p m++[p m]:=by
  conv=>lhs;unfold kept
  rw[if_pos (.inr hne)]
 rw[e]
 funext i;unfold upd over
 simp only[List.length_append,List.length_cons,List.length_nil]
 by_cases h1:i=(kept F p m).length
 ·rw[if_pos h1,if_pos (by omega),h1];simp[List.getD]
 ·rw[if_neg h1]
  by_cases h2:i<(kept F p m).length
  ·rw[if_pos h2,if_pos (by omega)];simp[List.getD,List.getElem?_append_left h2]
  ·rw[if_neg h2,if_neg (by omega)]
theorem kept_same{F:Nat->List UInt8}{p:Nat->Nat}{m:Nat}(h0:0<m)(he:F (p m)=F (p (m - 1))):kept F p (m+1)=kept F p m:=by
 conv=>lhs;unfold kept
 rw[if_neg]
 rintro (h|h)
 ·omega
 ·exact h he
theorem compact_ok(n:Nat)(hn:n<1152921504606846976)(z:Z)(F:Nat->List UInt8)(g:FuncId)(nf:Nat)(zf:Z)(fo:Nat->List DV)(hg:EqOk g F n z nf zf fo)(p:Nat->Nat)(hp:Inj n p) :
 COk Tryz.prog 267 [.all 0,.fn g eCap] (rowP n z p :: eRest nf zf fo) (fun s k=>((s = .all 0/\(kept F p n).length=n)\/s = .row 0 0 (kept F p n).length)/\∃ q,(∀ i,i<(kept F p n).length->q i=(kept F p n).getD i 0)/\k=rowP n z q :: eRest nf zf fo):=by
 refine ji (TT:=TT) (IN:=qd []) qf qe mixed 1000 Tryz.func267 rfl (qc Tryz.func267 (by kernel_rfl) rfl) 64 (by kernel_rfl) ?_
 conv=>whnf
 refine⟨fun h2=>?_,fun h2=>?_⟩
 ·have h2:n<2:=by
   have h:(n:Int)<2:=of_decide_eq_true h2
   omega
  have hk:kept F p n=(List.range n).map p:=qr1 n (fun i x1 x2=>by omega)
  conv=>whnf
  refine⟨[0,1,2,3],_,_,rfl,rfl,?_,?_,.inl ⟨rfl,by rw[hk];simp⟩,p,fun i hi=>?_,rfl⟩
  ·exact rfl
  ·conv=>whnf
   repeat'(first|exact ⟨⟩|exact rfl|exact qa _|exact .inr rfl|exact fun _ _=>rfl|exact noI|apply And.intro)
  ·rw [hk] at hi ⊢
   simp at hi
   simp[List.getD,List.getElem?_range hi]
 have h2:2<=n:=by
  have h:¬ (n:Int)<2:=of_decide_eq_false h2
  omega
 conv=>whnf
 refine .inv Nat (fun k=>1<=k/\k<=n/\∀ i,0<i->i<k->F (p i)≠F (p (i - 1))) (fun k=>[(5,iV k)]) (fun k=>[]) (fun k=>n - k) ⟨1,[0,1,2,3],⟨by omega,by omega,fun i h1 h2=>by omega⟩,?_⟩ ?_
 ·conv=>whnf
  repeat'(first|exact ⟨⟩|exact rfl|exact qa _|exact .inr rfl|exact fun _ _=>rfl|exact noI|apply And.intro)
 intro k hk
 obtain⟨k1,k2,k3⟩:=hk
 conv=>whnf
 refine⟨fun h3=>?_,fun h3=>?_⟩
 ·have h3:k<n:=by
   have h:(k:Int)<n:=of_decide_eq_true h3
   omega
  have e1:IntKind.i64.wrap ((k:Int) - 1)=((k - 1:Nat):Int):=by rw[qg _ (by omega)];omega
  have e2:=w64s k (by omega)
  conv=>whnf
  refine⟨by omega,?_⟩
  conv=>whnf
  rw[e1]
  refine⟨by omega,?_⟩
  conv=>whnf
  rw[Int.toNat_natCast,Int.toNat_natCast]
  refine .mem _ _ (hg _ _ _ (hp.lt k h3) (hp.lt (k - 1) (by omega))) ?_
  conv=>whnf
  refine⟨fun h4=>?_,fun h4=>?_⟩
  ·have h4:F (p k)=F (p (k - 1)):=of_decide_eq_true h4
   have hk0:kept F p (k+1)=(List.range k).map p:=by rw[kept_same k1 h4,qr1 k k3]
   conv=>whnf
   refine⟨by omega,?_⟩
   conv=>whnf
   refine .inv Nat (fun j=>1<=j/\k+j<=n/\(kept F p (k+j)).length<k+j) (fun j=>[(5,iV (kept F p (k+j)).length),(7,iV j)]) (fun j=>[(0,rowP n z (over (kept F p (k+j)) p))]) (fun j=>n - j) ⟨1,[0,1,2,3],⟨by omega,by omega,by rw[hk0];simp⟩,?_⟩ ?_
   ·rw[hk0,over_all]
    conv=>whnf
    rw[List.length_map,List.length_range]
    repeat'(first|exact ⟨⟩|exact rfl|exact qa _|exact .inr rfl|exact fun _ _=>rfl|exact noI|apply And.intro)
   intro j hj
   obtain⟨j1,j2,j3⟩:=hj
   conv=>whnf
   refine⟨fun h5=>?_,fun h5=>?_⟩
   ·have e3:IntKind.i64.wrap ((j:Int) - 1)=((j - 1:Nat):Int):=by rw[qg _ (by omega)];omega
    have e4:=w64s j (by omega)
    have h5:k+j<n:=by
     have h:(j:Int)<(((n:Int) - k).toNat:Nat):=of_decide_eq_true h5
     omega
    have r1:over (kept F p (k+j)) p (k+j)=p (k+j):=by unfold over;rw[if_neg (by omega)]
    have r2:over (kept F p (k+j)) p (k+(j - 1))=p (k+j - 1):=by unfold over;rw[if_neg (by omega),show k+(j - 1)=k+j - 1 by omega]
    conv=>whnf
    refine⟨by omega,?_⟩
    conv=>whnf
    rw[e3]
    refine⟨by omega,?_⟩
    conv=>whnf
    rw[Int.toNat_natCast,Int.toNat_natCast,Int.toNat_natCast,r1,r2]
    refine .mem _ _ (hg _ _ _ (hp.lt (k+j) (by omega)) (hp.lt (k+j - 1) (by omega))) ?_
    conv=>whnf
    refine⟨fun h6=>?_,fun h6=>?_⟩
    ·have h6:F (p (k+j))≠F (p (k+j - 1)):=by
      have h7:(!(decide (F (p (k+j))=F (p (k+j - 1)))))=true:=h6
      simpa using h7
     have r3:over (kept F p (k+j)) p (k+j)=p (k+j):=r1
     have h8:(kept F p (k+(j+1))).length=(kept F p (k+j)).length+1:=by
      show(kept F p (k+j+1)).length=_
      conv=>lhs;unfold kept
      rw[if_pos (.inr h6)];simp
     have e5:IntKind.i64.wrap (((kept F p (k+j)).length:Int)+1)=(((kept F p (k+j)).length+1:Nat):Int):=by rw[qg _ (by omega)];omega
     conv=>whnf
     refine⟨by omega,?_⟩
     conv=>whnf
     rw[Int.toNat_natCast,r1]
     refine⟨by omega,?_⟩
     conv=>whnf
     rw[e4,e5]
     refine⟨j+1,[0,1,2,3],⟨by omega,by omega,?_⟩,by omega,?_⟩
     ·rw[h8];omega
     rw[h8]
     conv=>whnf
     repeat'(first|exact ⟨⟩|exact rfl|exact qa _|exact .inr rfl|exact fun _ _=>rfl|exact noI|apply And.intro)
     intro x hx
     rw[Int.toNat_natCast]
     have h9:=qm3 (over (kept F p (k+j)) p) (kept F p (k+j)).length (p (k+j))
     rw [over_put h6] at h9
     exact congrFun h9 x
    ·have h6:F (p (k+j))=F (p (k+j - 1)):=by
      have h7:(!(decide (F (p (k+j))=F (p (k+j - 1)))))=false:=h6
      simpa using h7
     have h7:=kept_same (by omega) h6
     conv=>whnf
     rw[e4]
     refine⟨j+1,[0,1,2,3],⟨by omega,by omega,?_⟩,by omega,?_⟩
     ·show(kept F p (k+j+1)).length<k+j+1
      rw[h7];omega
     rw[show kept F p (k+(j+1))=kept F p (k+j) from h7]
     conv=>whnf
     repeat'(first|exact ⟨⟩|exact rfl|exact qa _|exact .inr rfl|exact fun _ _=>rfl|exact noI|apply And.intro)
   ·have h5:k+j=n:=by
     have h:¬ (j:Int)<(((n:Int) - k).toNat:Nat):=of_decide_eq_false h5
     omega
    rw [h5] at j3 ⊢
    conv=>whnf
    refine⟨by omega,?_⟩
    conv=>whnf
    refine⟨by omega,?_⟩
    conv=>whnf
    refine⟨by omega,?_⟩
    conv=>whnf
    rw[Int.toNat_natCast]
    refine⟨[0,1,2,3],_,_,rfl,rfl,?_,?_,.inr rfl,fun i=>if i<(kept F p n).length then (kept F p n).getD i 0 else 0,fun i hi=>if_pos hi,rfl⟩
    ·exact rfl
    ·conv=>whnf
     repeat'(first|exact ⟨⟩|exact rfl|exact qa _|exact .inr rfl|exact fun _ _=>rfl|exact noI|apply And.intro)
     intro x hx
     unfold midF over
     dsimp only
     by_cases hxk:x<(kept F p n).length
     ·rw[if_neg (by omega),if_pos hxk,if_pos hxk]
     ·rw[if_pos (by omega),if_neg hxk];rfl
  ·have h4:F (p k)≠F (p (k - 1)):=of_decide_eq_false h4
   conv=>whnf
   rw[e2]
   refine⟨k+1,[0,1,2,3],⟨by omega,by omega,fun i x1 x2=>?_⟩,by omega,?_⟩
   ·rcases Nat.lt_or_ge i k with x|x
    ·exact k3 i x1 x
    ·rw[show i=k by omega];exact h4
   conv=>whnf
   repeat'(first|exact ⟨⟩|exact rfl|exact qa _|exact .inr rfl|exact fun _ _=>rfl|exact noI|apply And.intro)
 ·have h3:k=n:=by
   have h:¬ (k:Int)<n:=of_decide_eq_false h3
   omega
  subst h3
  have hk:=qr1 k k3
  conv=>whnf
  refine⟨[0,1,2,3],_,_,rfl,rfl,?_,?_,.inl ⟨rfl,by rw[hk];simp⟩,p,fun i hi=>?_,rfl⟩
  ·exact rfl
  ·conv=>whnf
   repeat'(first|exact ⟨⟩|exact rfl|exact qa _|exact .inr rfl|exact fun _ _=>rfl|exact noI|apply And.intro)
  ·rw [hk] at hi ⊢
   simp at hi
   simp[List.getD,List.getElem?_range hi]
theorem strcmp_ok(a b:List UInt8):FnOk Tryz.prog 265 [.d (.str a),.d (.str b)] (.d (.int .i64 (Lib.compareBytes a b))):=by
 refine⟨qc Tryz.func265 (by kernel_rfl) rfl,fun M w vs _ hM hl hd=>?_⟩
 match vs,hl with
 |[v0,v1],_ =>
  have h0:=xp (hd 0 _ v0 rfl rfl)
  have h1:=xp (hd 1 _ v1 rfl rfl)
  subst h0 h1
  refine(Try.strings_Compare ⟨a.toArray⟩ ⟨b.toArray⟩ w).mono ?_
  rintro e w' ⟨rfl,rfl⟩
  exact⟨_,rfl,Step.refl _ _,.d (by simpa using Rd.int _ _)⟩
def fT(fl:List (List UInt8))(i:Nat):List UInt8:=fl[i]?.getD []
theorem cmp1_ok(fl:List (List UInt8))(z zf:Z):CmpOk 264 (fun x y=>Lib.compareBytes (fT fl x) (fT fl y)) fl.length z fl.length zf (strs fl):=by
 intro q x y hx hy
 refine ji (TT:=TT) (IN:=qd []) qf qe mixed 1000 Tryz.func264 rfl (qc Tryz.func264 (by kernel_rfl) rfl) 12 (by kernel_rfl) ?_
 conv=>whnf
 refine⟨by omega,?_⟩
 conv=>whnf
 refine⟨by omega,?_⟩
 conv=>whnf
 rw[Int.toNat_natCast,Int.toNat_natCast]
 refine .data _ (strcmp_ok _ _) rfl rfl ?_
 conv=>whnf
 refine⟨[0,1,2],_,_,rfl,rfl,?_,?_,rfl,rfl⟩
 ·exact rfl
 ·conv=>whnf
  repeat'(first|exact ⟨⟩|exact rfl|exact qa _|exact .inr rfl|exact fun _ _=>rfl|exact noI|apply And.intro)
theorem cmp2_ok(fl:List (List UInt8))(z zf:Z):EqOk 268 (fT fl) fl.length z fl.length zf (strs fl):=by
 intro q x y hx hy
 refine ji (TT:=TT) (IN:=qd [(264,Tryz.f264,3)]) qf (qv qe Tryz.func264 (by kernel_rfl) (by kernel_rfl)) mixed 1000 Tryz.func268 rfl (qc Tryz.func268 (by kernel_rfl) rfl) 8 (by kernel_rfl) ?_
 conv=>whnf
 refine⟨by omega,?_⟩
 conv=>whnf
 refine⟨by omega,?_⟩
 conv=>whnf
 rw[Int.toNat_natCast,Int.toNat_natCast]
 refine .data _ (strcmp_ok _ _) rfl rfl ?_
 conv=>whnf
 rw[show(Lib.compareBytes (fl[x]?.getD []) (fl[y]?.getD []) == 0)=decide (fT fl x=fT fl y) by
  unfold fT
  rw[Bool.eq_iff_iff,beq_iff_eq,decide_eq_true_iff]
  exact cmp_eq0 _ _]
 refine⟨[0,1,2,3],_,_,rfl,rfl,?_,?_,rfl,rfl⟩
 ·exact rfl
 ·conv=>whnf
  repeat'(first|exact ⟨⟩|exact rfl|exact qa _|exact .inr rfl|exact fun _ _=>rfl|exact noI|apply And.intro)
def vx(a:Int)(l:List RR):Int:=l.foldl (fun a r=>if r.ttl<a then r.ttl else a) a
def qd3(t:Int)(l:List RR):List (List UInt8):=(qy8 (jx t) (l.map (·.d))).take 64
def zv(l:List RR)(K:List Nat):List (List UInt8):=K.map fun i=>(l.getD i default).d
def j6(t:Int)(l:List RR):List (List UInt8):=l.map fun r=>jx t r.d
theorem jh4{F G:Nat->List UInt8}{p:Nat->Nat}:∀ n,(∀ i,i<n->F (p i)=G (p i))->kept F p n=kept G p n
 |0=>fun _=>rfl
 |n+1=>fun h=>by
  unfold kept
  rw[jh4 n (fun i hi=>h i (by omega)),h n (by omega),h (n - 1) (by omega)]
theorem build_law{t:Int}{l:List RR}{p:Nat->Nat}(hp:Inj l.length p)(hr:Rise (LL (ltF (fT (j6 t l)))) p 0 l.length):zv l (kept (fT (j6 t l)) p l.length)=qy8 (jx t) (l.map (·.d)):=by
 have hF:∀ i,i<l.length->fT (j6 t l) i=jx t ((l.map (·.d))[i]?.getD []):=fun i hi=>by
  simp[fT,j6,List.getElem?_map,List.getElem?_eq_getElem hi]
 have hxl:(l.map (·.d)).length=l.length:=by simp
 have h1:=kept_firsts (F:=jx t) (xs:=l.map (·.d)) (p:=p) (hxl ▸ hp) (by
  rw[hxl]
  intro i j hi hij hj
  have:=hr i j hi hij hj
  unfold LL ltF at this ⊢
  rw [hF _ (hp.lt i (by omega)),hF _ (hp.lt j hj)] at this
  exact this)
 have h2:=firsts_of (jx t) (l.map (·.d))
 rw[h1.uniq h2 |>.symm]
 rw[hxl,<-jh4 (F:=fT (j6 t l)) (G:=fun i=>jx t ((l.map (·.d))[i]?.getD [])) l.length (fun i hi=>hF _ (hp.lt i hi))]
 unfold zv
 apply List.map_congr_left
 intro a ha
 obtain⟨i,hi,e,_⟩:=(qp9 hp hr l.length (Nat.le_refl _)).2.1 a ha
 have:=hp.lt i hi
 rw[e]
 simp[List.getD,List.getElem?_map,List.getElem?_eq_getElem this]
theorem ji1{l:List RR}{K:List Nat}{j:Nat}(h:j<K.length):zv l (K.take (j+1))=zv l (K.take j)++[(l.getD (K.getD j 0) default).d]:=by
 have e:K.take (j+1)=K.take j++[K.getD j 0]:=by
  rw[List.take_add_one,List.getD,List.getElem?_eq_getElem h];rfl
 rw[e]
 unfold zv
 rw[List.map_append];rfl
theorem build_ok(nm:List UInt8)(t:Int)(z:Bool)(l:List RR)(h0:0<l.length)(hn:l.length<=100000):FnOk Tryz.prog 235 [.d (.str nm),.d (.int .u16 t),.d (rrsD z l)] (setV nm t (vx (l.getD 0 default).ttl l) false (qd3 t l)):=by
 refine qn (TT:=TT) (IN:=qd []) qf qe mixed 1000 Tryz.func235 rfl (qc Tryz.func235 (by kernel_rfl) rfl) rfl 79 (by kernel_rfl) ?_
 conv=>whnf
 refine⟨by omega,?_⟩
 conv=>whnf
 refine⟨⟨by omega,by omega,by show(l.length:Int) * 16<=_;omega,by omega⟩,?_⟩
 conv=>whnf
 refine⟨⟨by omega,by omega,by show(l.length:Int) * 8<=_;omega,by omega⟩,?_⟩
 conv=>whnf
 refine .inv Nat (fun i=>i<=l.length) (fun i=>[(30,iV i),(9,.all 4),(24,.any),(27,.any)]) (fun i=>[(1,.cells 49 [.d (.str nm),.d (.int .u16 t),.d (.int .u32 (vx (l.getD 0 default).ttl (l.take i))),nilS]),(2,.row 9 1 i .no (strs (j6 t (l.take i)))),(4,rowP i .no id)]) (fun i=>l.length - i) ⟨0,[0,1,2,3,4],Nat.zero_le _,?_⟩ ?_
 ·conv=>whnf
  repeat'(first|exact ⟨⟩|exact rfl|exact qa _|exact .inr rfl|exact fun _ _=>rfl|exact noI|apply And.intro)
 intro i hi
 conv=>whnf
 refine⟨fun h1=>?_,fun h1=>?_⟩
 ·have h1:i<l.length:=by
   have h:(i:Int)<l.length:=of_decide_eq_true h1
   omega
  obtain⟨r,hr⟩:∃ r,l.getD i default=r:=⟨_,rfl⟩
  conv=>whnf
  refine⟨by omega,?_⟩
  conv=>whnf
  refine .data _ (qx8 t _) rfl rfl ?_
  conv=>whnf
  refine⟨by omega,?_⟩
  conv=>whnf
  refine⟨by omega,?_⟩
  conv=>whnf
  rw[show IntKind.i64.wrap ((i:Int)+1)=((i+1:Nat):Int) by rw[qg _ (by omega)];omega]
  rw[Int.toNat_natCast,hr]
  refine⟨i+1,[0,1,7,3,9],h1,by omega,?_⟩
  have htk:l.take (i+1)=l.take i++[r]:=by rw[List.take_add_one,<-hr,List.getD,List.getElem?_eq_getElem h1];rfl
  have hmin:vx (l.getD 0 default).ttl (l.take (i+1))=(if r.ttl<vx (l.getD 0 default).ttl (l.take i) then r.ttl else vx (l.getD 0 default).ttl (l.take i)):=by
   rw[htk];unfold vx;rw[List.foldl_append];rfl
  have hfo:j6 t (l.take (i+1))=j6 t (l.take i)++[jx t r.d]:=by rw[htk];simp[j6]
  have hfl:(j6 t (l.take i)).length=i:=by simp[j6];omega
  rw[hmin,hfo]
  conv=>whnf
  repeat'(first|exact ⟨⟩|exact rfl|exact qa _|exact .inr rfl|exact fun _ _=>rfl|exact noI|apply And.intro)
  ·intro x hx
   have:=ql9 (j6 t (l.take i)) (jx t r.d) (qz [DV.str (jx t r.d)] 1) rfl x (by omega)
   rw [hfl] at this
   exact this
  ·intro x hx
   show catF i (fun i=>cel i) _ x=cel x
   unfold catF
   by_cases hxi:x<i
   ·rw[if_pos hxi]
   ·have:x=i:=by omega
    subst this
    rw[if_neg hxi,Nat.sub_self];rfl
 ·have h1:i=l.length:=by
   have h:¬ (i:Int)<l.length:=of_decide_eq_false h1
   omega
  subst h1
  rw[List.take_length]
  have hfl:(j6 t l).length=l.length:=by simp[j6]
  have hw:=ltF_weak l.length (fT (j6 t l))
  have hlt:ltC (fun x y=>Lib.compareBytes (fT (j6 t l) x) (fT (j6 t l) y))=ltF (fT (j6 t l)):=by
   funext x y
   unfold ltC ltF
   rw[Bool.eq_iff_iff,decide_eq_true_iff]
   exact cmp_lt _ _
  have hc1:=cmp1_ok (j6 t l) .no .no
  have hc2:=cmp2_ok (j6 t l) .no .no
  rw [hfl] at hc1 hc2
  have hsort:=sort_ok l.length (by omega) .no _ _ _ _ _ hc1 (by rw[hlt];exact hw)
  rw [hlt] at hsort
  conv=>whnf
  refine .rel _ (COk.frameX hsort [4,3,2] rfl rfl rfl) (fun r ks' hR=>?_)
  obtain⟨_,_,⟨rfl,p,hp,hrise,rfl⟩,rfl,hk0⟩:=hR
  have hk:ks'=[.cells 49 [.d (.str []),.d (.int .u16 0),.d (.int .u32 0),nilS],.cells 49 [.d (.str nm),.d (.int .u16 t),.d (.int .u32 (vx (l.getD 0 default).ttl l)),nilS],.row 9 1 l.length .no (strs (j6 t l)),.cells 41 [.all 2],rowP l.length .no p,.cells 420 [.fn 264 [.ptr 3 0]]]:=hk0
  clear hk0
  subst hk
  conv=>whnf
  refine .rel _ (COk.frameX (compact_ok l.length (by omega) .no _ _ _ _ _ hc2 p hp) [4,5,3,2] rfl rfl rfl) (fun r ks' hR=>?_)
  obtain⟨_,_,⟨hres,q,hq,rfl⟩,hr,hk0⟩:=hR
  have hk:ks'=[.cells 49 [.d (.str []),.d (.int .u16 0),.d (.int .u32 0),nilS],.cells 49 [.d (.str nm),.d (.int .u16 t),.d (.int .u32 (vx (l.getD 0 default).ttl l)),nilS],.row 9 1 l.length .no (strs (j6 t l)),.cells 41 [.all 2],rowP l.length .no q,.cells 420 [.fn 264 [.ptr 3 0]]]:=hk0
  clear hk0
  subst hk
  have hkl:=kept_le (fT (j6 t l)) p l.length
  have hKlt:∀ j,j<(kept (fT (j6 t l)) p l.length).length->(kept (fT (j6 t l)) p l.length).getD j 0<l.length:=fun j hj=>by
   have hs:=(qp9 hp hrise l.length (Nat.le_refl _)).2.1 _ (List.getElem_mem hj)
   obtain⟨i,hi,e,_⟩:=hs
   rw[List.getD,List.getElem?_eq_getElem hj]
   show(kept (fT (j6 t l)) p l.length)[j]<l.length
   rw[e]
   exact hp.lt i hi
  have hlaw:=build_law hp hrise
  have hpos:=kept_pos (fT (j6 t l)) p l.length h0
  generalize hK:kept (fT (j6 t l)) p l.length=K at hres hq hkl hKlt hlaw hpos
  have hlaw2:zv l (K.take 64)=qd3 t l:=by unfold qd3;rw[<-hlaw];unfold zv;rw[List.map_take]
  have hr2:(r = .all 4/\K.length=l.length)\/r = .row 4 0 K.length:=by
   rcases hres with⟨e,h⟩|e
   ·subst e;exact .inl ⟨hr,h⟩
   ·subst e;exact .inr hr
  clear hr hres hc1 hc2 hsort
  rcases hr2 with⟨rfl,hres⟩|rfl
  ·conv=>whnf
   have em:(if (64:Int)<(l.length:Int) then (64:Int) else (l.length:Int))=((min K.length 64:Nat):Int):=by split <;> omega
   rw[em]
   refine⟨by omega,?_⟩
   conv=>whnf
   refine .nilC 1 3 9 1 (strs []) _ _ _ _ rfl rfl ?_
   conv=>whnf
   refine .inv Nat (fun j=>j<=min K.length 64) (fun j=>[(66,iV j)]) (fun j=>[(1,.cells 49 [.d (.str nm),.d (.int .u16 t),.d (.int .u32 (vx (l.getD 0 default).ttl l)),.all 6]),(6,.row 9 1 j .iff (strs (zv l (K.take j))))]) (fun j=>min K.length 64 - j) ⟨0,[0,1,2,3,4,5,6],Nat.zero_le _,?_⟩ ?_
   ·conv=>whnf
    repeat'(first|exact ⟨⟩|exact rfl|exact qa _|exact .inr rfl|exact fun _ _=>rfl|exact noI|apply And.intro)
   intro j hj
   conv=>whnf
   refine⟨fun h1=>?_,fun h1=>?_⟩
   ·have h1:j<min K.length 64:=by
     have h:(j:Int)<((min K.length 64:Nat):Int):=of_decide_eq_true h1
     omega
    have hqj:=hq j (by omega)
    have hlt:=hKlt j (by omega)
    rw [<-hqj] at hlt
    conv=>whnf
    refine⟨by omega,?_⟩
    conv=>whnf
    first
     |rw[show 0+Int.toNat 0+(j:Int).toNat=j by simp]
     |rw[show Int.toNat 0+(j:Int).toNat=j by simp]
    generalize q j=v at hlt hqj ⊢
    refine⟨by omega,?_⟩
    conv=>whnf
    refine⟨by omega,?_⟩
    conv=>whnf
    rw[show IntKind.i64.wrap ((j:Int)+1)=((j+1:Nat):Int) by rw[qg _ (by omega)];omega]
    rw[Int.toNat_natCast,hqj]
    have hdt:=ji1 (l:=l) (K:=K) (j:=j) (by omega)
    have hdl:(zv l (K.take j)).length=j:=by unfold zv;simp;omega
    refine⟨j+1,[0,1,2,3,4,5,8],h1,by omega,?_⟩
    rw[hdt]
    conv=>whnf
    repeat'(first|exact ⟨⟩|exact rfl|exact qa _|exact .inr rfl|exact fun _ _=>rfl|exact noI|apply And.intro)
    intro x hx
    have:=ql9 (zv l (K.take j)) ((l.getD (K.getD j 0) default).d) (qz [DV.str (l.getD (K.getD j 0) default).d] 1) rfl x (by omega)
    rw [hdl] at this
    exact this
   ·have h1:j=min K.length 64:=by
     have h:¬ (j:Int)<((min K.length 64:Nat):Int):=of_decide_eq_false h1
     omega
    have htk:K.take j=K.take 64:=by
     rw[h1]
     rcases Nat.le_total K.length 64 with x|x
     ·rw[Nat.min_eq_left x,List.take_length,List.take_of_length_le x]
     ·rw[Nat.min_eq_right x]
    rw[htk,hlaw2]
    have hbl:(qd3 t l).length=j:=by rw[<-hlaw2];unfold zv;simp;omega
    have hj0:0<j:=by omega
    rw [<-hbl] at hj0 ⊢
    conv=>whnf
    repeat'(first|exact ⟨⟩|exact rfl|exact .inr rfl|exact .inl rfl|exact fun _ _=>rfl|exact noI|apply And.intro)
    ·generalize (qd3 t l).length=k at hj0
     cases k with
     |zero=>omega
     |succ k=>rfl
    try exact .inr rfl
    try exact fun _ _=>rfl
  ·conv=>whnf
   have em:(if (64:Int)<(K.length:Int) then (64:Int) else (K.length:Int))=((min K.length 64:Nat):Int):=by split <;> omega
   rw[em]
   refine⟨by omega,?_⟩
   conv=>whnf
   refine .nilC 1 3 9 1 (strs []) _ _ _ _ rfl rfl ?_
   conv=>whnf
   refine .inv Nat (fun j=>j<=min K.length 64) (fun j=>[(66,iV j)]) (fun j=>[(1,.cells 49 [.d (.str nm),.d (.int .u16 t),.d (.int .u32 (vx (l.getD 0 default).ttl l)),.all 6]),(6,.row 9 1 j .iff (strs (zv l (K.take j))))]) (fun j=>min K.length 64 - j) ⟨0,[0,1,2,3,4,5,6],Nat.zero_le _,?_⟩ ?_
   ·conv=>whnf
    repeat'(first|exact ⟨⟩|exact rfl|exact qa _|exact .inr rfl|exact fun _ _=>rfl|exact noI|apply And.intro)
   intro j hj
   conv=>whnf
   refine⟨fun h1=>?_,fun h1=>?_⟩
   ·have h1:j<min K.length 64:=by
     have h:(j:Int)<((min K.length 64:Nat):Int):=of_decide_eq_true h1
     omega
    have hqj:=hq j (by omega)
    have hlt:=hKlt j (by omega)
    rw [<-hqj] at hlt
    conv=>whnf
    refine⟨by omega,?_⟩
    conv=>whnf
    first
     |rw[show 0+Int.toNat 0+(j:Int).toNat=j by simp]
     |rw[show Int.toNat 0+(j:Int).toNat=j by simp]
    generalize q j=v at hlt hqj ⊢
    refine⟨by omega,?_⟩
    conv=>whnf
    refine⟨by omega,?_⟩
    conv=>whnf
    rw[show IntKind.i64.wrap ((j:Int)+1)=((j+1:Nat):Int) by rw[qg _ (by omega)];omega]
    rw[Int.toNat_natCast,hqj]
    have hdt:=ji1 (l:=l) (K:=K) (j:=j) (by omega)
    have hdl:(zv l (K.take j)).length=j:=by unfold zv;simp;omega
    refine⟨j+1,[0,1,2,3,4,5,8],h1,by omega,?_⟩
    rw[hdt]
    conv=>whnf
    repeat'(first|exact ⟨⟩|exact rfl|exact qa _|exact .inr rfl|exact fun _ _=>rfl|exact noI|apply And.intro)
    intro x hx
    have:=ql9 (zv l (K.take j)) ((l.getD (K.getD j 0) default).d) (qz [DV.str (l.getD (K.getD j 0) default).d] 1) rfl x (by omega)
    rw [hdl] at this
    exact this
   ·have h1:j=min K.length 64:=by
     have h:¬ (j:Int)<((min K.length 64:Nat):Int):=of_decide_eq_false h1
     omega
    have htk:K.take j=K.take 64:=by
     rw[h1]
     rcases Nat.le_total K.length 64 with x|x
     ·rw[Nat.min_eq_left x,List.take_length,List.take_of_length_le x]
     ·rw[Nat.min_eq_right x]
    rw[htk,hlaw2]
    have hbl:(qd3 t l).length=j:=by rw[<-hlaw2];unfold zv;simp;omega
    have hj0:0<j:=by omega
    rw [<-hbl] at hj0 ⊢
    conv=>whnf
    repeat'(first|exact ⟨⟩|exact rfl|exact .inr rfl|exact .inl rfl|exact fun _ _=>rfl|exact noI|apply And.intro)
    ·generalize (qd3 t l).length=k at hj0
     cases k with
     |zero=>omega
     |succ k=>rfl
    try exact .inr rfl
    try exact fun _ _=>rfl
def yu(r:RR):Bool:=r.cl == 1 && r.check
def rightV(z:Bool)(l:List RR):SV:=.fn 263 [.dptr [rrsD z l] 0]
theorem sright_ok(z:Bool)(l:List RR):FnOk Tryz.prog 234 [.d (rrsD z l)] (rightV z l):=by
 refine COk.clos (t:=81) ?_
 refine ji (TT:=TT) (IN:=qd []) qf qe mixed 1000 Tryz.func234 rfl (qc Tryz.func234 (by kernel_rfl) rfl) 3 (by kernel_rfl) ?_
 conv=>whnf
 refine⟨[0],.fn 263 [.ptr 0 0],[.cells 81 [.d (rrsD z l)]],rfl,rfl,rfl,?_,rfl,rfl⟩
 repeat'(first|exact ⟨⟩|exact rfl|exact fun _=>Iff.rfl|exact fun _ _=>rfl|exact renM_ent rfl _|apply And.intro)
def rrs(l:List RR):Nat->List DV:=fun i=>(l.getD i default).enc
theorem collect_ok(z:Bool)(l:List RR)(hn:l.length<=100000):FnOk Tryz.prog 233 [rightV z l] (.d (rrsD (l.filter yu).isEmpty (l.filter yu))):=by
 refine qn (TT:=TT) (IN:=qd [(262,Tryz.f262,2),(263,Tryz.f263,2)]) qf (qv (qv qe Tryz.func263 (by kernel_rfl) (by kernel_rfl)) Tryz.func262 (by kernel_rfl) (by kernel_rfl)) mixed 1000 Tryz.func233 rfl (qc Tryz.func233 (by kernel_rfl) rfl) rfl 4 (by kernel_rfl) ?_
 conv=>whnf
 refine .nilC 0 0 179 5 (rrs []) _ _ _ _ rfl rfl ?_
 conv=>whnf
 refine .inv Nat (fun i=>i<=l.length) (fun i=>[(7,iV i)]) (fun i=>[(2,.row 179 5 ((l.take i).filter yu).length .iff (rrs ((l.take i).filter yu)))]) (fun i=>l.length - i) ⟨0,[0,1,2],Nat.zero_le _,?_⟩ ?_
 ·conv=>whnf
  repeat'(first|exact ⟨⟩|exact rfl|exact qa _|exact .inr rfl|exact fun _ _=>rfl|exact noI|apply And.intro)
 intro i hi
 conv=>whnf
 refine⟨fun h1=>?_,fun h1=>?_⟩
 ·have h1:i<l.length:=by
   have h:(i:Int)<l.length:=of_decide_eq_true h1
   omega
  obtain⟨r,hr⟩:∃ r,l.getD i default=r:=⟨_,rfl⟩
  have htk:l.take (i+1)=l.take i++[r]:=by rw[List.take_add_one,<-hr,List.getD,List.getElem?_eq_getElem h1];rfl
  have hw1:=w64s i (by omega)
  conv=>whnf
  refine⟨by omega,?_⟩
  conv=>whnf
  rw[Int.toNat_natCast,hr]
  refine⟨fun h2=>?_,fun h2=>?_⟩
  ·have hb:yu r=false:=by unfold yu;rw[show(r.cl == 1)=false by simpa using h2];rfl
   have hf:(l.take (i+1)).filter yu=(l.take i).filter yu:=by rw[htk,List.filter_append];simp[hb]
   conv=>whnf
   rw[hw1]
   refine⟨i+1,[0,1,2],h1,by omega,?_⟩
   rw[hf]
   conv=>whnf
   repeat'(first|exact ⟨⟩|exact rfl|exact qa _|exact .inr rfl|exact fun _ _=>rfl|exact noI|apply And.intro)
  ·have hcl:(r.cl == 1)=true:=by simpa using h2
   conv=>whnf
   refine oD (qg0 r) rfl rfl ?_
   conv=>whnf
   cases hck:r.check with
   |false =>
    have hb:yu r=false:=by unfold yu;rw[hck,Bool.and_false]
    have hf:(l.take (i+1)).filter yu=(l.take i).filter yu:=by rw[htk,List.filter_append];simp[hb]
    refine brT rfl ?_
    conv=>whnf
    rw[hw1]
    refine⟨i+1,[0,1,2],h1,by omega,?_⟩
    rw[hf]
    conv=>whnf
    repeat'(first|exact ⟨⟩|exact rfl|exact qa _|exact .inr rfl|exact fun _ _=>rfl|exact noI|apply And.intro)
   |true =>
    have hb:yu r=true:=by unfold yu;rw[hck,hcl];rfl
    have hf:(l.take (i+1)).filter yu=(l.take i).filter yu++[r]:=by rw[htk,List.filter_append];simp[hb]
    have hll:((l.take i).filter yu).length<=100000:=Nat.le_trans (List.length_filter_le _ _) (by simp;omega)
    refine brF rfl ?_
    conv=>whnf
    refine⟨by omega,?_⟩
    conv=>whnf
    rw[hw1]
    refine⟨i+1,[0,1,6],h1,by omega,?_⟩
    rw[hf]
    conv=>whnf
    repeat'(first|exact ⟨⟩|exact rfl|exact qa _|exact .inr rfl|exact fun _ _=>rfl|exact noI|apply And.intro)
    ·rw[List.length_append];rfl
    ·exact fun x hx=>qj0 _ r x hx
 ·have h1:i=l.length:=by
   have h:¬ (i:Int)<l.length:=of_decide_eq_false h1
   omega
  subst h1
  rw[List.take_length]
  conv=>whnf
  refine⟨?_,rfl,.inr rfl,fun _ _=>rfl⟩
  cases l.filter yu <;> rfl
structure St where
 nm:List UInt8
 ty:Int
 ttl:Int
 z:Bool
 data:List (List UInt8)
def St.no:St:=⟨[],0,0,true,[]⟩
instance:Inhabited St:=⟨St.no⟩
def St.V(s:St):SV:=setV s.nm s.ty s.ttl s.z s.data
def ye(nm:List UInt8)(t:Int)(r:RR):Bool:=r.ty == t && (r.nm.length == nm.length && fold r.nm == fold nm)
def pickR(nm:List UInt8)(t:Int)(l:List RR):List RR:=(l.filter (ye nm t)).filter yu
def buildS(nm:List UInt8)(t:Int)(l:List RR):St:=⟨nm,t,vx (l.getD 0 default).ttl l,false,qd3 t l⟩
def vg(nm:List UInt8)(t:Int)(l:List RR):St × Int:=if qh nm then (if (pickR nm t l).isEmpty then (St.no,3) else (buildS nm t (pickR nm t l),0)) else (St.no,3)
theorem find_ok(nm:List UInt8)(t:Int)(z:Bool)(l:List RR)(hn:l.length<=100000)(hnm:nm.length<=100000)(hl:∀ r ∈ l,r.nm.length<=100000):FnOk Tryz.prog 191 [.d (.str nm),.d (.int .u16 t),.d (rrsD z l)] (.tup [(vg nm t l).1.V,.d (.int .i64 (vg nm t l).2)]):=by
 refine qn (TT:=TT) (IN:=qd [(232,Tryz.f232,4)]) qf (qv qe Tryz.func232 (by kernel_rfl) (by kernel_rfl)) mixed 1000 Tryz.func191 rfl (qc Tryz.func191 (by kernel_rfl) rfl) rfl 42 (by kernel_rfl) ?_
 conv=>whnf
 refine oD (j5 nm) rfl rfl ?_
 by_cases hnn:qh nm
 ·rw[if_pos hnn]
  have hsp:vg nm t l=if (pickR nm t l).isEmpty then (St.no,3) else (buildS nm t (pickR nm t l),0):=if_pos hnn
  rw[hsp]
  conv=>whnf
  refine brF rfl ?_
  conv=>whnf
  refine oD (xo nm (by omega)) rfl rfl ?_
  conv=>whnf
  refine .nilT 10 179 5 (rrs []) _ _ rfl ?_
  conv=>whnf
  refine .inv Nat (fun i=>i<=l.length) (fun i=>[(22,iV i),(10,.all 4)]) (fun i=>[(4,.row 179 5 ((l.take i).filter (ye nm t)).length .iff (rrs ((l.take i).filter (ye nm t))))]) (fun i=>l.length - i) ⟨0,[0,1,2,3,4],Nat.zero_le _,?_⟩ ?_
  ·conv=>whnf
   repeat'(first|exact ⟨⟩|exact rfl|exact qa _|exact .inr rfl|exact fun _ _=>rfl|exact noI|apply And.intro)
  intro i hi
  conv=>whnf
  refine⟨fun h1=>?_,fun h1=>?_⟩
  ·have h1:i<l.length:=by
    have h:(i:Int)<l.length:=of_decide_eq_true h1
    omega
   obtain⟨r,hr⟩:∃ r,l.getD i default=r:=⟨_,rfl⟩
   have hrl:l[i]? = some r:=by rw[<-hr,List.getD,List.getElem?_eq_getElem h1];rfl
   have hrn:=hl r (List.mem_of_getElem? hrl)
   have htk:l.take (i+1)=l.take i++[r]:=by rw[List.take_add_one,hrl];rfl
   have hw1:=w64s i (by omega)
   conv=>whnf
   refine⟨by omega,?_⟩
   conv=>whnf
   rw[Int.toNat_natCast,hr]
   refine⟨fun h2=>?_,fun h2=>?_⟩
   ·conv=>whnf
    refine⟨fun h3=>?_,fun h3=>?_⟩
    ·conv=>whnf
     refine .data _ (xo r.nm (by omega)) rfl rfl ?_
     conv=>whnf
     refine⟨fun h4=>?_,fun h4=>?_⟩
     ·have hb:ye nm t r=true:=by
       unfold ye
       rw [lenEq] at h3;rw [h2,h3,h4];rfl
      have hf:(l.take (i+1)).filter (ye nm t)=(l.take i).filter (ye nm t)++[r]:=by rw[htk,List.filter_append];simp[hb]
      have hll:((l.take i).filter (ye nm t)).length<=100000:=Nat.le_trans (List.length_filter_le _ _) (by simp;omega)
      conv=>whnf
      refine⟨by omega,?_⟩
      conv=>whnf
      rw[hw1]
      refine⟨i+1,[0,1,2,3,8],h1,by omega,?_⟩
      rw[hf]
      conv=>whnf
      repeat'(first|exact ⟨⟩|exact rfl|exact qa _|exact .inr rfl|exact fun _ _=>rfl|exact noI|apply And.intro)
      ·rw[List.length_append];rfl
      ·exact fun x hx=>qj0 _ r x hx
     ·have hb:ye nm t r=false:=by
       unfold ye
       rw[h4,Bool.and_false,Bool.and_false]
      have hf:(l.take (i+1)).filter (ye nm t)=(l.take i).filter (ye nm t):=by rw[htk,List.filter_append];simp[hb]
      conv=>whnf
      repeat(first|(refine brF rfl ?_;conv=>whnf))
      rw[hw1]
      refine⟨i+1,[0,1,2,3,4],h1,by omega,?_⟩
      rw[hf]
      conv=>whnf
      repeat'(first|exact ⟨⟩|exact rfl|exact qa _|exact .inr rfl|exact fun _ _=>rfl|exact noI|apply And.intro)
    ·have hb:ye nm t r=false:=by
      unfold ye
      rw [lenEq] at h3;rw [h3,Bool.false_and,Bool.and_false]
     have hf:(l.take (i+1)).filter (ye nm t)=(l.take i).filter (ye nm t):=by rw[htk,List.filter_append];simp[hb]
     conv=>whnf
     repeat(first|(refine brF rfl ?_;conv=>whnf))
     rw[hw1]
     refine⟨i+1,[0,1,2,3,4],h1,by omega,?_⟩
     rw[hf]
     conv=>whnf
     repeat'(first|exact ⟨⟩|exact rfl|exact qa _|exact .inr rfl|exact fun _ _=>rfl|exact noI|apply And.intro)
   ·have hb:ye nm t r=false:=by
     unfold ye
     rw[h2,Bool.false_and]
    have hf:(l.take (i+1)).filter (ye nm t)=(l.take i).filter (ye nm t):=by rw[htk,List.filter_append];simp[hb]
    conv=>whnf
    repeat(first|(refine brF rfl ?_;conv=>whnf))
    rw[hw1]
    refine⟨i+1,[0,1,2,3,4],h1,by omega,?_⟩
    rw[hf]
    conv=>whnf
    repeat'(first|exact ⟨⟩|exact rfl|exact qa _|exact .inr rfl|exact fun _ _=>rfl|exact noI|apply And.intro)
  ·have h1:i=l.length:=by
    have h:¬ (i:Int)<l.length:=of_decide_eq_false h1
    omega
   subst h1
   rw[List.take_length]
   have hfl:(l.filter (ye nm t)).length<=100000:=Nat.le_trans (List.length_filter_le _ _) hn
   have hpl:(pickR nm t l).length<=100000:=Nat.le_trans (List.length_filter_le _ _) hfl
   conv=>whnf
   refine .one (.frz _ _ [4] (sright_ok (Nat.beq (l.filter (ye nm t)).length 0) (l.filter (ye nm t))) ?_ rfl rfl ?_)
   ·conv=>whnf
    exact⟨rfl,rfl⟩
   conv=>whnf
   refine oD (collect_ok _ (l.filter (ye nm t)) hfl) rfl rfl ?_
   rw[show(l.filter (ye nm t)).filter yu=pickR nm t l from rfl]
   generalize pickR nm t l=m at hpl ⊢
   cases m with
   |nil =>
    conv=>whnf
    refine brT rfl ?_
    conv=>whnf
    repeat'(first|exact ⟨⟩|exact rfl|exact .inr rfl|exact .inl rfl|exact fun _ _=>rfl|exact noI|apply And.intro)
   |cons r m =>
    conv=>whnf
    refine brF rfl ?_
    conv=>whnf
    refine oD (build_ok nm t false (r :: m) (by simp) hpl) rfl rfl ?_
    conv=>whnf
    repeat'(first|exact ⟨⟩|exact rfl|exact .inr rfl|exact .inl rfl|exact fun _ _=>rfl|exact noI|apply And.intro)
 ·rw[if_neg hnn]
  have hsp:vg nm t l=(St.no,3):=if_neg hnn
  rw[hsp]
  conv=>whnf
  refine brT rfl ?_
  conv=>whnf
  repeat'(first|exact ⟨⟩|exact rfl|exact .inr rfl|exact .inl rfl|exact fun _ _=>rfl|exact noI|apply And.intro)
end Go.Proofs.YtiiafibkblpbcaaGreat
