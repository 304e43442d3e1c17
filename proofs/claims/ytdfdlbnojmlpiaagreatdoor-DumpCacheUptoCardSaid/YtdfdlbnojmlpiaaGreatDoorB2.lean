/-
  dump.Check. Conditions: none. hardtackref02.SameTexts, hardtackref13.Same, hardtackref14.SameFound, Same: of what a cache holds. Conditions: lengths. strings.Builder at the head of a block of any type: WriteString, WriteByte, String. Conditions: lengths. strconv.FormatInt, base 10, of numbers that are not negative. Conditions: the listed variables (VOk). dump.writer: data. Conditions: lengths. dump.writer: words, held. Conditions: numbers within their types; lengths. dump.Text. Conditions: numbers within their types; lengths. strings.Builder.String of a builder that has written nothing, at the head of a block of another type. Conditions: none. strings.Cut at one byte. Condition: length. strings.Index of one byte; the listed errors. Conditions: the listed variables (VOk). strconv.ParseUint, base 10, at 64 bits. Conditions: the listed variables (VOk); length. Rows that are filled from their beginning. Plain lemmas. The lines of a dump: what is told is read, what is read is told. Plain lemmas. Whole things: what is told is read, what is read is told. Plain lemmas. strings.Split at a blank. Condition: length. dump.reader: line, num, name, data. Conditions: the listed variables (VOk); lengths. dump.reader.data. No conditions. dump.Text. Conditions: numbers within their types; lengths.
-/
import Derived.Lib.ItoaMem
import Derived.Lib.Bytealg
import Derived.Lib.ParseIntBCases
import Derived.Test.YtdfdlbnojmlpiaaGreatDoorB1
import Derived.Test.YtdfdlbnojmlpiaaGreatDoorM4
set_option linter.unusedVariables false
set_option linter.unusedSimpArgs false
namespace Go.Proofs.YtdfdlbnojmlpiaaGreatDoor
open Go Go.Eng
set_option maxRecDepth 100000
structure Held where
 nm:List UInt8
 ty:Int
 ttl:Int
 z:Bool
 data:List (List UInt8)
 rank:Int
 no:Bool
 name:Bool
 til:Int
def Held.enc(h:Held):List DV:=[.str h.nm,.int .u16 h.ty,.int .u32 h.ttl,.sl h.z h.data.length 1 (strs h.data),.int .u8 h.rank,.bool h.no,.bool h.name,.int .i64 h.til]
def Held.V(h:Held):SV:=.agg [.d (.str h.nm),.d (.int .u16 h.ty),.d (.int .u32 h.ttl),.d (.sl h.z h.data.length 1 (strs h.data)),.d (.int .u8 h.rank),.d (.bool h.no),.d (.bool h.name),.d (.int .i64 h.til)]
instance:Inhabited Held:=⟨⟨[],0,0,true,[],0,false,false,0⟩⟩
def Held.ok(h:Held):Bool:=decide (0≤h.til∧h.til≤4611686018428436480) &&
 if h.no=false then decide (h.name=false∧1≤h.rank∧h.rank≤4) && scheck h.nm h.ty h.ttl h.data
 else decide (1≤h.ttl∧h.data.length=0∧h.rank=4∧h.name=decide (h.ty=0)) && decide (isName h.nm)
theorem Held.ok_til{h:Held}(h1:¬ (0≤h.til∧h.til≤4611686018428436480)):h.ok=false:=by
 unfold Held.ok
 rw[decide_eq_false h1,Bool.false_and]
theorem Held.ok_set{h:Held}(h1:0≤h.til∧h.til≤4611686018428436480)(hno:h.no=false):h.ok=(decide (h.name=false∧1≤h.rank∧h.rank≤4) && scheck h.nm h.ty h.ttl h.data):=by
 unfold Held.ok
 rw[decide_eq_true h1,Bool.true_and,if_pos hno]
theorem Held.ok_no{h:Held}(h1:0≤h.til∧h.til≤4611686018428436480)(hno:h.no=true):h.ok=(decide (1≤h.ttl∧h.data.length=0∧h.rank=4∧h.name=decide (h.ty=0)) && decide (isName h.nm)):=by
 unfold Held.ok
 rw[decide_eq_true h1,Bool.true_and,if_neg (by rw[hno];decide)]
set_option maxHeartbeats 4000000 in
theorem dcheck_ok(h:Held):FnOk Tryz.prog 39 [h.V] (.d (.int .i64 (errno h.ok))):=by
 refine fnOk_of_run (TT:=TT) (IN:=lookI []) TT_ok INok_nil mixed 1000 Tryz.func39 rfl (enters Tryz.func39 (by kernel_rfl) rfl) rfl 60 (by kernel_rfl) ?_
 conv=>whnf
 by_cases h1:h.til<0
 ·rw[Held.ok_til (by omega)]
  refine brT (decide_eq_true h1) ?_
  conv=>whnf
  repeat(first|(refine brF rfl ?_;conv=>whnf)|(refine brT rfl ?_;conv=>whnf))
  repeat'(first|exact ⟨⟩|exact rfl|exact fun _=>Iff.rfl|exact fun _ _=>rfl|exact renM_ent rfl _|apply And.intro)
 refine brF (decide_eq_false h1) ?_
 conv=>whnf
 by_cases h2:h.til > 4611686018428436480
 ·rw[Held.ok_til (by omega)]
  refine brT (decide_eq_true h2) ?_
  conv=>whnf
  repeat'(first|exact ⟨⟩|exact rfl|exact fun _=>Iff.rfl|exact fun _ _=>rfl|exact renM_ent rfl _|apply And.intro)
 refine brF (decide_eq_false h2) ?_
 have h12:0≤h.til∧h.til≤4611686018428436480:=by omega
 conv=>whnf
 cases hno:h.no with
 |false =>
  rw[Held.ok_set h12 hno]
  conv=>whnf
  repeat(first|(refine brF rfl ?_;conv=>whnf)|(refine brT rfl ?_;conv=>whnf))
  cases hnm:h.name with
  |true =>
   have e:decide (true=false∧1≤h.rank∧h.rank≤4)=false:=decide_eq_false (by simp)
   rw[e,Bool.false_and]
   conv=>whnf
   repeat(first|(refine brF rfl ?_;conv=>whnf)|(refine brT rfl ?_;conv=>whnf))
   repeat'(first|exact ⟨⟩|exact rfl|exact fun _=>Iff.rfl|exact fun _ _=>rfl|exact renM_ent rfl _|apply And.intro)
  |false =>
   conv=>whnf
   repeat(first|(refine brF rfl ?_;conv=>whnf)|(refine brT rfl ?_;conv=>whnf))
   by_cases h3:h.rank<1
   ·have e:decide (false=false∧1≤h.rank∧h.rank≤4)=false:=decide_eq_false (by omega)
    rw[e,Bool.false_and]
    refine brT (decide_eq_true h3) ?_
    conv=>whnf
    repeat'(first|exact ⟨⟩|exact rfl|exact fun _=>Iff.rfl|exact fun _ _=>rfl|exact renM_ent rfl _|apply And.intro)
   refine brF (decide_eq_false h3) ?_
   conv=>whnf
   by_cases h4:h.rank > 4
   ·have e:decide (false=false∧1≤h.rank∧h.rank≤4)=false:=decide_eq_false (by omega)
    rw[e,Bool.false_and]
    refine brT (decide_eq_true h4) ?_
    conv=>whnf
    repeat'(first|exact ⟨⟩|exact rfl|exact fun _=>Iff.rfl|exact fun _ _=>rfl|exact renM_ent rfl _|apply And.intro)
   have e:decide (false=false∧1≤h.rank∧h.rank≤4)=true:=decide_eq_true ⟨rfl,by omega,by omega⟩
   rw[e,Bool.true_and]
   refine brF (decide_eq_false h4) ?_
   conv=>whnf
   refine .one (.data _ (scheck_ok h.nm h.ty h.ttl h.z h.data) rfl rfl ?_)
   conv=>whnf
   repeat'(first|exact ⟨⟩|exact rfl|exact fun _=>Iff.rfl|exact fun _ _=>rfl|exact renM_ent rfl _|apply And.intro)
 |true =>
  rw[Held.ok_no h12 hno]
  conv=>whnf
  repeat(first|(refine brF rfl ?_;conv=>whnf)|(refine brT rfl ?_;conv=>whnf))
  by_cases h3:h.ttl<1
  ·have e:decide (1≤h.ttl∧h.data.length=0∧h.rank=4∧h.name=decide (h.ty=0))=false:=decide_eq_false (by omega)
   rw[e,Bool.false_and]
   refine brT (decide_eq_true h3) ?_
   conv=>whnf
   repeat(first|(refine brF rfl ?_;conv=>whnf)|(refine brT rfl ?_;conv=>whnf))
   repeat'(first|exact ⟨⟩|exact rfl|exact fun _=>Iff.rfl|exact fun _ _=>rfl|exact renM_ent rfl _|apply And.intro)
  refine brF (decide_eq_false h3) ?_
  conv=>whnf
  by_cases h4:h.data.length > 0
  ·have e:decide (1≤h.ttl∧h.data.length=0∧h.rank=4∧h.name=decide (h.ty=0))=false:=decide_eq_false (by omega)
   rw[e,Bool.false_and]
   refine brT (decide_eq_true (by omega)) ?_
   conv=>whnf
   repeat(first|(refine brF rfl ?_;conv=>whnf)|(refine brT rfl ?_;conv=>whnf))
   repeat'(first|exact ⟨⟩|exact rfl|exact fun _=>Iff.rfl|exact fun _ _=>rfl|exact renM_ent rfl _|apply And.intro)
  refine brF (decide_eq_false (by omega)) ?_
  conv=>whnf
  by_cases h5:h.rank=4
  case neg =>
   have e:decide (1≤h.ttl∧h.data.length=0∧h.rank=4∧h.name=decide (h.ty=0))=false:=decide_eq_false (fun h=>h5 h.2.2.1)
   rw[e,Bool.false_and]
   refine brT (by simpa using h5) ?_
   conv=>whnf
   repeat(first|(refine brF rfl ?_;conv=>whnf)|(refine brT rfl ?_;conv=>whnf))
   repeat'(first|exact ⟨⟩|exact rfl|exact fun _=>Iff.rfl|exact fun _ _=>rfl|exact renM_ent rfl _|apply And.intro)
  refine brF (by simpa using h5) ?_
  conv=>whnf
  by_cases h6:h.name=decide (h.ty=0)
  case neg =>
   have e:decide (1≤h.ttl∧h.data.length=0∧h.rank=4∧h.name=decide (h.ty=0))=false:=decide_eq_false (fun h=>h6 h.2.2.2)
   rw[e,Bool.false_and]
   refine brT (by by_cases h7:h.ty=0 <;> cases hh:h.name <;> simp_all) ?_
   conv=>whnf
   repeat'(first|exact ⟨⟩|exact rfl|exact fun _=>Iff.rfl|exact fun _ _=>rfl|exact renM_ent rfl _|apply And.intro)
  have e:decide (1≤h.ttl∧h.data.length=0∧h.rank=4∧h.name=decide (h.ty=0))=true:=decide_eq_true ⟨by omega,by omega,h5,h6⟩
  rw[e,Bool.true_and]
  refine brF (by by_cases h7:h.ty=0 <;> cases hh:h.name <;> simp_all) ?_
  conv=>whnf
  refine .one (.data _ (check_ok h.nm) rfl rfl ?_)
  by_cases h7:isName h.nm
  ·rw[if_pos h7,decide_eq_true h7]
   conv=>whnf
   repeat'(first|exact ⟨⟩|exact rfl|exact fun _=>Iff.rfl|exact fun _ _=>rfl|exact renM_ent rfl _|apply And.intro)
  ·rw[if_neg h7,decide_eq_false h7]
   conv=>whnf
   repeat'(first|exact ⟨⟩|exact rfl|exact fun _=>Iff.rfl|exact fun _ _=>rfl|exact renM_ent rfl _|apply And.intro)
end Go.Proofs.YtdfdlbnojmlpiaaGreatDoor
namespace Go.Proofs.YtdfdlbnojmlpiaaGreatDoor
open Go Go.Eng
set_option maxRecDepth 100000
theorem dteq_len{a b:List (List UInt8)}(h:a.length≠b.length):(a == b)=false:=by
 cases e:a == b
 ·rfl
 ·exact absurd (congrArg List.length (eq_of_beq e)) h
set_option maxHeartbeats 4000000 in
theorem d2same_ok(y z:Bool)(a b:List (List UInt8))(ha:a.length<4611686018427387904)(hb:b.length<4611686018427387904):FnOk Tryz.prog 158 [.d (.sl y a.length 1 (strs a)),.d (.sl z b.length 1 (strs b))] (.d (.bool (a == b))):=by
 refine fnOk_of_run (TT:=TT) (IN:=lookI []) TT_ok INok_nil mixed 1000 Tryz.func158 rfl (enters Tryz.func158 (by kernel_rfl) rfl) rfl 24 (by kernel_rfl) ?_
 conv=>whnf
 refine⟨fun h1=>?_,fun h1=>?_⟩
 ·have h:a.length≠b.length:=by intro e;rw [e] at h1;simp at h1
  rw[dteq_len h]
  conv=>whnf
  first|done|exact rfl
 have hl:a.length=b.length:=by simp at h1;omega
 conv=>whnf
 refine .inv Nat (fun i=>i≤a.length∧(a.drop i == b.drop i)=(a == b)) (fun i=>[(13,.d (.int .i64 i))]) (fun _=>[]) (fun i=>a.length - i) ⟨0,[],⟨Nat.zero_le _,rfl⟩,?_⟩ ?_
 ·conv=>whnf
  repeat'(first|exact ⟨⟩|exact rfl|exact fun _=>Iff.rfl|exact fun _ _=>rfl|exact renM_ent rfl _|apply And.intro)
 rintro i ⟨hi,hrest⟩
 conv=>whnf
 refine⟨fun c5=>?_,fun c5=>?_⟩
 ·have c5':i<a.length:=(by have h:(i:Int)<a.length:=of_decide_eq_true c5;omega)
  conv=>whnf
  refine⟨by omega,?_⟩
  conv=>whnf
  refine⟨by omega,?_⟩
  conv=>whnf
  obtain⟨q,hq⟩:∃ q,a[i]?.getD []=q:=⟨_,rfl⟩
  obtain⟨r,hr⟩:∃ r,b[i]?.getD []=r:=⟨_,rfl⟩
  rw[Int.toNat_natCast,hq,hr]
  have hda:a.drop i=q :: a.drop (i+1):=by
   rw[List.drop_eq_getElem_cons c5',←hq,List.getElem?_eq_getElem c5']
   rfl
  have hdb:b.drop i=r :: b.drop (i+1):=by
   rw[List.drop_eq_getElem_cons (by omega),←hr,List.getElem?_eq_getElem (by omega)]
   rfl
  have hst:(q == r && a.drop (i+1) == b.drop (i+1))=(a == b):=by rw[←hrest,hda,hdb];rfl
  cases he:q == r
  ·rw [he,Bool.false_and] at hst
   rw[←hst]
   refine brT rfl ?_
   conv=>whnf
   first|done|exact rfl
  ·rw [he,Bool.true_and] at hst
   refine brF rfl ?_
   conv=>whnf
   have hw1:IntKind.i64.wrap ((i:Int)+1)=((i+1:Nat):Int):=by rw[w64_in _ (by omega)];omega
   refine⟨i+1,[],⟨c5',hst⟩,by omega,?_⟩
   conv=>whnf
   rw[hw1]
   repeat'(first|exact ⟨⟩|exact rfl|exact fun _=>Iff.rfl|exact fun _ _=>rfl|exact renM_ent rfl _|apply And.intro)
 have hia:i=a.length:=(by have h:¬ (i:Int)<a.length:=of_decide_eq_false c5;omega)
 rw [List.drop_of_length_le (by omega),List.drop_of_length_le (by omega)] at hrest
 rw[←hrest]
 conv=>whnf
 exact rfl
def hset(a b:Held):Bool:=a.nm == b.nm && (a.ty == b.ty && (a.ttl == b.ttl && a.data == b.data))
set_option maxHeartbeats 4000000 in
theorem d13same_ok(a b:Held)(ha:a.data.length<4611686018427387904)(hb:b.data.length<4611686018427387904):FnOk Tryz.prog 108 [setV a.nm a.ty a.ttl a.z a.data,setV b.nm b.ty b.ttl b.z b.data] (.d (.bool (hset a b))):=by
 refine fnOk_of_run (TT:=TT) (IN:=lookI []) TT_ok INok_nil mixed 1000 Tryz.func108 rfl (enters Tryz.func108 (by kernel_rfl) rfl) rfl 29 (by kernel_rfl) ?_
 conv=>whnf
 cases h1:a.nm == b.nm
 ·refine brF rfl ?_
  conv=>whnf
  rw[show hset a b=false by unfold hset;rw[h1];rfl]
  repeat(first|(refine brF rfl ?_;conv=>whnf))
  try exact rfl
 ·refine brT rfl ?_
  conv=>whnf
  cases h2:a.ty == b.ty
  ·rw[show hset a b=false by unfold hset;rw[h1,h2];rfl]
   refine brF rfl ?_
   conv=>whnf
   repeat(first|(refine brF rfl ?_;conv=>whnf))
   try exact rfl
  ·refine brT rfl ?_
   conv=>whnf
   cases h3:a.ttl == b.ttl
   ·rw[show hset a b=false by unfold hset;rw[h1,h2,h3];rfl]
    refine brF rfl ?_
    conv=>whnf
    repeat(first|(refine brF rfl ?_;conv=>whnf))
    try exact rfl
   ·rw[show hset a b=(a.data == b.data) by unfold hset;rw[h1,h2,h3];rfl]
    refine brT rfl ?_
    conv=>whnf
    refine .one (.data _ (d2same_ok a.z b.z a.data b.data ha hb) rfl rfl ?_)
    conv=>whnf
    try exact rfl
def Held.fV(h:Held):SV:=.agg [.d (.str h.nm),.d (.int .u16 h.ty),.d (.int .u32 h.ttl),.d (.sl h.z h.data.length 1 (strs h.data)),.d (.int .u8 h.rank),.d (.bool h.no),.d (.bool h.name)]
def hfnd(a b:Held):Bool:=hset a b && (a.rank == b.rank && (a.no == b.no && a.name == b.name))
set_option maxHeartbeats 4000000 in
theorem d14found_ok(a b:Held)(ha:a.data.length<4611686018427387904)(hb:b.data.length<4611686018427387904):FnOk Tryz.prog 51 [a.fV,b.fV] (.d (.bool (hfnd a b))):=by
 refine fnOk_of_run (TT:=TT) (IN:=lookI []) TT_ok INok_nil mixed 1000 Tryz.func51 rfl (enters Tryz.func51 (by kernel_rfl) rfl) rfl 29 (by kernel_rfl) ?_
 conv=>whnf
 refine .one (.data _ (d13same_ok a b ha hb) rfl rfl ?_)
 cases h1:hset a b
 ·rw[show hfnd a b=false by unfold hfnd;rw[h1];rfl]
  conv=>whnf
  repeat(first|(refine brF rfl ?_;conv=>whnf)|(refine brT rfl ?_;conv=>whnf))
  try exact rfl
 conv=>whnf
 repeat(first|(refine brF rfl ?_;conv=>whnf)|(refine brT rfl ?_;conv=>whnf))
 cases h2:a.rank == b.rank
 ·rw[show hfnd a b=false by unfold hfnd;rw[h1,h2];rfl]
  refine brF rfl ?_
  conv=>whnf
  repeat(first|(refine brF rfl ?_;conv=>whnf)|(refine brT rfl ?_;conv=>whnf))
  try exact rfl
 refine brT rfl ?_
 conv=>whnf
 cases h3:a.no == b.no
 ·rw[show hfnd a b=false by unfold hfnd;rw[h1,h2,h3];rfl]
  refine brF rfl ?_
  conv=>whnf
  repeat(first|(refine brF rfl ?_;conv=>whnf)|(refine brT rfl ?_;conv=>whnf))
  try exact rfl
 refine brT rfl ?_
 conv=>whnf
 rw[show hfnd a b=(a.name == b.name) by unfold hfnd;rw[h1,h2,h3];rfl]
 try exact rfl
def heldsD(z:Bool)(l:List Held):DV:=.sl z l.length 8 (fun i=>(l.getD i default).enc)
def hsame(a b:Held):Bool:=a.til == b.til && hfnd a b
def hsames:List Held→List Held→Bool
 |[],[]=>true
 |a :: l,b :: m=>hsame a b && hsames l m
 |_,_=>false
theorem hsames_len:∀ {a b:List Held},a.length≠b.length→hsames a b=false
 |[],[],h=>absurd rfl h
 |[],_ :: _,_=>rfl
 |_ :: _,[],_=>rfl
 |x :: a,y :: b,h=>by unfold hsames;rw[hsames_len (by simpa using h)];simp
set_option maxHeartbeats 8000000 in
theorem d14same_ok(y z:Bool)(a b:List Held)(ha:a.length<4611686018427387904)(hda:∀ s ∈ a,s.data.length<4611686018427387904)(hdb:∀ s ∈ b,s.data.length<4611686018427387904):FnOk Tryz.prog 14 [.d (heldsD y a),.d (heldsD z b)] (.d (.bool (hsames a b))):=by
 refine fnOk_of_run (TT:=TT) (IN:=lookI []) TT_ok INok_nil mixed 1000 Tryz.func14 rfl (enters Tryz.func14 (by kernel_rfl) rfl) rfl 40 (by kernel_rfl) ?_
 conv=>whnf
 by_cases hl:a.length=b.length
 case neg =>
  rw[hsames_len hl]
  refine brT (by rw[bne_iff_ne];omega) ?_
  conv=>whnf
  repeat'(first|exact ⟨⟩|exact rfl|exact fun _=>Iff.rfl|exact fun _ _=>rfl|exact renM_ent rfl _|apply And.intro)
 refine brF (by rw[bne_eq_false_iff_eq];omega) ?_
 conv=>whnf
 refine .inv Nat (fun i=>i≤a.length∧hsames (a.drop i) (b.drop i)=hsames a b) (fun i=>[(13,iV i)]) (fun _=>[]) (fun i=>a.length - i) ⟨0,[],⟨Nat.zero_le _,rfl⟩,?_⟩ ?_
 ·conv=>whnf
  repeat'(first|exact ⟨⟩|exact rfl|exact fun _=>Iff.rfl|exact fun _ _=>rfl|exact renM_ent rfl _|apply And.intro)
 rintro i ⟨hi,hrest⟩
 have hw1:IntKind.i64.wrap ((i:Int)+1)=((i+1:Nat):Int):=by rw[w64_in _ (by omega)];omega
 conv=>whnf
 refine⟨fun c5=>?_,fun c5=>?_⟩
 ·have c5':i<a.length:=(by have h:(i:Int)<a.length:=of_decide_eq_true c5;omega)
  obtain⟨q,hq⟩:∃ q,a.getD i default=q:=⟨_,rfl⟩
  obtain⟨r,hr⟩:∃ r,b.getD i default=r:=⟨_,rfl⟩
  have hda':a.drop i=q :: a.drop (i+1):=by
   rw[List.drop_eq_getElem_cons c5',←hq,List.getD,List.getElem?_eq_getElem c5']
   rfl
  have hdb':b.drop i=r :: b.drop (i+1):=by
   rw[List.drop_eq_getElem_cons (by omega),←hr,List.getD,List.getElem?_eq_getElem (by omega)]
   rfl
  have hqm:q ∈ a:=List.mem_of_mem_drop (i:=i) (by rw[hda'];simp)
  have hrm:r ∈ b:=List.mem_of_mem_drop (i:=i) (by rw[hdb'];simp)
  have hst:(hsame q r && hsames (a.drop (i+1)) (b.drop (i+1)))=hsames a b:=by rw[←hrest,hda',hdb'];rfl
  conv=>whnf
  refine⟨by omega,?_⟩
  conv=>whnf
  refine⟨by omega,?_⟩
  conv=>whnf
  rw[Int.toNat_natCast,hq,hr]
  by_cases h1:q.til=r.til
  case neg =>
   rw [show hsame q r=false by unfold hsame;simp [h1],Bool.false_and] at hst
   rw[←hst]
   refine brT (by simp[h1]) ?_
   conv=>whnf
   repeat(first|(refine brF rfl ?_;conv=>whnf)|(refine brT rfl ?_;conv=>whnf))
   repeat'(first|exact ⟨⟩|exact rfl|exact fun _=>Iff.rfl|exact fun _ _=>rfl|exact renM_ent rfl _|apply And.intro)
  refine brF (by simp[h1]) ?_
  conv=>whnf
  refine⟨by omega,?_⟩
  conv=>whnf
  refine⟨by omega,?_⟩
  conv=>whnf
  rw[Int.toNat_natCast,hq,hr]
  refine .data _ (d14found_ok q r (hda q hqm) (hdb r hrm)) rfl rfl ?_
  rw [show hsame q r=hfnd q r by unfold hsame;simp [h1]] at hst
  cases he:hfnd q r
  ·rw [he,Bool.false_and] at hst
   rw[←hst]
   conv=>whnf
   repeat(first|(refine brF rfl ?_;conv=>whnf)|(refine brT rfl ?_;conv=>whnf))
   repeat'(first|exact ⟨⟩|exact rfl|exact fun _=>Iff.rfl|exact fun _ _=>rfl|exact renM_ent rfl _|apply And.intro)
  ·rw [he,Bool.true_and] at hst
   conv=>whnf
   repeat(first|(refine brF rfl ?_;conv=>whnf)|(refine brT rfl ?_;conv=>whnf))
   rw[hw1]
   refine⟨i+1,[],⟨c5',hst⟩,by omega,?_⟩
   conv=>whnf
   repeat'(first|exact ⟨⟩|exact rfl|exact fun _=>Iff.rfl|exact fun _ _=>rfl|exact renM_ent rfl _|apply And.intro)
 have hia:i=a.length:=(by have h:¬ (i:Int)<a.length:=of_decide_eq_false c5;omega)
 rw [List.drop_of_length_le (by omega),List.drop_of_length_le (by omega)] at hrest
 rw[←hrest]
 conv=>whnf
 exact rfl
end Go.Proofs.YtdfdlbnojmlpiaaGreatDoor
namespace Go.Proofs.YtdfdlbnojmlpiaaGreatDoor
open Go Go.Eng
set_option maxRecDepth 100000
section
open Go.Shelf
variable{P:Program}{ρ:Ren}
set_option maxHeartbeats 1000000 in
theorem cc_fresh(L:Lays.n240 P ρ)(X:Builder.X72 P ρ)(e:TypeId)(hl:liesAt P P.depth e (2 / P.cellsOf e) 0 (ρ.t 72) 1=true)(b:Nat)(w:World)(h0:w.cell? ⟨b,0,none⟩=some (.pointer none))(hsh:w.shape? b=some (e,2))(hfz:w.frozen? ⟨b,0,none⟩=false) :
 Calls P (ρ.f 240) #[.pointer (some ⟨b,0,none⟩)] w fun r w'=>r = .returned (.tuple #[])∧w'=w.setCell ⟨b,0,none⟩ (.pointer (some ⟨b,0,none⟩)):=by
 obtain⟨j,hj,hjs⟩:=Option.map_eq_some_iff.1 X.sizeBuilder
 have mixed:=L.mixed
 have t72:=L.t72;have a72:=L.a72;have z72:=L.z72;have v72:=L.v72;have u72:=run_underlying L.t72
 have t70:=L.t70;have a70:=L.a70;have z70:=L.z70;have v70:=L.v70;have u70:=run_underlying L.t70
 have t9:=L.t9;have a9:=L.a9;have z9:=L.z9;have v9:=L.v9;have u9:=run_underlying L.t9
 have t4:=L.t4;have a4:=L.a4;have z4:=L.z4;have v4:=L.v4;have u4:=run_underlying L.t4
 have t164:=L.t164;have a164:=L.a164;have z164:=L.z164;have v164:=L.v164;have u164:=run_underlying L.t164
 go_enter L.f240,Body.n240_ntmps ρ
 go_wp2
 rw[Lib.run_to_unsafe w ⟨b,0,none⟩ L.t70 L.t164 hj (by rw[hjs];decide) hsh (Nat.zero_lt_succ 1)]
 simp only[Result.andThen]
 rw[Oper.upon_value]
 go_wp2
 rw[run_callFunc_extern L.f276 (by kernel_rfl) (by kernel_rfl) (by kernel_rfl) (e:=Extern.AbiNoEscape.same) (by kernel_rfl)]
 rw[Lib.run_noEscape]
 simp only[Result.andThen]
 rw[Oper.upon_value]
 go_wp2
 rw[Lib.run_from_unsafe w ⟨b,0,none⟩ L.t164 L.t70 hj hsh hl]
 simp only[Result.andThen]
 rw[Oper.upon_value]
 go_wp2
 go_end0
 exact⟨rfl,rfl⟩
end
theorem chkT_fresh(t:TypeId)(hlie:liesAt Tryz.prog Tryz.prog.depth t (2 / Tryz.prog.cellsOf t) 0 92 1=true)(s:SV):COk Tryz.prog 170 [.ptr 0 0] [.cells t [.v (.pointer none),s]] (fun r k=>r = .tup []∧k=[.cells t [.ptr 0 0,s]]):=by
 refine⟨enters Tryz.func170 (by kernel_rfl) rfl,fun X w β fp vs hM hl hd=>?_⟩
 match vs,hl with
 |[v0],_ =>
  have h0:=hd 0 _ v0 rfl rfl
  cases h0 with
  |ptr _ _ L hL =>
   have hb:=hM.at (i:=0) rfl (by simp) hL
   cases hb with
   |cells _ _ us hfp hblk hlen hden h1 =>
    have hsz:us.size=2:=by simpa using hlen.symm
    have hu0:us[0]? = some (.pointer none):=by
     have hlt:0<us.size:=by omega
     have hx:=hden 0 _ us[0] rfl (by simp[hlt])
     have hy:us[0] = .pointer none:=by
      generalize us[0]=x at hx
      cases hx
      rfl
     rw[Array.getElem?_eq_getElem hlt,hy]
    have hc0:w.cell? ⟨L.b,0,none⟩=some (.pointer none):=by simp[World.cell?,hblk,hu0]
    have hsh:w.shape? L.b=some (t,2):=by simp[World.shape?,hblk,hsz]
    have hfz:w.frozen? ⟨L.b,0,none⟩=false:=by simp[World.frozen?,hblk]
    refine(cc_fresh lays240 Try.Builder_Extra_156.toX72 t hlie L.b w hc0 hsh hfz).mono ?_
    rintro e w' ⟨rfl,rfl⟩
    have hset:w.setCell ⟨L.b,0,none⟩ (.pointer (some ⟨L.b,0,none⟩))=World.setBlock w L.b (.cells (us.setIfInBounds 0 (.pointer (some ⟨L.b,0,none⟩))) t (0,0)):=setCell_eq hblk _ _
    rw[hset]
    have W:=hM.store (i:=0) (l':=[.ptr 0 0,s]) (vs':=us.setIfInBounds 0 (.pointer (some ⟨L.b,0,none⟩))) rfl hL hfp hblk (by simpa using hlen) (fun j s' u hj hu=>by
     rw [Array.getElem?_setIfInBounds] at hu
     match j with
     |0 =>
      injection hj with hj
      subst hj
      rw [if_pos rfl] at hu
      split at hu
      ·injection hu with hu
       subst hu
       exact .ptr 0 0 L hL
      ·cases hu
     |j+1 =>
      rw [if_neg (by omega)] at hu
      exact hden (j+1) s' u hj hu) (fun j u hu=>by
     rw [Array.getElem?_setIfInBounds] at hu
     split at hu
     ·split at hu
      ·injection hu with hu
       subst hu
       rfl
      ·cases hu
     ·exact h1 j u hu)
    exact ⟨_,.tup [],_,_,_,rfl,⟨rfl,rfl⟩,W,.tup _ _ rfl (fun j s' u hj _=>by simp at hj)⟩
theorem chkT_used(t:TypeId)(s:SV)(rest:List KB):COk Tryz.prog 170 [.ptr 0 0] (.cells t [.ptr 0 0,s] :: rest) (fun r k=>r = .tup []∧k = .cells t [.ptr 0 0,s] :: rest):=by
 refine⟨enters Tryz.func170 (by kernel_rfl) rfl,fun X w β fp vs hM hl hd=>?_⟩
 match vs,hl with
 |[v0],_ =>
  have h0:=hd 0 _ v0 rfl rfl
  cases h0 with
  |ptr _ _ L hL =>
   have hb:=hM.at (i:=0) rfl (by simp) hL
   cases hb with
   |cells _ _ us hfp hblk hlen hden h1 =>
    have hsz:us.size=2:=by simpa using hlen.symm
    have hu0:us[0]? = some (.pointer (some ⟨L.b,0,none⟩)):=by
     have hlt:0<us.size:=by omega
     have hx:=hden 0 _ us[0] rfl (by simp[hlt])
     have hy:us[0] = .pointer (some ⟨L.b,0,none⟩):=by
      generalize us[0]=x at hx
      cases hx with
      |ptr _ _ L' hL' =>
       rw [hL] at hL'
       cases hL'
       rfl
     rw[Array.getElem?_eq_getElem hlt,hy]
    have hc0:w.cell? ⟨L.b,0,none⟩=some (.pointer (some ⟨L.b,0,none⟩)):=by simp[World.cell?,hblk,hu0]
    refine(Any.Builder_copyCheck_used lays240 Try.Builder_Extra_156.toX72 L.b w hc0).mono ?_
    rintro e w' ⟨rfl,rfl⟩
    exact ⟨_,.tup [],_,_,_,rfl,⟨rfl,rfl⟩,Went.refl hM,.tup _ _ rfl (fun j s' u hj _=>by simp at hj)⟩
def Bst.flT(t:TypeId):Bst→List KB
 | .fresh=>[.cells t [.v (.pointer none),nilS]]
 | .live s=>[.cells t [.ptr 0 0,.all 1],.row 5 1 s.length .iff (fun j=>[.int .u8 (byteAt s j)])]
 | .dead=>[.cells t [.ptr 0 0,.any]]
set_option maxRecDepth 100000 in
theorem bw0T_ok(t:TypeId)(hlie:liesAt Tryz.prog Tryz.prog.depth t (2 / Tryz.prog.cellsOf t) 0 92 1=true)(s:List UInt8)(hs:s.length≤70368744177664):COk Tryz.prog 132 [.ptr 0 0,.d (.str s)] [pk (Bst.flT t .fresh)] (fun r k=>∃ b1,k=[pk (Bst.flT t b1)]∧(r = .tup [.d (.int .i64 s.length),.v .nilIface]∧b1 = .live s)):=by
 refine COk.toThing (Bst.flT t) (pOk_of_run (TT:=TT) (IN:=lookI []) TT_ok INok_nil mixed 1000 Tryz.func132 rfl (enters Tryz.func132 (by kernel_rfl) rfl) 17 (by kernel_rfl) rfl ?_ ?_)
 ·rintro r l ⟨w1,_,rfl,_⟩
  rfl
 conv=>whnf
 refine .rel _ (chkT_fresh t hlie _) (fun x ks' hR=>?_)
 obtain⟨rfl,rfl⟩:=hR
 conv=>whnf
 refine⟨by omega,?_⟩
 conv=>whnf
 refine⟨[0,1],.tup [.d (.int .i64 s.length),.v .nilIface],Bst.flT t (.live s),rfl,rfl,rfl,?_,_,rfl,rfl,rfl⟩
 repeat'(first|exact ⟨⟩|exact rfl|exact fun _=>Iff.rfl|exact fun _ _=>rfl|exact renM_rests _ _|exact(List.length_append ..).symm|exact byteAt_cat _ _|apply And.intro)
set_option maxRecDepth 100000 in
theorem bw1T_ok(t:TypeId)(b s:List UInt8)(hs:b.length+s.length≤70368744177664):COk Tryz.prog 132 [.ptr 0 0,.d (.str s)] [pk (Bst.flT t (.live b))] (fun r k=>∃ b1,k=[pk (Bst.flT t b1)]∧(r = .tup [.d (.int .i64 s.length),.v .nilIface]∧b1 = .live (b++s))):=by
 refine COk.toThing (Bst.flT t) (pOk_of_run (TT:=TT) (IN:=lookI []) TT_ok INok_nil mixed 1000 Tryz.func132 rfl (enters Tryz.func132 (by kernel_rfl) rfl) 17 (by kernel_rfl) rfl ?_ ?_)
 ·rintro r l ⟨w1,_,rfl,_⟩
  rfl
 conv=>whnf
 refine .rel _ (chkT_used t _ _) (fun x ks' hR=>?_)
 obtain⟨rfl,rfl⟩:=hR
 conv=>whnf
 refine⟨by omega,?_⟩
 conv=>whnf
 refine⟨[0,2],.tup [.d (.int .i64 s.length),.v .nilIface],Bst.flT t (.live (b++s)),rfl,rfl,rfl,?_,_,rfl,rfl,rfl⟩
 repeat'(first|exact ⟨⟩|exact rfl|exact fun _=>Iff.rfl|exact fun _ _=>rfl|exact renM_rests _ _|exact(List.length_append ..).symm|exact byteAt_cat _ _|apply And.intro)
set_option maxRecDepth 100000 in
theorem bsT_ok(t:TypeId)(s:List UInt8)(hs:s.length≤70368744177664):COk Tryz.prog 47 [.ptr 0 0] [pk (Bst.flT t (.live s))] (fun r k=>∃ b1,k=[pk (Bst.flT t b1)]∧(r = .d (.str s)∧b1 = .dead)):=by
 refine COk.toThing (Bst.flT t) (pOk_of_run (TT:=TT) (IN:=lookI []) TT_ok INok_nil mixed 1000 Tryz.func47 rfl (enters Tryz.func47 (by kernel_rfl) rfl) 13 (by kernel_rfl) rfl ?_ ?_)
 ·rintro r l ⟨w1,_,rfl,_⟩
  rfl
 cases s with
 |nil =>
  conv=>whnf
  refine⟨rfl,?_⟩
  conv=>whnf
  refine⟨[0],.d (.str []),Bst.flT t .dead,rfl,rfl,rfl,?_,_,rfl,rfl,rfl⟩
  repeat'(first|exact ⟨⟩|exact rfl|exact fun _=>Iff.rfl|exact fun _ _=>rfl|exact renM_rests _ _|exact(List.length_append ..).symm|exact byteAt_cat _ _|apply And.intro)
 |cons a s =>
  conv=>whnf
  refine⟨Nat.succ_le_succ (Nat.zero_le _),?_⟩
  conv=>whnf
  have hb:bytesOf (a :: s).length (fun j=>[.int .u8 (byteAt (a :: s) j)])=a :: s:=bytesOf_bytesF (a :: s)
  refine⟨⟨rfl,by omega,fun i _=>⟨((a :: s)[i]?).getD 0,rfl⟩⟩,?_⟩
  rw[hb]
  conv=>whnf
  refine⟨[0],.d (.str (a :: s)),Bst.flT t .dead,rfl,rfl,rfl,?_,_,rfl,rfl,rfl⟩
  repeat'(first|exact ⟨⟩|exact rfl|exact fun _=>Iff.rfl|exact fun _ _=>rfl|exact renM_rests _ _|exact(List.length_append ..).symm|exact byteAt_cat _ _|apply And.intro)
theorem wb1T_ok(t:TypeId)(b:List UInt8)(c:UInt8)(hs:b.length+1≤70368744177664):COk Tryz.prog 129 [.ptr 0 0,.d (.int .u8 (c.toNat:Int))] [pk (Bst.flT t (.live b))] (fun r k=>∃ b1,k=[pk (Bst.flT t b1)]∧(r = .v .nilIface∧b1 = .live (b++[c]))):=by
 refine COk.toThing (Bst.flT t) (pOk_of_run (TT:=TT) (IN:=lookI []) TT_ok INok_nil mixed 1000 Tryz.func129 rfl (enters Tryz.func129 (by kernel_rfl) rfl) 15 (by kernel_rfl) rfl ?_ ?_)
 ·rintro r l ⟨w1,_,rfl,_⟩
  rfl
 conv=>whnf
 refine .rel _ (chkT_used t _ _) (fun x ks' hR=>?_)
 obtain⟨rfl,rfl⟩:=hR
 conv=>whnf
 refine⟨by omega,?_⟩
 conv=>whnf
 refine⟨[0,3],.v .nilIface,Bst.flT t (.live (b++[c])),rfl,rfl,rfl,?_,_,rfl,rfl,rfl⟩
 repeat'(first|exact ⟨⟩|exact rfl|exact fun _=>Iff.rfl|exact fun _ _=>rfl|exact renM_rests _ _|exact(List.length_append ..).symm|exact byteAt_cat _ _|apply And.intro)
 ·simp
 ·intro i hi
  exact(show catF b.length (bytesF b) (chunk [DV.int IntKind.u8 ↑c.toNat] 1) i=_ from byteAt_put b c i hi)
end Go.Proofs.YtdfdlbnojmlpiaaGreatDoor
namespace Go.Proofs.YtdfdlbnojmlpiaaGreatDoor
open Go Go.Eng
set_option maxRecDepth 100000
theorem dtab_in:(1,isTab .u64 ((List.range 20).map fun i=>((10 ^ i:Nat):Int))) ∈ evs:=by unfold evs;simp only[List.mem_cons];first|exact .inr (.inr (.inl rfl))|exact .inr (.inr (.inl ⟨rfl,rfl⟩))|simp
theorem dtab_is {w : World} {fp : Nat → Nat → Prop} (h : VOk w fp) : Lib.TabIs Tryz.prog w "internal/strconv.uint64pow10" .u64 Lib.pow10Tab := by
 obtain⟨⟨vs,t,fz,e,h1⟩,_⟩:=h _ dtab_in
 unfold Lib.TabIs World.var?
 rw [show Tryz.prog.globalNamed "internal/strconv.uint64pow10" = some 1 by kernel_rfl]
 simp only[Option.bind_some,e]
 exact congrArg some h1
theorem step_grow{M:Nat→Prop}(w:World)(k:Nat)(os:Array Obj):Step M w (Sort.grow (w.drewN k) os):=by
 refine⟨rfl,rfl,rfl,?_,fun b hb _=>?_,fun _=>?_⟩
 ·unfold Sort.grow World.drewN;simp
 ·unfold Sort.grow World.drewN
  exact Array.getElem?_append_left hb
 ·exact Nat.le_add_right _ _
theorem fmtI_ok(n:Nat)(h:n<9223372036854775808):FnOk Tryz.prog 156 [.d (.int .i64 n),.d (.int .i64 10)] (.d (.str (Lib.decDigits n))):=by
 refine⟨enters Tryz.func156 (by kernel_rfl) rfl,fun M w vs hV hM hl hd=>?_⟩
 match vs,hl with
 |[v0,v1],_ =>
  have h0:=den_int (hd 0 _ v0 rfl rfl)
  have h1:=den_int (hd 1 _ v1 rfl rfl)
  subst h0 h1
  refine(Try.strconv_FormatInt_10 n (by omega) (by omega) w (dtab_is hV)).mono ?_
  rintro e w' ⟨rfl,k,os,rfl⟩
  rw[Lib.itoa_nonneg]
  exact⟨_,rfl,step_grow _ _ _,.d (.str _)⟩
end Go.Proofs.YtdfdlbnojmlpiaaGreatDoor
namespace Go.Proofs.YtdfdlbnojmlpiaaGreatDoor
open Go Go.Eng
set_option maxRecDepth 100000
def wL(b:List UInt8):KB:=pk (Bst.flT 94 (.live b))
theorem wlB(b:List UInt8)(c:UInt8)(hs:b.length+1≤70368744177664):COk Tryz.prog 129 [.ptr 0 0,.d (.int .u8 (c.toNat:Int))] [wL b] (fun r k=>r = .v .nilIface∧k=[wL (b++[c])]) :=
 (COk.thing (Bst.flT 94) (wb1T_ok _ b c hs) [] [] _ rfl rfl).imp fun r k ⟨s0,a1,⟨h1,h2⟩,h3,h4⟩=>by
  subst h1 h2
  exact⟨by rw[h3];rfl,by rw[h4];rfl⟩
set_option maxHeartbeats 8000000 in
theorem wdata_ok(b s:List UInt8)(hb:b.length≤1099511627776)(hs:s.length≤1000000):COk Tryz.prog 100 [.ptr 0 0,.d (.str s)] [wL b] (fun r k=>r = .tup []∧k=[wL (b++hexT s++[10])]):=by
 refine cOk_of_run (TT:=TT) (IN:=lookI []) TT_ok INok_nil mixed 1000 Tryz.func100 rfl (enters Tryz.func100 (by kernel_rfl) rfl) 37 (by kernel_rfl) ?_
 have hdg:∀ n:Nat,n<16→byteAt (ByteArray.mk #[48,49,50,51,52,53,54,55,56,57,97,98,99,100,101,102]).data.toList ((n:Nat):Int)=((hexC n).toNat:Int):=by decide
 conv=>whnf
 refine⟨fun h1=>?_,fun h1=>?_⟩
 ·have h1:s=[]:=by simpa using h1
  subst h1
  conv=>whnf
  refine .rel _ (wlB b 45 (by omega)) (fun x ks' hR=>?_)
  obtain⟨rfl,rfl⟩:=hR
  conv=>whnf
  refine .once ?_
  conv=>whnf
  repeat(first|(refine brF rfl ?_;conv=>whnf)|(refine brT rfl ?_;conv=>whnf))
  refine .rel _ (wlB (b++[45]) 10 (by rw[List.length_append];simp;omega)) (fun x ks' hR=>?_)
  obtain⟨rfl,rfl⟩:=hR
  conv=>whnf
  refine⟨[0],.tup [],[wL (b++[45]++[10])],rfl,rfl,rfl,?_,rfl,rfl⟩
  repeat'(first|exact ⟨⟩|exact rfl|exact(fun _ _ _ _ h=>⟨packed_stable _,h⟩)|exact fun _=>Iff.rfl|exact fun _ _=>rfl|apply And.intro)
 have h1:s≠[]:=by simpa using h1
 rw[show hexT s=hexL s from if_neg h1]
 conv=>whnf
 refine .inv Nat (fun i=>i≤s.length) (fun i=>[(13,iV i)]) (fun i=>[(0,wL (b++hexL (s.take i)))]) (fun i=>s.length - i) ⟨0,[0],Nat.zero_le _,?_⟩ ?_
 ·rw[show hexL (s.take 0)=[] from rfl,List.append_nil]
  conv=>whnf
  repeat'(first|exact ⟨⟩|exact rfl|exact(fun _ _ _ _ h=>⟨packed_stable _,h⟩)|exact fun _=>Iff.rfl|exact fun _ _=>rfl|apply And.intro)
 intro i hi
 have hlen:=hexL_len (s.take i)
 rw [List.length_take] at hlen
 conv=>whnf
 refine⟨fun c0=>?_,fun c0=>?_⟩
 ·have c0':i<s.length:=(by have h:(i:Int)<s.length:=of_decide_eq_true c0;omega)
  have hsk:s[i]? = some s[i]:=List.getElem?_eq_getElem c0'
  have hbk:byteAt s (i:Int)=((s[i].toNat:Nat):Int):=by rw[bt_eq];unfold bt;rw[hsk];rfl
  have hnx:=hexL_snoc hsk
  generalize s[i]=c at hsk hbk hnx
  have hc:=c.toNat_lt
  have hk1:IntKind.i64.wrap ((i:Int)+1)=((i+1:Nat):Int):=by rw[w64_in _ (by omega)];omega
  generalize hexL (s.take i)=H at hnx hlen ⊢
  conv=>whnf
  refine⟨by omega,?_⟩
  conv=>whnf
  rw[hbk]
  refine⟨by decide,?_⟩
  conv=>whnf
  obtain⟨e1,e2⟩:=shr4 c.toNat hc
  rw[e1]
  refine⟨⟨by omega,by show((c.toNat / 16:Nat):Int)<16;omega⟩,?_⟩
  conv=>whnf
  rw[hdg _ (by omega)]
  refine .mem _ _ (wlB (b++H) (hexC (c.toNat / 16)) (by rw[List.length_append];omega)) ?_
  conv=>whnf
  refine⟨by omega,?_⟩
  conv=>whnf
  rw[hbk,e2]
  refine⟨⟨by omega,by show((c.toNat % 16:Nat):Int)<16;omega⟩,?_⟩
  conv=>whnf
  rw[hdg _ (by omega)]
  refine .mem _ _ (wlB (b++H++[hexC (c.toNat / 16)]) (hexC (c.toNat % 16)) (by simp only[List.length_append,List.length_singleton];omega)) ?_
  conv=>whnf
  rw[hk1]
  refine⟨i+1,[0],c0',by show s.length - (i+1)<s.length - i;omega,?_⟩
  rw[hnx,show b++(H++[hexC (c.toNat / 16),hexC (c.toNat % 16)])=b++H++[hexC (c.toNat / 16)]++[hexC (c.toNat % 16)] by simp]
  conv=>whnf
  repeat'(first|exact ⟨⟩|exact rfl|exact(fun _ _ _ _ h=>⟨packed_stable _,h⟩)|exact fun _=>Iff.rfl|exact fun _ _=>rfl|apply And.intro)
 ·have c0':i=s.length:=(by have h:¬ (i:Int)<s.length:=of_decide_eq_false c0;omega)
  subst c0'
  rw[List.take_length]
  conv=>whnf
  refine .rel _ (wlB (b++hexL s) 10 (by rw[List.length_append,hexL_len];omega)) (fun x ks' hR=>?_)
  obtain⟨rfl,rfl⟩:=hR
  conv=>whnf
  refine⟨[0],.tup [],[wL (b++hexL s++[10])],rfl,rfl,rfl,?_,rfl,rfl⟩
  repeat'(first|exact ⟨⟩|exact rfl|exact(fun _ _ _ _ h=>⟨packed_stable _,h⟩)|exact fun _=>Iff.rfl|exact fun _ _=>rfl|apply And.intro)
end Go.Proofs.YtdfdlbnojmlpiaaGreatDoor
namespace Go.Proofs.YtdfdlbnojmlpiaaGreatDoor
open Go Go.Eng
set_option maxRecDepth 100000
theorem wlie:liesAt Tryz.prog Tryz.prog.depth 94 (2 / Tryz.prog.cellsOf 94) 0 92 1=true:=by kernel_rfl
def wK(b:List UInt8):KB:=match b with
 |[]=>.cells 94 [.v (.pointer none),nilS]
 |c :: r=>wL (c :: r)
structure Held.In(h:Held):Prop where
 ty:0≤h.ty∧h.ty≤65535
 ttl:0≤h.ttl∧h.ttl≤4294967295
 rank:0≤h.rank∧h.rank≤255
 til : -9223372036854775808≤h.til∧h.til≤9223372036854775807
def numT(n:Nat):List UInt8:=32 :: Lib.decDigits n
def headT(h:Held):List UInt8 :=
 if h.no then [110,111,110,101]++[32]++txtN h.nm++numT h.ty.toNat++numT h.ttl.toNat++numT h.til.toNat++[10]
 else [115,101,116]++[32]++txtN h.nm++numT h.ty.toNat++numT h.rank.toNat++numT h.ttl.toNat++numT h.til.toNat++numT h.data.length++[10]
def dataT(l:List (List UInt8)):List UInt8:=l.flatMap fun d=>hexT d++[10]
def heldT(h:Held):List UInt8:=headT h++(if h.no then [] else dataT h.data)
theorem held_name{h:Held}(hk:h.ok=true):isName h.nm:=by
 unfold Held.ok scheck at hk
 simp only [Bool.and_eq_true] at hk
 cases hn:h.no with
 |false =>
  rw [hn,if_pos rfl] at hk
  simp only [Bool.and_eq_true,decide_eq_true_eq] at hk
  exact hk.2.2.1.1.1
 |true =>
  rw [hn,if_neg (by decide)] at hk
  simp only [Bool.and_eq_true,decide_eq_true_eq] at hk
  exact hk.2.2
theorem wlSx(b s:List UInt8)(rest:List KB)(hs:b.length+s.length≤70368744177664):COk Tryz.prog 132 [.ptr 0 0,.d (.str s)] (wL b :: rest) (fun r k=>r = .tup [.d (.int .i64 s.length),.v .nilIface]∧k=wL (b++s) :: rest) :=
 (COk.thing (Bst.flT 94) (bw1T_ok _ b s hs) [] rest _ rfl rfl).imp fun r k ⟨s0,a1,⟨h1,h2⟩,h3,h4⟩=>by
  subst h1 h2
  exact⟨by rw[h3];rfl,by rw[h4];rfl⟩
theorem wlBx(b:List UInt8)(c:UInt8)(rest:List KB)(hs:b.length+1≤70368744177664):COk Tryz.prog 129 [.ptr 0 0,.d (.int .u8 (c.toNat:Int))] (wL b :: rest) (fun r k=>r = .v .nilIface∧k=wL (b++[c]) :: rest) :=
 (COk.thing (Bst.flT 94) (wb1T_ok _ b c hs) [] rest _ rfl rfl).imp fun r k ⟨s0,a1,⟨h1,h2⟩,h3,h4⟩=>by
  subst h1 h2
  exact⟨by rw[h3];rfl,by rw[h4];rfl⟩
theorem dtxt_len{n:List UInt8}(h:isName n):(txtN n).length≤1020:=by
 obtain⟨h1,h2,h3⟩:=labN_of h
 unfold txtN
 split
 ·simp
 ·have:=txtL_len (labN n) h2
  rw [←h3] at this
  omega
theorem wkS0x(s:List UInt8)(rest:List KB)(hs:s.length≤70368744177664):COk Tryz.prog 132 [.ptr 0 0,.d (.str s)] (.cells 94 [.v (.pointer none),nilS] :: rest) (fun r k=>r = .tup [.d (.int .i64 s.length),.v .nilIface]∧k=wL s :: rest):=by
 have:=(packIn (bw0T_ok 94 wlie s hs)).among [] rest (fun s k ⟨b1,hk,_⟩=>by rw[hk];exact Nat.le_refl _) rfl
 refine COk.imp (this:COk _ _ [.ptr 0 0,.d (.str s)] (.cells 94 [.v (.pointer none),nilS] :: rest) _) fun s k ⟨s0,k1,⟨b1,hk1,hr,hb1⟩,hs,hk⟩=>?_
 subst hr hk1 hb1
 exact⟨by rw[hs];rfl,by rw[hk];show[]++(mapB _ [wL _]++(rest++mapB _ []))=_;simp[mapB];rfl⟩
set_option maxHeartbeats 8000000 in
theorem wheld_bad(b:List UInt8)(h:Held)(hk:h.ok=false):COk Tryz.prog 46 [.ptr 0 0,h.V] [wK b] (fun r k=>r = .d (.int .i64 2)∧k=[wK b]):=by
 cases b
 all_goals
  refine cOk_of_run (TT:=TT) (IN:=lookI []) TT_ok INok_nil mixed 1000 Tryz.func46 rfl (enters Tryz.func46 (by kernel_rfl) rfl) 71 (by kernel_rfl) ?_
  conv=>whnf
  refine .one (.data _ (dcheck_ok h) rfl rfl ?_)
  rw[hk]
  conv=>whnf
  repeat(first|(refine brF rfl ?_;conv=>whnf)|(refine brT rfl ?_;conv=>whnf))
  refine⟨[0],.d (.int .i64 2),[wK _],rfl,rfl,rfl,?_,rfl,rfl⟩
  repeat'(first|exact ⟨⟩|exact rfl|exact(fun _ _ _ _ h=>⟨packed_stable _,h⟩)|exact fun _=>Iff.rfl|exact fun _ _=>rfl|apply And.intro)
theorem dig_len(n:Nat)(h:n<9223372036854775808):(Lib.decDigits n).length≤19:=by
 have hs:∀ k n:Nat,n<10 ^ (k+1)→(Lib.decDigits n).length≤k+1:=by
  intro k
  induction k with
  |zero=>intro n h;rw[Lib.decDigits,dif_pos (by omega)];simp
  |succ k ih =>
   intro n hk
   rw[Lib.decDigits]
   split
   ·simp
   ·rw[List.length_append]
    have:=ih (n / 10) (by rw [Nat.pow_succ] at hk;omega)
    simp only[List.length_cons,List.length_nil]
    omega
 exact hs 18 n (by omega)
set_option maxHeartbeats 16000000 in
theorem wheld_none(b c nm:List UInt8)(hc:c=b)(n1 n2 n4:Nat)(z name:Bool)(data:List (List UInt8))(rank:Int)(h1:n1≤65535)(h2:n2≤4294967295)(h4:n4≤4611686018428436480)(hb:b.length≤1099511627776)(hk:(Held.mk nm n1 n2 z data rank true name n4).ok=true) :
 COk Tryz.prog 46 [.ptr 0 0,(Held.mk nm n1 n2 z data rank true name n4).V] [wK b] (fun r k=>r = .d (.int .i64 0)∧k=[wL (c++heldT (Held.mk nm n1 n2 z data rank true name n4))]):=by
 have hn:isName nm:=held_name hk
 have hnl:=dtxt_len hn
 have l1:=dig_len n1 (by omega)
 have l2:=dig_len n2 (by omega)
 have l4:=dig_len n4 (by omega)
 have w1:IntKind.i64.wrap (n1:Int)=(n1:Int):=w64_in _ (by omega)
 have w2:IntKind.i64.wrap (n2:Int)=(n2:Int):=w64_in _ (by omega)
 cases b
 all_goals
  refine cOk_of_run (TT:=TT) (IN:=lookI [(99,Tryz.f99,4)]) TT_ok (INok_cons INok_nil Tryz.func99 (by kernel_rfl) (by kernel_rfl)) mixed 1000 Tryz.func46 rfl (enters Tryz.func46 (by kernel_rfl) rfl) 71 (by kernel_rfl) ?_
  conv=>whnf
  refine .one (.data _ (dcheck_ok _) rfl rfl ?_)
  rw[hk]
  conv=>whnf
  repeat(first|(refine brF rfl ?_;conv=>whnf)|(refine brT rfl ?_;conv=>whnf))
  refine .one (.data _ (print_ok nm) rfl rfl ?_)
  rw[show printT nm=(txtN nm,0) from if_pos hn]
  conv=>whnf
  repeat(first|(refine brF rfl ?_;conv=>whnf)|(refine brT rfl ?_;conv=>whnf))
  rw[w1,w2]
  first
   |refine .rel _ (wkS0x [110,111,110,101] _ (by simp)) (fun x ks' hR=>?_)
   |refine .rel _ (wlSx (_ :: _) [110,111,110,101] _ (by simp at hb ⊢;omega)) (fun x ks' hR=>?_)
  obtain⟨rfl,rfl⟩:=hR
  conv=>whnf
  refine .rel _ (wlBx _ 32 _ (by simp at hb ⊢ <;> omega)) (fun x ks' hR=>?_)
  obtain⟨rfl,rfl⟩:=hR
  conv=>whnf
  refine .rel _ (wlSx _ (txtN nm) _ (by simp at hb ⊢;omega)) (fun x ks' hR=>?_)
  obtain⟨rfl,rfl⟩:=hR
  conv=>whnf
  refine .once ?_
  conv=>whnf
  refine brT (by decide) ?_
  conv=>whnf
  refine⟨by decide,?_⟩
  conv=>whnf
  refine .rel _ (wlBx _ 32 _ (by simp only [List.length_append,List.length_cons,List.length_nil] at *;omega)) (fun x ks' hR=>?_)
  obtain⟨rfl,rfl⟩:=hR
  conv=>whnf
  refine .data _ (fmtI_ok n1 (by omega)) rfl rfl ?_
  conv=>whnf
  refine .mem _ _ (wlSx _ (Lib.decDigits n1) _ (by simp only [List.length_append,List.length_cons,List.length_nil] at *;omega)) ?_
  conv=>whnf
  refine .once ?_
  conv=>whnf
  refine brT (by decide) ?_
  conv=>whnf
  refine⟨by decide,?_⟩
  conv=>whnf
  refine .rel _ (wlBx _ 32 _ (by simp only [List.length_append,List.length_cons,List.length_nil] at *;omega)) (fun x ks' hR=>?_)
  obtain⟨rfl,rfl⟩:=hR
  conv=>whnf
  refine .data _ (fmtI_ok n2 (by omega)) rfl rfl ?_
  conv=>whnf
  refine .mem _ _ (wlSx _ (Lib.decDigits n2) _ (by simp only [List.length_append,List.length_cons,List.length_nil] at *;omega)) ?_
  conv=>whnf
  refine .once ?_
  conv=>whnf
  refine brT (by decide) ?_
  conv=>whnf
  refine⟨by decide,?_⟩
  conv=>whnf
  refine .rel _ (wlBx _ 32 _ (by simp only [List.length_append,List.length_cons,List.length_nil] at *;omega)) (fun x ks' hR=>?_)
  obtain⟨rfl,rfl⟩:=hR
  conv=>whnf
  refine .data _ (fmtI_ok n4 (by omega)) rfl rfl ?_
  conv=>whnf
  refine .mem _ _ (wlSx _ (Lib.decDigits n4) _ (by simp only [List.length_append,List.length_cons,List.length_nil] at *;omega)) ?_
  conv=>whnf
  refine .once ?_
  conv=>whnf
  refine brF (by decide) ?_
  conv=>whnf
  refine .rel _ (wlBx _ 10 _ (by simp only [List.length_append,List.length_cons,List.length_nil] at *;omega)) (fun x ks' hR=>?_)
  obtain⟨rfl,rfl⟩:=hR
  conv=>whnf
  refine⟨[0],.d (.int .i64 0),[wL (c++[110,111,110,101]++[32]++txtN nm++[32]++Lib.decDigits n1++[32]++Lib.decDigits n2++[32]++Lib.decDigits n4++[10])],rfl,rfl,rfl,?_,rfl,?_⟩
  ·subst hc
   repeat'(first|exact ⟨⟩|exact rfl|exact(fun _ _ _ _ h=>⟨packed_stable _,h⟩)|exact fun _=>Iff.rfl|exact fun _ _=>rfl|apply And.intro)
  ·exact congrArg (fun x=>[wL x]) (by simp[heldT,headT,numT])
theorem wdata_x(b s:List UInt8)(rest:List KB)(hb:b.length≤1099511627776)(hs:s.length≤1000000):COk Tryz.prog 100 [.ptr 0 0,.d (.str s)] (wL b :: rest) (fun r k=>r = .tup []∧k=wL (b++hexT s++[10]) :: rest):=by
 have:=(wdata_ok b s hb hs).among [] rest (fun s k h=>by rw[h.2];exact Nat.le_refl _) rfl
 refine COk.imp (this:COk _ _ [.ptr 0 0,.d (.str s)] (wL b :: rest) _) fun s k ⟨s0,k1,⟨h1,h2⟩,hs,hk⟩=>?_
 subst h1 h2
 exact⟨by rw[hs];rfl,by rw[hk];show[]++(mapB _ [wL _]++(rest++mapB _ []))=_;simp[mapB];rfl⟩
theorem dataT_next{l:List (List UInt8)}{i:Nat}{s:List UInt8}(h:l[i]? = some s):dataT (l.take (i+1))=dataT (l.take i)++(hexT s++[10]):=by
 unfold dataT
 rw[List.take_add_one,h,List.flatMap_append]
 simp
theorem dataT_len{N:Nat}:∀ (l:List (List UInt8)),(∀ d ∈ l,d.length≤N)→(dataT l).length≤l.length * (2 * N+2)
 |[],_=>Nat.zero_le _
 |d :: l,h=>by
  have h1:=dataT_len l (fun x hx=>h x (List.mem_cons_of_mem _ hx))
  have h2:=h d (List.mem_cons_self ..)
  have h3:(hexT d).length≤2 * d.length+1:=by
   unfold hexT;split
   ·simp
   ·rw[hexL_len];omega
  have e:dataT (d :: l)=(hexT d++[10])++dataT l:=rfl
  rw[e,List.length_cons,Nat.add_mul]
  simp only[List.length_append,List.length_cons,List.length_nil]
  omega
set_option maxHeartbeats 16000000 in
theorem wheld_set(b c nm:List UInt8)(hc:c=b)(n1 n2 n3 n4:Nat)(z name:Bool)(data:List (List UInt8))(h1:n1≤65535)(h2:n2≤4294967295)(h3:n3≤255)(h4:n4≤4611686018428436480)(hb:b.length≤549755813888)(hd:data.length≤100)(hds:∀ d ∈ data,d.length≤1000000)(hk:(Held.mk nm n1 n2 z data n3 false name n4).ok=true) :
 COk Tryz.prog 46 [.ptr 0 0,(Held.mk nm n1 n2 z data n3 false name n4).V] [wK b] (fun r k=>r = .d (.int .i64 0)∧k=[wL (c++heldT (Held.mk nm n1 n2 z data n3 false name n4))]):=by
 have hn:isName nm:=held_name hk
 have hnl:=dtxt_len hn
 have l1:=dig_len n1 (by omega)
 have l2:=dig_len n2 (by omega)
 have l3:=dig_len n3 (by omega)
 have l4:=dig_len n4 (by omega)
 have l5:=dig_len data.length (by omega)
 have w1:IntKind.i64.wrap (n1:Int)=(n1:Int):=w64_in _ (by omega)
 have w2:IntKind.i64.wrap (n2:Int)=(n2:Int):=w64_in _ (by omega)
 have w3:IntKind.i64.wrap (n3:Int)=(n3:Int):=w64_in _ (by omega)
 have w5:IntKind.i64.wrap (data.length:Int)=(data.length:Int):=w64_in _ (by omega)
 cases b
 all_goals
  refine cOk_of_run (TT:=TT) (IN:=lookI [(99,Tryz.f99,4)]) TT_ok (INok_cons INok_nil Tryz.func99 (by kernel_rfl) (by kernel_rfl)) mixed 1000 Tryz.func46 rfl (enters Tryz.func46 (by kernel_rfl) rfl) 71 (by kernel_rfl) ?_
  conv=>whnf
  refine .one (.data _ (dcheck_ok _) rfl rfl ?_)
  rw[hk]
  conv=>whnf
  repeat(first|(refine brF rfl ?_;conv=>whnf)|(refine brT rfl ?_;conv=>whnf))
  refine .one (.data _ (print_ok nm) rfl rfl ?_)
  rw[show printT nm=(txtN nm,0) from if_pos hn]
  conv=>whnf
  repeat(first|(refine brF rfl ?_;conv=>whnf)|(refine brT rfl ?_;conv=>whnf))
  try rw[w1,w3,w2]
  first
   |refine .rel _ (wkS0x [115,101,116] _ (by simp)) (fun x ks' hR=>?_)
   |refine .rel _ (wlSx (_ :: _) [115,101,116] _ (by simp at hb ⊢;omega)) (fun x ks' hR=>?_)
  obtain⟨rfl,rfl⟩:=hR
  conv=>whnf
  refine .rel _ (wlBx _ 32 _ (by simp at hb ⊢ <;> omega)) (fun x ks' hR=>?_)
  obtain⟨rfl,rfl⟩:=hR
  conv=>whnf
  refine .rel _ (wlSx _ (txtN nm) _ (by simp at hb ⊢;omega)) (fun x ks' hR=>?_)
  obtain⟨rfl,rfl⟩:=hR
  conv=>whnf
  refine .once ?_
  conv=>whnf
  refine brT (by decide) ?_
  conv=>whnf
  refine⟨by decide,?_⟩
  conv=>whnf
  refine .rel _ (wlBx _ 32 _ (by simp only [List.length_append,List.length_cons,List.length_nil] at *;omega)) (fun x ks' hR=>?_)
  obtain⟨rfl,rfl⟩:=hR
  conv=>whnf
  refine .data _ (fmtI_ok n1 (by omega)) rfl rfl ?_
  conv=>whnf
  refine .mem _ _ (wlSx _ (Lib.decDigits n1) _ (by simp only [List.length_append,List.length_cons,List.length_nil] at *;omega)) ?_
  conv=>whnf
  refine .once ?_
  conv=>whnf
  refine brT (by decide) ?_
  conv=>whnf
  refine⟨by decide,?_⟩
  conv=>whnf
  refine .rel _ (wlBx _ 32 _ (by simp only [List.length_append,List.length_cons,List.length_nil] at *;omega)) (fun x ks' hR=>?_)
  obtain⟨rfl,rfl⟩:=hR
  conv=>whnf
  refine .data _ (fmtI_ok n3 (by omega)) rfl rfl ?_
  conv=>whnf
  refine .mem _ _ (wlSx _ (Lib.decDigits n3) _ (by simp only [List.length_append,List.length_cons,List.length_nil] at *;omega)) ?_
  conv=>whnf
  refine .once ?_
  conv=>whnf
  refine brT (by decide) ?_
  conv=>whnf
  refine⟨by decide,?_⟩
  conv=>whnf
  refine .rel _ (wlBx _ 32 _ (by simp only [List.length_append,List.length_cons,List.length_nil] at *;omega)) (fun x ks' hR=>?_)
  obtain⟨rfl,rfl⟩:=hR
  conv=>whnf
  refine .data _ (fmtI_ok n2 (by omega)) rfl rfl ?_
  conv=>whnf
  refine .mem _ _ (wlSx _ (Lib.decDigits n2) _ (by simp only [List.length_append,List.length_cons,List.length_nil] at *;omega)) ?_
  conv=>whnf
  refine .once ?_
  conv=>whnf
  refine brT (by decide) ?_
  conv=>whnf
  refine⟨by decide,?_⟩
  conv=>whnf
  refine .rel _ (wlBx _ 32 _ (by simp only [List.length_append,List.length_cons,List.length_nil] at *;omega)) (fun x ks' hR=>?_)
  obtain⟨rfl,rfl⟩:=hR
  conv=>whnf
  refine .data _ (fmtI_ok n4 (by omega)) rfl rfl ?_
  conv=>whnf
  refine .mem _ _ (wlSx _ (Lib.decDigits n4) _ (by simp only [List.length_append,List.length_cons,List.length_nil] at *;omega)) ?_
  conv=>whnf
  refine .once ?_
  conv=>whnf
  refine brT (by decide) ?_
  conv=>whnf
  refine⟨by decide,?_⟩
  conv=>whnf
  refine .rel _ (wlBx _ 32 _ (by simp only [List.length_append,List.length_cons,List.length_nil] at *;omega)) (fun x ks' hR=>?_)
  obtain⟨rfl,rfl⟩:=hR
  conv=>whnf
  refine .data _ (fmtI_ok data.length (by omega)) rfl rfl ?_
  conv=>whnf
  refine .mem _ _ (wlSx _ (Lib.decDigits data.length) _ (by simp only [List.length_append,List.length_cons,List.length_nil] at *;omega)) ?_
  conv=>whnf
  refine .once ?_
  conv=>whnf
  refine brF (by decide) ?_
  conv=>whnf
  refine .rel _ (wlBx _ 10 _ (by simp only [List.length_append,List.length_cons,List.length_nil] at *;omega)) (fun x ks' hR=>?_)
  obtain⟨rfl,rfl⟩:=hR
  conv=>whnf
  obtain⟨D,hD⟩:∃ D,D=c++[115,101,116]++[32]++txtN nm++[32]++Lib.decDigits n1++[32]++Lib.decDigits n3++[32]++Lib.decDigits n2++[32]++Lib.decDigits n4++[32]++Lib.decDigits data.length++[10]:=⟨_,rfl⟩
  have hDl:D.length≤549755820000:=by
   rw[hD,hc]
   simp only [List.length_append,List.length_cons,List.length_nil] at *
   omega
  refine .inv Nat (fun i=>i≤data.length) (fun i=>[(65,iV i)]) (fun i=>[(0,wL (D++dataT (data.take i)))]) (fun i=>data.length - i) ⟨0,[0,1,2,3],Nat.zero_le _,?_⟩ ?_
  ·rw[show dataT (data.take 0)=[] from rfl,List.append_nil,hD,hc]
   conv=>whnf
   repeat'(first|exact ⟨⟩|exact rfl|exact(fun _ _ _ _ h=>⟨packed_stable _,h⟩)|exact fun _=>Iff.rfl|exact fun _ _=>rfl|apply And.intro)
  intro i hi
  conv=>whnf
  refine⟨fun c0=>?_,fun c0=>?_⟩
  ·have c0':i<data.length:=(by have h:(i:Int)<data.length:=of_decide_eq_true c0;omega)
   have hw:IntKind.i64.wrap ((i:Int)+1)=((i+1:Nat):Int):=by rw[w64_in _ (by omega)];omega
   obtain⟨s,hs⟩:∃ s,data[i]?.getD []=s:=⟨_,rfl⟩
   have hsk:data[i]? = some s:=by rw[←hs,List.getElem?_eq_getElem c0'];rfl
   have hnx:=dataT_next hsk
   have hsl:=hds s (List.mem_of_getElem? hsk)
   have hdl:(dataT (data.take i)).length≤400000000:=by
    have h1:=dataT_len (N:=1000000) (data.take i) (fun d hd=>hds d (List.mem_of_mem_take hd))
    have h2:(data.take i).length≤100:=by rw[List.length_take];omega
    have h3:=Nat.mul_le_mul_right (2 * 1000000+2) h2
    omega
   conv=>whnf
   refine⟨⟨by omega,by show(i:Int)<(data.length:Int);omega⟩,?_⟩
   conv=>whnf
   rw[Int.toNat_natCast,hs]
   refine .rel _ (wdata_x _ s _ (by rw[List.length_append];omega) hsl) (fun x ks' hR=>?_)
   obtain⟨rfl,rfl⟩:=hR
   conv=>whnf
   rw[hw]
   refine⟨i+1,[0,1,2,3],c0',by show data.length - (i+1)<data.length - i;omega,?_⟩
   rw[hnx,show D++(dataT (data.take i)++(hexT s++[10]))=D++dataT (data.take i)++hexT s++[10] by simp]
   conv=>whnf
   repeat'(first|exact ⟨⟩|exact rfl|exact(fun _ _ _ _ h=>⟨packed_stable _,h⟩)|exact fun _=>Iff.rfl|exact fun _ _=>rfl|apply And.intro)
  ·have c0':i=data.length:=(by have h:¬ (i:Int)<data.length:=of_decide_eq_false c0;omega)
   subst c0'
   rw[List.take_length]
   conv=>whnf
   refine⟨[0],.d (.int .i64 0),[wL (D++dataT data)],rfl,rfl,rfl,?_,rfl,?_⟩
   ·repeat'(first|exact ⟨⟩|exact rfl|exact(fun _ _ _ _ h=>⟨packed_stable _,h⟩)|exact fun _=>Iff.rfl|exact fun _ _=>rfl|apply And.intro)
   ·exact congrArg (fun x=>[wL x]) (by rw[hD];simp[heldT,headT,numT])
end Go.Proofs.YtdfdlbnojmlpiaaGreatDoor
namespace Go.Proofs.YtdfdlbnojmlpiaaGreatDoor
open Go Go.Eng
set_option maxRecDepth 100000
structure Held.Fit(h:Held):Prop where
 inn:h.In
 few:h.data.length≤100
 len:∀ d ∈ h.data,d.length≤1000000
theorem wheld_all(b:List UInt8)(h:Held)(hf:h.Fit)(hk:h.ok=true)(hb:b.length≤549755813888):COk Tryz.prog 46 [.ptr 0 0,h.V] [wK b] (fun r k=>r = .d (.int .i64 0)∧k=[wL (b++heldT h)]):=by
 have hi:=hf.inn
 have htil:0≤h.til∧h.til≤4611686018428436480:=by
  apply Classical.byContradiction
  intro hc
  rw [Held.ok_til hc] at hk;cases hk
 obtain⟨nm,ty,ttl,z,data,rank,no,name,til⟩:=h
 obtain ⟨n1,rfl⟩:∃ n:Nat,ty=n:=⟨ty.toNat,by have:=hi.ty.1;simp only at this;omega⟩
 obtain ⟨n2,rfl⟩:∃ n:Nat,ttl=n:=⟨ttl.toNat,by have:=hi.ttl.1;simp only at this;omega⟩
 obtain ⟨n3,rfl⟩:∃ n:Nat,rank=n:=⟨rank.toNat,by have:=hi.rank.1;simp only at this;omega⟩
 obtain ⟨n4,rfl⟩:∃ n:Nat,til=n:=⟨til.toNat,by have:=htil.1;simp only at this;omega⟩
 have e1:n1≤65535:=by have:=hi.ty.2;simp only at this;omega
 have e2:n2≤4294967295:=by have:=hi.ttl.2;simp only at this;omega
 have e3:n3≤255:=by have:=hi.rank.2;simp only at this;omega
 have e4:n4≤4611686018428436480:=by have:=htil.2;simp only at this;omega
 cases no with
 |true=>exact wheld_none b b nm rfl n1 n2 n4 z name data n3 e1 e2 e4 (by omega) hk
 |false=>exact wheld_set b b nm rfl n1 n2 n3 n4 z name data e1 e2 e3 e4 hb hf.few hf.len hk
end Go.Proofs.YtdfdlbnojmlpiaaGreatDoor
namespace Go.Proofs.YtdfdlbnojmlpiaaGreatDoor
open Go Go.Eng
set_option maxRecDepth 100000
theorem bs0T_ok(t:TypeId):COk Tryz.prog 47 [.ptr 0 0] [pk (Bst.flT t .fresh)] (fun r k=>∃ b1,k=[pk (Bst.flT t b1)]∧(r = .d (.str [])∧b1 = .fresh)):=by
 refine COk.toThing (Bst.flT t) (pOk_of_run (TT:=TT) (IN:=lookI []) TT_ok INok_nil mixed 1000 Tryz.func47 rfl (enters Tryz.func47 (by kernel_rfl) rfl) 13 (by kernel_rfl) rfl ?_ ?_)
 ·rintro r l ⟨w1,_,rfl,_⟩
  rfl
 conv=>whnf
 refine⟨rfl,?_⟩
 conv=>whnf
 refine⟨[0],.d (.str []),Bst.flT t .fresh,rfl,rfl,rfl,?_,_,rfl,rfl,rfl⟩
 repeat'(first|exact ⟨⟩|exact rfl|exact fun _=>Iff.rfl|exact fun _ _=>rfl|exact renM_rests _ _|exact(List.length_append ..).symm|exact byteAt_cat _ _|apply And.intro)
end Go.Proofs.YtdfdlbnojmlpiaaGreatDoor
namespace Go.Proofs.YtdfdlbnojmlpiaaGreatDoor
open Go Go.Eng
set_option maxRecDepth 100000
theorem sindex_ok(s:List UInt8)(c:UInt8):FnOk Tryz.prog 205 [.d (.str s),.d (.str [c])] (.d (.int .i64 (Lib.indexByte s c))):=by
 refine⟨enters Tryz.func205 (by kernel_rfl) rfl,fun M w vs hV hM hl hd=>?_⟩
 match vs,hl with
 |[v0,v1],_ =>
  have h0:=den_str (hd 0 _ v0 rfl rfl)
  have h1:=den_str (hd 1 _ v1 rfl rfl)
  subst h0 h1
  refine(Any.stringslite_Index_one { Try.lays143 with } ⟨s.toArray⟩ c w).mono ?_
  rintro e w' ⟨rfl,rfl⟩
  exact⟨_,rfl,Step.refl _ _,.d (.int _ _)⟩
def cutB(s:List UInt8)(c:UInt8):List UInt8 × List UInt8 × Bool :=
 if Lib.indexByte s c<0 then (s,[],false) else (s.take (Lib.indexByte s c).toNat,s.drop ((Lib.indexByte s c).toNat+1),true)
theorem indexByte_lt:∀ (s:List UInt8) (c:UInt8),Lib.indexByte s c<s.length
 |[],_=>by show(-1:Int)<0;omega
 |b :: s,c=>by
  have h1:=indexByte_lt s c
  have h2:=Lib.indexByte_ge s c
  simp only[Lib.indexByte,List.length_cons]
  split
  ·omega
  ·split <;> omega
set_option maxHeartbeats 2000000 in
theorem bcut_ok(s:List UInt8)(c:UInt8)(hs:s.length≤1099511627776):FnOk Tryz.prog 157 [.d (.str s),.d (.str [c])] (.tup [.d (.str (cutB s c).1),.d (.str (cutB s c).2.1),.d (.bool (cutB s c).2.2)]):=by
 refine fnOk_of_run (TT:=TT) (IN:=lookI [(189,Tryz.f189,2)]) TT_ok (INok_cons INok_nil Tryz.func189 (by kernel_rfl) (by kernel_rfl)) mixed 1000 Tryz.func157 rfl (enters Tryz.func157 (by kernel_rfl) rfl) rfl 11 (by kernel_rfl) ?_
 conv=>whnf
 refine .one (.data _ (sindex_ok s c) rfl rfl ?_)
 have hlt:=indexByte_lt s c
 unfold cutB
 conv=>whnf
 by_cases h:Lib.indexByte s c<0
 ·refine brF (decide_eq_false (by omega)) ?_
  rw[if_pos h]
  conv=>whnf
  exact⟨rfl,rfl,rfl,trivial⟩
 ·rw[if_neg h]
  refine brT (decide_eq_true (by omega)) ?_
  generalize Lib.indexByte s c=i at h hlt ⊢
  obtain⟨i,rfl⟩:=Int.eq_ofNat_of_zero_le (by omega:0≤i)
  conv=>whnf
  refine⟨by omega,?_⟩
  conv=>whnf
  have e1:IntKind.i64.wrap ((i:Int)+(([c]:List UInt8).length:Nat))=((i+1:Nat):Int):=by rw[w64_in _ (by simp only[List.length_cons,List.length_nil];omega)];simp only[List.length_cons,List.length_nil];omega
  rw[e1]
  refine⟨by omega,?_⟩
  conv=>whnf
  have e2:sub s 0 (i:Int)=s.take i:=by simp[sub]
  have e3:sub s ((i+1:Nat):Int) (s.length:Int)=s.drop (i+1):=by
   unfold sub
   rw[Int.toNat_natCast,Int.toNat_natCast,←List.length_drop,List.take_length]
  rw[e2,e3]
  exact⟨rfl,rfl,rfl,trivial⟩
end Go.Proofs.YtdfdlbnojmlpiaaGreatDoor
namespace Go.Proofs.YtdfdlbnojmlpiaaGreatDoor
open Go Go.Eng
set_option maxRecDepth 100000
theorem index_ok(s:List UInt8)(c:UInt8):FnOk Tryz.prog 178 [.d (.str s),.d (.str [c])] (.d (.int .i64 (Lib.indexByte s c))):=by
 refine⟨enters Tryz.func178 (by kernel_rfl) rfl,fun M w vs _ hM hl hd=>?_⟩
 match vs,hl with
 |[v0,v1],_ =>
  have h0:=den_str (hd 0 _ v0 rfl rfl)
  have h1:=den_str (hd 1 _ v1 rfl rfl)
  subst h0 h1
  refine(Try.strings_Index_one ⟨s.toArray⟩ c w).mono ?_
  rintro e w' ⟨rfl,rfl⟩
  exact⟨_,rfl,Step.refl _ _,.d (.int _ _)⟩
theorem err_at{w:World}{fp:Nat→Nat→Prop}(h:VOk w fp)(g:Nat)(hg:g=2∨g=3):∃ t x,w.cell? ⟨g,0,none⟩=some (.iface t x):=by
 have hin:(g,isErr) ∈ evs:=by
  rcases hg with rfl|rfl
  ·exact .head _
  ·exact .tail _ (.head _)
 obtain⟨⟨vs,t,fz,e,t',x,rfl⟩,_⟩:=h _ hin
 refine⟨t',x,?_⟩
 simp at e
 simp[World.cell?,e]
theorem bytes_step(w:World)(s:List UInt8):Step (fun _=>False) w (Lib.bytesWorld w 5 ⟨s.toArray⟩):=by
 exact⟨rfl,rfl,rfl,by rw[Lib.bytesWorld_size];omega,fun b hb _=>Lib.bytesWorld_at_old w _ _ b hb,fun h=>(show False from h).elim⟩
end Go.Proofs.YtdfdlbnojmlpiaaGreatDoor
namespace Go.Proofs.YtdfdlbnojmlpiaaGreatDoor
open Go Go.Eng
set_option maxRecDepth 100000
def wordV(B:Nat)(s:List UInt8):Nat:=match Lib.parseUintB B s with
 | .ok u=>u
 | .range=>2 ^ B - 1
 |_=>0
theorem wordV_of{B:Nat}{s:List UInt8}{u:Nat}(h:wordN B s=some u):wordV B s=u:=by
 unfold wordN at h
 unfold wordV
 split at h
 ·cases h
  rename_i h1
  rw[h1]
 ·cases h
theorem parse64_ok(s:List UInt8)(hs:s.length≤1099511627776):FnOk Tryz.prog 71 [.d (.str s),.d (.int .i64 10),.d (.int .i64 64)] (.tup [.d (.int .u64 (wordV 64 s:Nat)),.err (wordN 64 s).isNone]):=by
 refine⟨enters Tryz.func71 (by kernel_rfl) rfl,fun M w vs hV hM hl hd=>?_⟩
 match vs,hl with
 |[v0,v1,v2],_ =>
  have h0:=den_str (hd 0 _ v0 rfl rfl)
  have h1:=den_int (hd 1 _ v1 rfl rfl)
  have h2:=den_int (hd 2 _ v2 rfl rfl)
  subst h0 h1 h2
  have hsz:(⟨s.toArray⟩:ByteArray).size=s.length:=rfl
  unfold wordN wordV
  cases hp:Lib.parseUintB 64 s
  ·rename_i u
   refine(Try.strconv_ParseUint_10_at64_ok ⟨s.toArray⟩ (by rw[hsz];omega) u hp w).mono ?_
   rintro e w' ⟨rfl,hw⟩
   refine⟨_,rfl,?_,.tup _ [.int .u64 u,.nilIface] rfl (fun j t v ht hv=>?_)⟩
   ·rcases hw with rfl|rfl
    ·exact Step.refl _ _
    ·exact bytes_step w s
   ·match j with
    |0=>cases ht;cases hv;exact .d (.int _ _)
    |1=>cases ht;cases hv;exact .err _ _ (fun h=>by cases h) (fun _=>rfl)
  ·obtain⟨t,x,hc⟩:=err_at hV 2 (.inl rfl)
   refine(Try.strconv_ParseUint_10_at64_syntax ⟨s.toArray⟩ (by rw[hsz];omega) hp _ w hc (.inr ⟨t,x,rfl⟩)).mono ?_
   rintro e w' ⟨N,rfl,_,_,hb⟩
   refine⟨_,rfl,Step.of_below _ hb,.tup _ [.int .u64 0,.iface _ _] rfl (fun j t v ht hv=>?_)⟩
   match j with
   |0=>cases ht;cases hv;exact .d (.int _ _)
   |1=>cases ht;cases hv;exact .err _ _ (fun _=>⟨_,_,rfl⟩) (fun h=>by cases h)
  ·obtain⟨t,x,hc⟩:=err_at hV 3 (.inr rfl)
   refine(Try.strconv_ParseUint_10_at64_range ⟨s.toArray⟩ (by rw[hsz];omega) hp _ w hc (.inr ⟨t,x,rfl⟩)).mono ?_
   rintro e w' ⟨N,rfl,_,_,hb⟩
   refine⟨_,rfl,Step.of_below _ hb,.tup _ [.int .u64 _,.iface _ _] rfl (fun j t v ht hv=>?_)⟩
   match j with
   |0=>cases ht;cases hv;exact .d (.int _ _)
   |1=>cases ht;cases hv;exact .err _ _ (fun _=>⟨_,_,rfl⟩) (fun h=>by cases h)
end Go.Proofs.YtdfdlbnojmlpiaaGreatDoor
namespace Go.Proofs.YtdfdlbnojmlpiaaGreatDoor
open Go Go.Eng
set_option maxRecDepth 100000
def padL(N:Nat)(l:List (List UInt8)):List (List UInt8):=l++List.replicate (N - l.length) []
theorem padL_put(N:Nat)(l:List (List UInt8))(x:List UInt8)(h:l.length<N)(j:Nat):oneF l.length 0 [.str x] (strs (padL N l)) j=strs (padL N (l++[x])) j:=by
 unfold oneF strs padL
 by_cases e:j=l.length
 ·subst e
  simp[putD]
 ·rw[if_neg e]
  congr 2
  by_cases h1:j<l.length
  ·rw[List.getElem?_append_left h1,List.getElem?_append_left (by simp;omega),List.getElem?_append_left h1]
  ·rw[List.getElem?_append_right (by omega),List.getElem?_append_right (by simp;omega),List.getElem?_replicate,List.getElem?_replicate]
   simp only[List.length_append,List.length_cons,List.length_nil]
   split <;> split <;> first|rfl|omega
theorem idx_lt(c:UInt8):∀ s:List UInt8,Lib.indexByte s c<s.length∧-1≤Lib.indexByte s c
 |[]=>by simp[Lib.indexByte]
 |b :: s=>by
  have ih:=idx_lt c s
  simp only[Lib.indexByte,List.length_cons]
  split
  ·omega
  ·split <;> omega
structure SnSt where
 d:List (List UInt8)
 r:List UInt8
end Go.Proofs.YtdfdlbnojmlpiaaGreatDoor
namespace Go.Proofs.YtdfdlbnojmlpiaaGreatDoor
open Go Go.Eng
set_option maxRecDepth 100000
def linesT(l:List Held):List UInt8:=l.flatMap heldT
def pcs(s:List UInt8):List (List UInt8):=cutN (Lib.countByte s 32) s
def lineF(t:List UInt8)(b:Bool):List UInt8 × List UInt8 × Bool :=
 if Lib.indexByte t 10<0 then ([],t,true) else (t.take (Lib.indexByte t 10).toNat,t.drop ((Lib.indexByte t 10).toNat+1),b)
def numF(w:List UInt8)(most:Nat):Option Nat:=match wordN 64 w with
 |none=>none
 |some u=>if u > most∨(w.head? = some 48∧1<w.length) then none else some u
def nameF(w:List UInt8):Option (List UInt8):=if (parseT w).2=0∧(printT (parseT w).1).2=0∧(printT (parseT w).1).1=w then some (parseT w).1 else none
def dataP:Nat→List UInt8→Bool→List (List UInt8)→List (List UInt8) × List UInt8 × Bool
 |0,t,b,acc=>(acc,t,b)
 |k+1,t,b,acc=>dataP k (lineF t b).2.1 ((lineF t b).2.2 || (unhexT (lineF t b).1).isNone) (acc++[(unhexT (lineF t b).1).getD []])
def setB(w1 w2 w3 w4 w5 w6:List UInt8)(b:Bool):Bool:=b || (nameF w1).isNone || (numF w2 65535).isNone || (numF w3 4).isNone || (numF w4 4294967295).isNone || (numF w5 4611686018428436480).isNone || (numF w6 64).isNone
def setF(w1 w2 w3 w4 w5 w6 t:List UInt8)(b:Bool):Held × List UInt8 × Bool :=
 let d:=dataP ((numF w6 64).getD 0) t (setB w1 w2 w3 w4 w5 w6 b) []
 (⟨(nameF w1).getD [],((numF w2 65535).getD 0:Nat),((numF w4 4294967295).getD 0:Nat),d.1.isEmpty,d.1,((numF w3 4).getD 0:Nat),false,false,((numF w5 4611686018428436480).getD 0:Nat)⟩,d.2.1,d.2.2)
def noneF(w1 w2 w3 w4 t:List UInt8)(b:Bool):Held × List UInt8 × Bool :=
 (⟨(nameF w1).getD [],((numF w2 65535).getD 0:Nat),((numF w3 4294967295).getD 0:Nat),true,[],4,true,decide ((((numF w2 65535).getD 0:Nat):Int)=0),((numF w4 4611686018428436480).getD 0:Nat)⟩,t,
  b || (nameF w1).isNone || (numF w2 65535).isNone || (numF w3 4294967295).isNone || (numF w4 4611686018428436480).isNone)
def elseF(t:List UInt8):Held × List UInt8 × Bool:=(⟨[],0,0,true,[],0,false,false,0⟩,t,true)
def wordsF(ws:List (List UInt8))(t:List UInt8)(b:Bool):Held × List UInt8 × Bool:=match ws with
 |[w0,w1,w2,w3,w4,w5,w6]=>if w0=[115,101,116] then setF w1 w2 w3 w4 w5 w6 t b else elseF t
 |[w0,w1,w2,w3,w4]=>if w0=[110,111,110,101] then noneF w1 w2 w3 w4 t b else elseF t
 |_=>elseF t
def heldF(t:List UInt8)(b:Bool):Held × List UInt8 × Bool:=wordsF (pcs (lineF t b).1) (lineF t b).2.1 (lineF t b).2.2
def parseD:Nat→List Held→List UInt8→Option (List Held)
 |0,acc,t=>if t=[] then some acc else none
 |k+1,acc,t=>if t=[] then some acc else if acc.length=4096 then none else
  if (heldF t false).2.2=true∨(heldF t false).1.ok=false then none else parseD k (acc++[(heldF t false).1]) (heldF t false).2.1
theorem idx_split(c:UInt8):∀ s:List UInt8,0≤Lib.indexByte s c→s=s.take (Lib.indexByte s c).toNat++c :: s.drop ((Lib.indexByte s c).toNat+1)
 |[],h=>by simp [Lib.indexByte] at h
 |b :: s,h=>by
  have ih:=idx_split c s
  have hge:=Lib.indexByte_ge s c
  simp only [Lib.indexByte] at h ⊢
  split at h
  ·rename_i e
   rw[if_pos e]
   simp at e
   subst e
   simp
  ·rename_i e
   rw[if_neg e]
   split at h
   ·omega
   ·rename_i e2
    rw[if_neg e2]
    have e2:Lib.indexByte s c≠-1:=by simpa using e2
    have e3:(Lib.indexByte s c+1).toNat=(Lib.indexByte s c).toNat+1:=by omega
    rw[e3]
    simp only[List.take_succ_cons,List.drop_succ_cons,List.cons_append]
    rw[←ih (by omega)]
theorem line_cat(x y:List UInt8)(b:Bool)(h:∀ c ∈ x,c≠10):lineF (x++10 :: y) b=(x,y,b):=by
 have hi:=idx_cat 10 x y h
 unfold lineF
 rw[hi,if_neg (by omega),Int.toNat_natCast]
 simp
theorem line_of{t:List UInt8}{b:Bool}(h:(lineF t b).2.2=false):b=false∧t=(lineF t b).1++10 :: (lineF t b).2.1:=by
 unfold lineF at h ⊢
 split at h
 ·cases h
 ·rename_i h1
  rw[if_neg h1]
  exact⟨h,idx_split 10 t (by omega)⟩
theorem line_le(t:List UInt8)(b:Bool):(lineF t b).1.length≤t.length∧(lineF t b).2.1.length≤t.length:=by
 unfold lineF
 split
 ·simp
 ·simp only[List.length_take,List.length_drop];omega
def joinW:List (List UInt8)→List UInt8
 |[]=>[]
 |[w]=>w
 |w :: v :: r=>w++32 :: joinW (v :: r)
theorem cutN_ne:∀ (k:Nat) (s:List UInt8),cutN k s≠[]
 |0,s=>by simp[cutN]
 |k+1,s=>by simp only[cutN];split <;> simp
theorem cutN_join:∀ (k:Nat) (s:List UInt8),joinW (cutN k s)=s
 |0,s=>rfl
 |k+1,s=>by
  simp only[cutN]
  split
  ·rfl
  ·rename_i h
   have ih:=cutN_join k (s.drop ((Lib.indexByte s 32).toNat+1))
   have hs:=idx_split 32 s (by omega)
   have hne:=cutN_ne k (s.drop ((Lib.indexByte s 32).toNat+1))
   obtain⟨v,r,hvr⟩:=List.exists_cons_of_ne_nil hne
   rw [hvr] at ih ⊢
   show s.take _++32 :: joinW (v :: r)=s
   rw[ih]
   exact hs.symm
theorem pcs_join(s:List UInt8):joinW (pcs s)=s:=cutN_join _ s
theorem count_app(c:UInt8)(x y:List UInt8)(h:∀ b ∈ x,b≠c):Lib.countByte (x++c :: y) c=Lib.countByte y c+1:=by
 unfold Lib.countByte
 rw[List.count_append,List.count_eq_zero.2 (fun hm=>h c hm rfl),List.count_cons_self]
 omega
theorem count_no(c:UInt8)(x:List UInt8)(h:∀ b ∈ x,b≠c):Lib.countByte x c=0:=List.count_eq_zero.2 (fun hm=>h c hm rfl)
theorem pcs_cat(x y:List UInt8)(h:∀ b ∈ x,b≠32):pcs (x++32 :: y)=x :: pcs y:=by
 unfold pcs
 rw[count_app 32 x y h]
 exact cutN_cat _ x y h
theorem pcs_last(x:List UInt8)(h:∀ b ∈ x,b≠32):pcs x=[x]:=by
 unfold pcs
 rw[count_no 32 x h]
 rfl
theorem magM_dec64:∀ (n:Nat) (r:List UInt8),n≤18446744073709551615→Lib.parseUintM 18446744073709551615 0 (Lib.decDigits n++r)=Lib.parseUintM 18446744073709551615 n r:=by
 intro n
 induction n using Nat.strongRecOn with
 |ind n ih =>
  intro r hn
  have hd:∀ k,k<10→48≤(UInt8.ofNat (48+k)).toNat∧(UInt8.ofNat (48+k)).toNat≤57∧(UInt8.ofNat (48+k)).toNat - 48=k:=by decide
  rw[Lib.decDigits]
  split
  ·rename_i h
   obtain⟨h1,h2,h3⟩:=hd n h
   simp only[List.cons_append,List.nil_append,Lib.parseUintM]
   rw[if_pos ⟨h1,h2⟩,if_neg (by omega),h3,if_neg (by omega)]
   simp
  ·rename_i h
   obtain⟨h1,h2,h3⟩:=hd (n % 10) (by omega)
   rw[List.append_assoc,ih (n / 10) (by omega) _ (by omega)]
   simp only[List.cons_append,List.nil_append,Lib.parseUintM]
   rw[if_pos ⟨h1,h2⟩,if_neg (by omega),h3,show n / 10 * 10+n % 10=n by omega,if_neg (by omega)]
theorem wordN64_dec{n:Nat}(h:n≤18446744073709551615):wordN 64 (Lib.decDigits n)=some n:=by
 unfold wordN Lib.parseUintB
 rw[if_neg (dec_ne n),show 2 ^ 64 - 1=18446744073709551615 by decide]
 have:=magM_dec64 n [] h
 rw [List.append_nil] at this
 rw[this]
 rfl
theorem dec_head(n:Nat):0<n→(Lib.decDigits n).head?≠some 48:=by
 induction n using Nat.strongRecOn with
 |ind n ih =>
  intro hn
  have hd:∀ k,k<10→0<k→(UInt8.ofNat (48+k))≠48:=by decide
  rw[Lib.decDigits]
  split
  ·rename_i h
   intro e
   simp only [List.head?_cons,Option.some.injEq] at e
   exact hd n h hn e
  ·rename_i h
   have:=ih (n / 10) (by omega) (by omega)
   obtain⟨c,r,hcr⟩:=List.exists_cons_of_ne_nil (dec_ne (n / 10))
   rw [hcr] at this ⊢
   exact this
theorem numF_dec{n m:Nat}(h:n≤m)(hm:m≤18446744073709551615):numF (Lib.decDigits n) m=some n:=by
 unfold numF
 rw[wordN64_dec (by omega)]
 simp only
 rw[if_neg]
 rintro (h1|⟨h1,h2⟩)
 ·omega
 ·rcases Nat.eq_zero_or_pos n with h3|h3
  ·subst h3
   rw [Lib.decDigits,dif_pos (by decide)] at h2
   simp at h2
  ·exact dec_head n h3 h1
theorem dec_step{a d:Nat}(ha:0<a)(hd:d<10):Lib.decDigits (a * 10+d)=Lib.decDigits a++[UInt8.ofNat (48+d)]:=by
 rw[Lib.decDigits,dif_neg (by omega),show(a * 10+d) / 10=a by omega,show(a * 10+d) % 10=d by omega]
theorem dig_back{c:UInt8}(h:48≤c.toNat∧c.toNat≤57):UInt8.ofNat (48+(c.toNat - 48))=c:=by
 rw[show 48+(c.toNat - 48)=c.toNat by omega]
 exact UInt8.ofNat_toNat
theorem mag_back(M:Nat):∀ (l:List UInt8) (acc u:Nat),0<acc→Lib.parseUintM M acc l = .ok u→Lib.decDigits u=Lib.decDigits acc++l
 |[],acc,u,h,e=>by
  simp only [Lib.parseUintM] at e
  injection e with e
  rw[e,List.append_nil]
 |c :: r,acc,u,h,e=>by
  simp only [Lib.parseUintM] at e
  split at e
  ·rename_i hc
   split at e
   ·cases e
   ·split at e
    ·cases e
    ·rw[mag_back M r _ u (by omega) e,dec_step h (by omega),dig_back hc]
     simp
  ·cases e
theorem numF_of{w:List UInt8}{m u:Nat}(h:numF w m=some u):u≤m∧Lib.decDigits u=w:=by
 unfold numF wordN at h
 generalize hp:Lib.parseUintB 64 w=q at h
 cases q
 ·rename_i v
  simp only at h
  split at h
  ·cases h
  ·rename_i h1
   cases h
   refine⟨by omega,?_⟩
   unfold Lib.parseUintB at hp
   split at hp
   ·cases hp
   ·rename_i hne
    obtain⟨c,r,rfl⟩:=List.exists_cons_of_ne_nil hne
    simp only [Lib.parseUintM] at hp
    split at hp
    ·rename_i hc
     rw [if_neg (by omega)] at hp
     split at hp
     ·cases hp
     ·rw [Nat.zero_mul,Nat.zero_add] at hp
      have hd:Lib.decDigits (c.toNat - 48)=[c]:=by rw[Lib.decDigits,dif_pos (by omega),dig_back hc]
      rcases Nat.eq_zero_or_pos (c.toNat - 48) with h0|h0
      ·have hc48:c=48:=by
        have:=dig_back hc
        rw [h0] at this
        exact this.symm
       have hr:r=[]:=by
        apply Classical.byContradiction
        intro hr
        apply h1
        refine .inr ⟨by rw[hc48];rfl,?_⟩
        have:=List.length_pos_iff.2 hr
        simp only[List.length_cons];omega
       subst hr
       simp only [Lib.parseUintM] at hp
       injection hp with hp
       rw[←hp,hd]
      ·have:=mag_back _ r _ _ h0 hp
       rw[this,hd]
       rfl
    ·cases hp
 ·cases h
 ·cases h
theorem nameF_of{w n:List UInt8}(h:nameF w=some n):isName n∧txtN n=w:=by
 unfold nameF at h
 split at h
 ·rename_i h1
  cases h
  obtain⟨_,h2,h3⟩:=h1
  unfold printT at h2 h3
  split at h2
  ·rename_i hn
   rw [if_pos hn] at h3
   exact⟨hn,h3⟩
  ·cases h2
 ·cases h
theorem nameF_txt{n:List UInt8}(h:isName n):nameF (txtN n)=some n:=by
 unfold nameF
 rw[parse_txt h]
 have:printT n=(txtN n,0):=if_pos h
 rw[this]
 simp
theorem hexC_back:∀ a:UInt8,0≤Lib.indexByte hexD a→hexC (Lib.indexByte hexD a).toNat=a:=fun a=>by
 have:∀ n:Nat,n<256→0≤Lib.indexByte hexD (UInt8.ofNat n)→hexC (Lib.indexByte hexD (UInt8.ofNat n)).toNat=UInt8.ofNat n:=by decide +kernel
 have:=this a.toNat a.toNat_lt
 rwa [UInt8.ofNat_toNat] at this
theorem unhexL_of:∀ (s d:List UInt8),unhexL s=some d→hexL d=s
 |[],d,h=>by cases h;rfl
 |[_],d,h=>by cases h
 |a :: b :: q,d,h=>by
  simp only [unhexL] at h
  split at h
  ·cases h
  ·rename_i hab
   cases hq:unhexL q with
   |none=>rw [hq] at h;cases h
   |some x =>
    rw [hq] at h
    cases h
    have ih:=unhexL_of q x hq
    have ha:=hexC_back a (by omega)
    have hb:=hexC_back b (by omega)
    have la:=hexI_lt a
    have lb:=hexI_lt b
    simp only[hexL,ih]
    have e:(UInt8.ofNat (16 * (Lib.indexByte hexD a).toNat+(Lib.indexByte hexD b).toNat)).toNat=16 * (Lib.indexByte hexD a).toNat+(Lib.indexByte hexD b).toNat:=toNat_ofNat (by omega)
    rw[e,show(16 * (Lib.indexByte hexD a).toNat+(Lib.indexByte hexD b).toNat) / 16=(Lib.indexByte hexD a).toNat by omega,show(16 * (Lib.indexByte hexD a).toNat+(Lib.indexByte hexD b).toNat) % 16=(Lib.indexByte hexD b).toNat by omega,ha,hb]
theorem unhexT_of{s d:List UInt8}(h:unhexT s=some d):hexT d=s∧d.length≤4096:=by
 unfold unhexT at h
 split at h
 ·rename_i e
  cases h
  exact⟨e ▸ rfl,by simp⟩
 ·split at h
  ·cases h
  ·rename_i h1 h2
   have hl:=unhexL_out s d h
   have hne:d≠[]:=fun e=>by
    apply h2
    left
    rw [e] at hl
    exact List.length_eq_zero_iff.1 (by simpa using hl)
   refine⟨?_,by omega⟩
   unfold hexT
   rw[if_neg hne]
   exact unhexL_of s d h
theorem dataP_of:∀ (k:Nat) (t:List UInt8) (b:Bool) (acc:List (List UInt8)),(dataP k t b acc).2.2=false→b=false∧∃ l:List (List UInt8),(dataP k t b acc).1=acc++l∧l.length=k∧t=dataT l++(dataP k t b acc).2.1∧∀ d ∈ l,d.length≤4096
 |0,t,b,acc,h=>⟨h,[],by simp[dataP],rfl,rfl,fun d hd=>by cases hd⟩
 |k+1,t,b,acc,h=>by
  simp only [dataP] at h ⊢
  obtain⟨h1,l,h2,h3,h4,h5⟩:=dataP_of k _ _ _ h
  simp only [Bool.or_eq_false_iff] at h1
  obtain⟨hb,ht⟩:=line_of h1.1
  cases hu:unhexT (lineF t b).1 with
  |none=>rw [hu] at h1;cases h1.2
  |some d =>
   rw [hu] at h2 h4
   obtain⟨hd1,hd2⟩:=unhexT_of hu
   refine⟨hb,d :: l,?_,by simp[h3],?_,fun x hx=>?_⟩
   ·rw[h2];simp
   ·have e:dataT (d :: l)=(hexT d++[10])++dataT l:=rfl
    rw[e,hd1,List.append_assoc]
    rw[←h4]
    simpa using ht
   ·rcases List.mem_cons.1 hx with rfl|hx
    ·exact hd2
    ·exact h5 x hx
end Go.Proofs.YtdfdlbnojmlpiaaGreatDoor
namespace Go.Proofs.YtdfdlbnojmlpiaaGreatDoor
open Go Go.Eng
set_option maxRecDepth 100000
theorem some_of{α:Type}{o:Option α}(d:α)(h:o.isNone=false):o=some (o.getD d):=by cases o <;> simp at h ⊢
theorem wordsF_back{ws:List (List UInt8)}{t:List UInt8}{b:Bool}(h:(wordsF ws t b).2.2=false):b=false∧joinW ws++10 :: t=heldT (wordsF ws t b).1++(wordsF ws t b).2.1∧(wordsF ws t b).1.Fit:=by
 unfold wordsF at h ⊢
 split at h
 ·rename_i w0 w1 w2 w3 w4 w5 w6
  split at h
  ·rename_i e
   rw[if_pos e]
   subst e
   unfold setF at h ⊢
   simp only at h ⊢
   obtain⟨hb,l,h1,h2,h3,h4⟩:=dataP_of _ _ _ _ h
   unfold setB at hb
   simp only [Bool.or_eq_false_iff] at hb
   obtain⟨⟨⟨⟨⟨⟨hb,n1⟩,n2⟩,n3⟩,n4⟩,n5⟩,n6⟩:=hb
   generalize dataP ((numF w6 64).getD 0) t (setB w1 w2 w3 w4 w5 w6 b) []=D at h h1 h3 ⊢
   obtain⟨d1,d2,d3⟩:=D
   simp only [List.nil_append] at h h1 h3 ⊢
   subst h1
   obtain⟨m1,e1⟩:=nameF_of (some_of [] n1)
   obtain⟨m2,e2⟩:=numF_of (some_of 0 n2)
   obtain⟨m3,e3⟩:=numF_of (some_of 0 n3)
   obtain⟨m4,e4⟩:=numF_of (some_of 0 n4)
   obtain⟨m5,e5⟩:=numF_of (some_of 0 n5)
   obtain⟨m6,e6⟩:=numF_of (some_of 0 n6)
   refine⟨hb,?_,⟨⟨?_,?_,?_,?_⟩,?_,?_⟩⟩
   ·unfold heldT headT numT
    simp only[Bool.false_eq_true,if_false,Int.toNat_natCast,e1,e2,e3,e4,e5,h2,e6]
    rw[h3]
    simp[joinW]
   ·show(0:Int)≤((_:Nat):Int)∧((_:Nat):Int)≤65535;omega
   ·show(0:Int)≤((_:Nat):Int)∧((_:Nat):Int)≤4294967295;omega
   ·show(0:Int)≤((_:Nat):Int)∧((_:Nat):Int)≤255;omega
   ·show(-9223372036854775808:Int)≤((_:Nat):Int)∧((_:Nat):Int)≤9223372036854775807;omega
   ·show d1.length≤100;omega
   ·intro d hd
    have:=h4 d hd
    omega
  ·cases h
 ·rename_i w0 w1 w2 w3 w4
  split at h
  ·rename_i e
   rw[if_pos e]
   subst e
   unfold noneF at h ⊢
   simp only [Bool.or_eq_false_iff] at h ⊢
   obtain⟨⟨⟨⟨hb,n1⟩,n2⟩,n3⟩,n4⟩:=h
   obtain⟨m1,e1⟩:=nameF_of (some_of [] n1)
   obtain⟨m2,e2⟩:=numF_of (some_of 0 n2)
   obtain⟨m3,e3⟩:=numF_of (some_of 0 n3)
   obtain⟨m4,e4⟩:=numF_of (some_of 0 n4)
   refine⟨hb,?_,⟨⟨?_,?_,?_,?_⟩,?_,?_⟩⟩
   ·unfold heldT headT numT
    simp only[if_true,Int.toNat_natCast,e1,e2,e3,e4]
    simp[joinW]
   ·show(0:Int)≤((_:Nat):Int)∧((_:Nat):Int)≤65535;omega
   ·show(0:Int)≤((_:Nat):Int)∧((_:Nat):Int)≤4294967295;omega
   ·show(0:Int)≤4∧(4:Int)≤255;omega
   ·show(-9223372036854775808:Int)≤((_:Nat):Int)∧((_:Nat):Int)≤9223372036854775807;omega
   ·show(0:Nat)≤100;omega
   ·intro d hd
    cases hd
  ·cases h
 ·cases h
theorem heldF_back{t:List UInt8}(h:(heldF t false).2.2=false):t=heldT (heldF t false).1++(heldF t false).2.1∧(heldF t false).1.Fit∧(heldF t false).2.1.length<t.length:=by
 unfold heldF at h ⊢
 obtain⟨h1,h2,h3⟩:=wordsF_back h
 obtain⟨_,h4⟩:=line_of h1
 rw [pcs_join] at h2
 have e:t=heldT (wordsF (pcs (lineF t false).1) (lineF t false).2.1 (lineF t false).2.2).1++(wordsF (pcs (lineF t false).1) (lineF t false).2.1 (lineF t false).2.2).2.1:=by
  rw[←h2];exact h4
 refine⟨e,h3,?_⟩
 have hl:=congrArg List.length e
 generalize wordsF (pcs (lineF t false).1) (lineF t false).2.1 (lineF t false).2.2=W at hl ⊢
 have:0<(heldT W.1).length:=by
  unfold heldT headT
  split <;> simp
 rw [List.length_append] at hl
 omega
theorem parseD_back:∀ (k:Nat) (acc:List Held) (t:List UInt8) (r:List Held),parseD k acc t=some r→acc.length≤4096→∃ l,r=acc++l∧linesT l=t∧r.length≤4096∧∀ h ∈ l,h.ok=true∧h.Fit
 |0,acc,t,r,h,hl=>by
  unfold parseD at h
  split at h
  ·rename_i e
   cases h
   exact⟨[],by simp,by rw[e];rfl,hl,fun x hx=>by cases hx⟩
  ·cases h
 |k+1,acc,t,r,h,hl=>by
  unfold parseD at h
  split at h
  ·rename_i e
   cases h
   exact⟨[],by simp,by rw[e];rfl,hl,fun x hx=>by cases hx⟩
  ·split at h
   ·cases h
   ·rename_i hne
    split at h
    ·cases h
    ·rename_i hbad
     obtain⟨l,h1,h2,h3,h4⟩:=parseD_back k _ _ r h (by rw[List.length_append];simp;omega)
     have hb1:(heldF t false).2.2=false:=by
      cases e:(heldF t false).2.2
      ·rfl
      ·exact absurd (.inl e) hbad
     have hb2:(heldF t false).1.ok=true:=by
      cases e:(heldF t false).1.ok
      ·exact absurd (.inr e) hbad
      ·rfl
     obtain⟨f1,f2,_⟩:=heldF_back hb1
     refine⟨(heldF t false).1 :: l,by rw[h1];simp,?_,h3,fun x hx=>?_⟩
     ·have e:linesT ((heldF t false).1 :: l)=heldT (heldF t false).1++linesT l:=rfl
      rw[e,h2]
      exact f1.symm
     ·rcases List.mem_cons.1 hx with rfl|hx
      ·exact⟨hb2,f2⟩
      ·exact h4 x hx
theorem dec_no10(n:Nat):∀ b ∈ Lib.decDigits n,b≠10:=fun b hb e=>by
 have:=dec_all n b hb
 rw [e] at this
 exact absurd this.1 (by decide)
theorem escB_no10(c:UInt8):∀ b ∈ escB c,b≠10:=by
 have hd:=behB_dig c.toNat c.toNat_lt
 have hn:∀ x:UInt8,isDig x=true→x≠10:=fun x hx e=>by rw [e] at hx;exact absurd hx (by decide)
 unfold escB
 split
 ·rename_i h
  intro b hb
  simp only [List.mem_cons,List.mem_nil_iff,or_false] at hb
  rcases hb with rfl|rfl
  ·decide
  ·rcases h with rfl|rfl <;> decide
 ·split
  ·rename_i h
   intro b hb
   simp only [List.mem_singleton] at hb
   subst hb
   rintro rfl
   exact absurd h.1 (by decide)
  ·intro b hb
   simp only [List.mem_cons,List.mem_nil_iff,or_false] at hb
   rcases hb with rfl|rfl|rfl|rfl
   ·decide
   ·exact hn _ hd.1
   ·exact hn _ hd.2.1
   ·exact hn _ hd.2.2.1
theorem escL_no10:∀ l:List UInt8,∀ b ∈ escL l,b≠10
 |[],b,h=>by cases h
 |c :: l,b,h=>by
  simp only [escL,List.mem_append] at h
  exact h.elim (escB_no10 c b) (escL_no10 l b)
theorem txtL_no10:∀ ls:List (List UInt8),∀ b ∈ txtL ls,b≠10
 |[],b,h=>by cases h
 |l :: ls,b,h=>by
  simp only [txtL,List.mem_append,List.mem_cons] at h
  rcases h with h|rfl|h
  ·exact escL_no10 l b h
  ·decide
  ·exact txtL_no10 ls b h
theorem txtN_no10(n:List UInt8):∀ b ∈ txtN n,b≠10:=by
 unfold txtN
 split
 ·intro b hb;simp at hb;rw [hb];decide
 ·exact txtL_no10 _
theorem hexC_no10:∀ n,n<16→hexC n≠10:=by decide +kernel
theorem hexL_no10:∀ s:List UInt8,∀ b ∈ hexL s,b≠10
 |[],b,h=>by cases h
 |c :: s,b,h=>by
  simp only [hexL,List.mem_cons] at h
  rcases h with rfl|rfl|h
  ·exact hexC_no10 _ (by have:=c.toNat_lt;omega)
  ·exact hexC_no10 _ (by omega)
  ·exact hexL_no10 s b h
theorem hexT_no10(s:List UInt8):∀ b ∈ hexT s,b≠10:=by
 unfold hexT
 split
 ·intro b hb;simp at hb;rw [hb];decide
 ·exact hexL_no10 s
theorem dataP_fwd:∀ (l:List (List UInt8)) (r:List UInt8) (acc:List (List UInt8)),(∀ d ∈ l,d.length≤4096)→dataP l.length (dataT l++r) false acc=(acc++l,r,false)
 |[],r,acc,_=>by simp[dataP,dataT]
 |d :: l,r,acc,h=>by
  have e:dataT (d :: l)++r=hexT d++10 :: (dataT l++r):=by
   show(hexT d++[10]++dataT l)++r=_
   simp
  rw[e]
  show dataP (l.length+1) _ _ _=_
  unfold dataP
  rw[line_cat _ _ _ (hexT_no10 d)]
  simp only
  rw[unhexT_hex (h d (List.mem_cons_self ..))]
  have ih:=dataP_fwd l r (acc++[d]) (fun x hx=>h x (List.mem_cons_of_mem _ hx))
  show dataP l.length _ (false || false) (acc++[d])=_
  rw[show(false || false)=false from rfl,ih]
  simp
theorem no_app{c:UInt8}{x y:List UInt8}(hx:∀ b ∈ x,b≠c)(hy:∀ b ∈ y,b≠c):∀ b ∈ x++y,b≠c:=fun b hb=>(List.mem_append.1 hb).elim (hx b) (hy b)
theorem no_cons{c a:UInt8}{x:List UInt8}(ha:a≠c)(hx:∀ b ∈ x,b≠c):∀ b ∈ a :: x,b≠c:=fun b hb=>(List.mem_cons.1 hb).elim (fun h=>h ▸ ha) (hx b)
theorem rising_len{t:Int}:∀ {l:List (List UInt8)} {b:Bool} {x:List UInt8},rising t b x l=true→∀ d ∈ l,d.length≤4096
 |[],_,_,_,d,hd=>by cases hd
 |e :: l,b,x,h,d,hd=>by
  unfold rising at h
  simp only [Bool.and_eq_true] at h
  rcases List.mem_cons.1 hd with rfl|hd
  ·have:=h.1.1
   unfold rcheck at this
   simp only [Bool.and_eq_true,decide_eq_true_eq] at this
   exact this.1
  ·exact rising_len h.2 d hd
theorem heldF_fwd(h:Held)(r:List UInt8)(hf:h.In)(hk:h.ok=true):∃ z,heldF (heldT h++r) false=(⟨h.nm,h.ty,h.ttl,z,h.data,h.rank,h.no,h.name,h.til⟩,r,false):=by
 have hn:isName h.nm:=held_name hk
 have htil:0≤h.til∧h.til≤4611686018428436480:=by
  apply Classical.byContradiction
  intro hc
  rw [Held.ok_til hc] at hk;cases hk
 obtain⟨nm,ty,ttl,z,data,rank,no,name,til⟩:=h
 obtain ⟨n1,rfl⟩:∃ n:Nat,ty=n:=⟨ty.toNat,by have:=hf.ty.1;simp only at this;omega⟩
 obtain ⟨n2,rfl⟩:∃ n:Nat,ttl=n:=⟨ttl.toNat,by have:=hf.ttl.1;simp only at this;omega⟩
 obtain ⟨n3,rfl⟩:∃ n:Nat,rank=n:=⟨rank.toNat,by have:=hf.rank.1;simp only at this;omega⟩
 obtain ⟨n4,rfl⟩:∃ n:Nat,til=n:=⟨til.toNat,by have:=htil.1;simp only at this;omega⟩
 have e1:n1≤65535:=by have:=hf.ty.2;simp only at this;omega
 have e2:n2≤4294967295:=by have:=hf.ttl.2;simp only at this;omega
 have e4:n4≤4611686018428436480:=by have:=htil.2;simp only at this;omega
 simp only at hn
 cases no with
 |true =>
  rw [Held.ok_no htil rfl] at hk
  simp only [Bool.and_eq_true,decide_eq_true_eq] at hk
  obtain⟨⟨h1,h2,h3,h4⟩,_⟩:=hk
  have hd:data=[]:=List.length_eq_zero_iff.1 h2
  subst hd
  refine⟨true,?_⟩
  have e:heldT (Held.mk nm n1 n2 z [] n3 true name n4)++r=([110,111,110,101]++32 :: (txtN nm++32 :: (Lib.decDigits n1++32 :: (Lib.decDigits n2++32 :: Lib.decDigits n4))))++10 :: r:=by
   unfold heldT headT numT
   simp
  unfold heldF
  rw[e,line_cat _ _ _ (no_app (show ∀ b ∈ ([110,111,110,101]:List UInt8),b≠10 by decide) (no_cons (by decide) (no_app (txtN_no10 nm) (no_cons (by decide) (no_app (dec_no10 n1) (no_cons (by decide) (no_app (dec_no10 n2) (no_cons (by decide) (dec_no10 n4)))))))))]
  simp only
  rw[pcs_cat _ _ (by decide),pcs_cat _ _ (txtN_no nm),pcs_cat _ _ (dec_no n1),pcs_cat _ _ (dec_no n2),pcs_last _ (dec_no n4)]
  unfold wordsF
  simp only
  rw[if_pos trivial]
  unfold noneF
  rw[nameF_txt hn,numF_dec e1 (by decide),numF_dec e2 (by decide),numF_dec e4 (by decide)]
  simp only[Option.getD_some,Option.isNone_some,Bool.or_false]
  rw[h3,h4]
 |false =>
  rw [Held.ok_set htil rfl] at hk
  simp only [Bool.and_eq_true,decide_eq_true_eq] at hk
  obtain⟨⟨h1,h2,h3⟩,h4⟩:=hk
  unfold scheck at h4
  simp only [Bool.and_eq_true,decide_eq_true_eq] at h4
  obtain⟨⟨⟨_,_⟩,h5,h6⟩,h7⟩:=h4
  have hlen:=rising_len h7
  refine⟨data.isEmpty,?_⟩
  have e:heldT (Held.mk nm n1 n2 z data n3 false name n4)++r=([115,101,116]++32 :: (txtN nm++32 :: (Lib.decDigits n1++32 :: (Lib.decDigits n3++32 :: (Lib.decDigits n2++32 :: (Lib.decDigits n4++32 :: Lib.decDigits data.length))))))++10 :: (dataT data++r):=by
   unfold heldT headT numT
   simp
  unfold heldF
  rw[e,line_cat _ _ _ (no_app (show ∀ b ∈ ([115,101,116]:List UInt8),b≠10 by decide) (no_cons (by decide) (no_app (txtN_no10 nm) (no_cons (by decide) (no_app (dec_no10 n1) (no_cons (by decide) (no_app (dec_no10 n3) (no_cons (by decide) (no_app (dec_no10 n2) (no_cons (by decide) (no_app (dec_no10 n4) (no_cons (by decide) (dec_no10 data.length)))))))))))))]
  simp only
  rw[pcs_cat _ _ (by decide),pcs_cat _ _ (txtN_no nm),pcs_cat _ _ (dec_no n1),pcs_cat _ _ (dec_no n3),pcs_cat _ _ (dec_no n2),pcs_cat _ _ (dec_no n4),pcs_last _ (dec_no data.length)]
  unfold wordsF
  simp only
  rw[if_pos trivial]
  unfold setF setB
  rw[nameF_txt hn,numF_dec e1 (by decide),numF_dec (show n3≤4 by omega) (by decide),numF_dec e2 (by decide),numF_dec e4 (by decide),numF_dec h6 (by decide)]
  simp only[Option.getD_some,Option.isNone_some,Bool.or_false]
  rw[dataP_fwd data r [] hlen,h1]
  rfl
theorem hsame_z{h:Held}(z:Bool):hsame ⟨h.nm,h.ty,h.ttl,z,h.data,h.rank,h.no,h.name,h.til⟩ h=true:=by
 unfold hsame hfnd hset
 simp
theorem parseD_fwd:∀ (l:List Held) (k:Nat) (acc:List Held),(∀ h ∈ l,h.ok=true∧h.In)→(linesT l).length≤k→acc.length+l.length≤4096→∃ m,parseD k acc (linesT l)=some (acc++m)∧hsames m l=true∧m.length=l.length∧∀ h ∈ m,∃ g ∈ l,h.data=g.data
 |[],k,acc,_,_,_=>by
  refine⟨[],?_,rfl,rfl,fun h hh=>by cases hh⟩
  cases k <;> (unfold parseD;rw[if_pos (show linesT []=[] from rfl),List.append_nil])
 |h :: l,k,acc,hl,hk,hc=>by
  have e:linesT (h :: l)=heldT h++linesT l:=rfl
  have hne:0<(heldT h).length:=by
   unfold heldT headT
   split <;> simp
  rw [e,List.length_append] at hk
  rw[e]
  obtain⟨k,rfl⟩:∃ j,k=j+1:=⟨k - 1,by omega⟩
  obtain⟨z,hz⟩:=heldF_fwd h (linesT l) (hl h (List.mem_cons_self ..)).2 (hl h (List.mem_cons_self ..)).1
  have hok:(Held.mk h.nm h.ty h.ttl z h.data h.rank h.no h.name h.til).ok=true:=by
   have:=(hl h (List.mem_cons_self ..)).1
   exact this
  obtain ⟨m,h1,h2,h3,h4⟩:=parseD_fwd l k (acc++[⟨h.nm,h.ty,h.ttl,z,h.data,h.rank,h.no,h.name,h.til⟩]) (fun x hx=>hl x (List.mem_cons_of_mem _ hx)) (by omega) (by rw [List.length_append];simp only [List.length_cons,List.length_nil] at hc ⊢;omega)
  refine⟨⟨h.nm,h.ty,h.ttl,z,h.data,h.rank,h.no,h.name,h.til⟩ :: m,?_,?_,by simp[h3],fun x hx=>?_⟩
  ·unfold parseD
   rw [if_neg (fun e=>by have:=congrArg List.length e;rw [List.length_append] at this;simp only [List.length_nil] at this;omega),if_neg (by simp only [List.length_cons] at hc;omega),hz]
   simp only
   rw[if_neg (by rw[hok];simp),h1]
   simp
  ·unfold hsames
   rw[hsame_z z,h2]
   rfl
  ·rcases List.mem_cons.1 hx with rfl|hx
   ·exact⟨h,List.mem_cons_self ..,rfl⟩
   ·obtain⟨g,hg,e⟩:=h4 x hx
    exact⟨g,List.mem_cons_of_mem _ hg,e⟩
end Go.Proofs.YtdfdlbnojmlpiaaGreatDoor
namespace Go.Proofs.YtdfdlbnojmlpiaaGreatDoor
open Go Go.Eng
set_option maxRecDepth 100000
theorem count_le(s:List UInt8)(c:UInt8):Lib.countByte s c≤s.length:=List.count_le_length
theorem count_ok(s:List UInt8)(c:UInt8):FnOk Tryz.prog 177 [.d (.str s),.d (.str [c])] (.d (.int .i64 (Lib.countByte s c:Nat))):=by
 refine⟨enters Tryz.func177 (by kernel_rfl) rfl,fun M w vs _ hM hl hd=>?_⟩
 match vs,hl with
 |[v0,v1],_ =>
  have h0:=den_str (hd 0 _ v0 rfl rfl)
  have h1:=den_str (hd 1 _ v1 rfl rfl)
  subst h0 h1
  refine(Try.strings_Count_one ⟨s.toArray⟩ c w).mono ?_
  rintro e w' ⟨rfl,rfl⟩
  exact⟨_,rfl,Step.refl _ _,.d (.int _ _)⟩
set_option maxHeartbeats 4000000 in
theorem split_ok(s:List UInt8)(hs:s.length≤1099511627776):FnOk Tryz.prog 103 [.d (.str s),.d (.str [32])] (.d (.sl false (pcs s).length 1 (strs (pcs s)))):=by
 refine fnOk_of_run (TT:=TT) (IN:=lookI [(133,Tryz.f133,4)]) TT_ok (INok_cons INok_nil Tryz.func133 (by kernel_rfl) (by kernel_rfl)) mixed 1000 Tryz.func103 rfl (enters Tryz.func103 (by kernel_rfl) rfl) rfl 6 (by kernel_rfl) ?_
 conv=>whnf
 repeat(first|(refine brF rfl ?_;conv=>whnf)|(refine brT rfl ?_;conv=>whnf))
 refine .one (.data _ (count_ok s 32) rfl rfl ?_)
 have hcl:=count_le s 32
 have hpc:pcs s=cutN (Lib.countByte s 32) s:=rfl
 generalize Lib.countByte s 32=K at hcl hpc ⊢
 rw[hpc]
 obtain⟨N,hN⟩:∃ N,N=K+1:=⟨_,rfl⟩
 conv=>whnf
 have hmin:(if IntKind.i64.wrap ((s.length:Int)+1)<IntKind.i64.wrap ((K:Int)+1) then IntKind.i64.wrap ((s.length:Int)+1) else IntKind.i64.wrap ((K:Int)+1))=(N:Int):=by
  rw[w64_in ((s.length:Int)+1) (by omega),w64_in ((K:Int)+1) (by omega),if_neg (by omega)];omega
 have hN1:1≤N:=by omega
 rw[hmin]
 refine⟨by omega,?_⟩
 conv=>whnf
 have hN4:IntKind.i64.wrap ((N:Int) - 1)=((N - 1:Nat):Int):=by rw[w64_in _ (by omega)];omega
 rw[hN4]
 have hp0:∀ j,strs (padL N []) j=[.str []]:=fun j=>by
  unfold strs padL
  simp only[List.nil_append,List.length_nil,Nat.sub_zero,List.getElem?_replicate]
  split <;> rfl
 refine .inv SnSt (fun x=>x.d.length+x.r.length≤s.length∧x.d.length+1≤N∧x.d++cutN (K - x.d.length) x.r=cutN K s) (fun x=>[(0,.d (.str x.r)),(10,iV x.d.length)]) (fun x=>[(0,.row 9 1 N .no (strs (padL N x.d)))]) (fun x=>x.r.length) ⟨⟨[],s⟩,[0],⟨by show 0+s.length≤_;omega,hN1,rfl⟩,?_⟩ ?_
 ·conv=>whnf
  repeat'(first|exact ⟨⟩|exact rfl|exact subZ_self _|exact Or.inr rfl|exact fun _ _=>rfl|exact fun _ h=>absurd h (Nat.not_lt_zero _)|apply And.intro)
  exact fun i _=>(hp0 i).symm
 intro x hx
 obtain⟨hk,hm,hrest⟩:=hx
 conv=>whnf
 generalize x.d=d at hk hm hrest ⊢
 generalize x.r=r at hk hrest ⊢
 generalize cutN K s=Y at hrest ⊢
 have hd1:IntKind.i64.wrap ((d.length:Int)+1)=((d.length+1:Nat):Int):=by rw[w64_in _ (by omega)];omega
 refine⟨fun c0=>?_,fun c0=>?_⟩
 ·have c0':d.length<N - 1:=(by have h:(d.length:Int)<((N - 1:Nat):Int):=of_decide_eq_true c0;omega)
  obtain⟨k,hkk⟩:∃ k,K - d.length=k+1:=⟨K - d.length - 1,by omega⟩
  conv=>whnf
  refine .one (.data _ (index_ok r 32) rfl rfl ?_)
  conv=>whnf
  obtain⟨i1,i2⟩:=idx_lt 32 r
  rw [hkk] at hrest
  simp only [cutN] at hrest
  generalize Lib.indexByte r 32=m at hrest i1 i2 ⊢
  by_cases hm0:m<0
  ·rw [if_pos hm0] at hrest
   refine brT (decide_eq_true hm0) ?_
   conv=>whnf
   have hlast:[r]=[r]:=rfl
   have hu:Y=d++[r]:=by rw[←hrest,hlast]
   refine⟨by omega,?_⟩
   conv=>whnf
   rw[hd1]
   refine⟨by omega,?_⟩
   conv=>whnf
   refine⟨by show 0+(((d.length+1:Nat):Int) - 0).toNat≤N;omega,rfl,by rw[hu,List.length_append];show(((d.length+1:Nat):Int) - 0).toNat=d.length+1;omega,.inr rfl,fun j hj=>?_⟩
   have hj:j<(((d.length+1:Nat):Int) - 0).toNat:=hj
   show oneF (d.length:Int).toNat 0 [DV.str r] (strs (padL N d)) (0+j)=strs Y j
   rw[Int.toNat_natCast,padL_put N d r (by omega),hu,Nat.zero_add]
   unfold strs padL
   rw[List.getElem?_append_left (by simp;omega)]
  ·rw [if_neg hm0] at hrest
   obtain⟨m,rfl⟩:∃ n:Nat,m=n:=⟨m.toNat,by omega⟩
   rw [Int.toNat_natCast] at hrest
   refine brF (decide_eq_false hm0) ?_
   conv=>whnf
   rw[show IntKind.i64.wrap ((m:Int)+0)=(m:Int) by rw[w64_in _ (by omega)];omega]
   refine⟨by omega,?_⟩
   conv=>whnf
   refine⟨by omega,?_⟩
   conv=>whnf
   rw[show IntKind.i64.wrap ((m:Int)+(([32]:List UInt8).length:Int))=((m+1:Nat):Int) by show IntKind.i64.wrap ((m:Int)+1)=_;rw[w64_in _ (by omega)];omega]
   refine⟨by omega,?_⟩
   conv=>whnf
   rw[hd1,sub_drop,show sub r 0 (m:Int)=r.take m by unfold sub;simp]
   refine⟨⟨d++[r.take m],r.drop (m+1)⟩,[0],⟨by show(d++[_]).length+(r.drop (m+1)).length≤_;rw[List.length_append,List.length_drop];show d.length+1+_≤_;omega,by show(d++[_]).length+1≤N;rw[List.length_append];show d.length+1+1≤N;omega,?_⟩,by show(r.drop (m+1)).length<r.length;rw[List.length_drop];omega,?_⟩
   ·rw[←hrest]
    show(d++[r.take m])++cutN (K - (d++[r.take m]).length) (r.drop (m+1))=_
    rw[List.length_append,show K - (d.length+[r.take m].length)=k by show K - (d.length+1)=k;omega,List.append_assoc]
    rfl
   conv=>whnf
   repeat'(first|exact ⟨⟩|exact rfl|exact subZ_self _|exact Or.inr rfl|exact fun _ _=>rfl|exact fun _ h=>absurd h (Nat.not_lt_zero _)|apply And.intro)
   all_goals first
    |exact congrArg (fun n:Nat=>SV.d (DV.int IntKind.i64 (n:Int))) (show d.length+1=(d++[r.take m]).length by simp)
    |(
     intro i _
     rw[Int.toNat_natCast]
     exact padL_put N d _ (by omega) i)
 ·have c0':d.length=N - 1:=(by have h:¬ (d.length:Int)<((N - 1:Nat):Int):=of_decide_eq_false c0;omega)
  have hlast:cutN (K - d.length) r=[r]:=by
   rw[show K - d.length=0 by omega];rfl
  conv=>whnf
  have hu:Y=d++[r]:=by rw[←hrest,hlast]
  refine⟨by omega,?_⟩
  conv=>whnf
  rw[hd1]
  refine⟨by omega,?_⟩
  conv=>whnf
  refine⟨by show 0+(((d.length+1:Nat):Int) - 0).toNat≤N;omega,rfl,by rw[hu,List.length_append];show(((d.length+1:Nat):Int) - 0).toNat=d.length+1;omega,.inr rfl,fun j hj=>?_⟩
  have hj:j<(((d.length+1:Nat):Int) - 0).toNat:=hj
  show oneF (d.length:Int).toNat 0 [DV.str r] (strs (padL N d)) (0+j)=strs Y j
  rw[Int.toNat_natCast,padL_put N d r (by omega),hu,Nat.zero_add]
  unfold strs padL
  rw[List.getElem?_append_left (by simp;omega)]
end Go.Proofs.YtdfdlbnojmlpiaaGreatDoor
namespace Go.Proofs.YtdfdlbnojmlpiaaGreatDoor
open Go Go.Eng
set_option maxRecDepth 100000
def rdB(t:List UInt8)(b:Bool):KB:=.cells 109 [.d (.str t),.d (.bool b)]
set_option maxHeartbeats 4000000 in
theorem rline_ok(t:List UInt8)(b:Bool)(ht:t.length≤1099511627776):COk Tryz.prog 104 [.ptr 0 0] [rdB t b] (fun r k=>r = .d (.str (lineF t b).1)∧k=[rdB (lineF t b).2.1 (lineF t b).2.2]):=by
 refine cOk_of_run (TT:=TT) (IN:=lookI []) TT_ok INok_nil mixed 1000 Tryz.func104 rfl (enters Tryz.func104 (by kernel_rfl) rfl) 24 (by kernel_rfl) ?_
 conv=>whnf
 refine .one (.data _ (bcut_ok t 10 ht) rfl rfl ?_)
 unfold lineF cutB
 by_cases h:Lib.indexByte t 10<0
 ·rw[if_pos h,if_pos h]
  conv=>whnf
  repeat(first|(refine brF rfl ?_;conv=>whnf)|(refine brT rfl ?_;conv=>whnf))
  refine⟨[0],.d (.str []),[rdB t true],rfl,rfl,rfl,?_,rfl,rfl⟩
  repeat'(first|exact ⟨⟩|exact rfl|exact fun _=>Iff.rfl|exact fun _ _=>rfl|exact renM_ent rfl _|apply And.intro)
 ·rw[if_neg h,if_neg h]
  conv=>whnf
  repeat(first|(refine brF rfl ?_;conv=>whnf)|(refine brT rfl ?_;conv=>whnf))
  refine⟨[0],.d (.str _),[rdB _ b],rfl,rfl,rfl,?_,rfl,rfl⟩
  repeat'(first|exact ⟨⟩|exact rfl|exact fun _=>Iff.rfl|exact fun _ _=>rfl|exact renM_ent rfl _|apply And.intro)
theorem word_ne{B:Nat}{w:List UInt8}{u:Nat}(h:wordN B w=some u):w≠[]:=fun e=>by
 subst e
 unfold wordN Lib.parseUintB at h
 rw [if_pos rfl] at h
 cases h
set_option maxHeartbeats 4000000 in
theorem rnum_ok(t:List UInt8)(b:Bool)(w:List UInt8)(most:Nat)(hw:w.length≤1099511627776)(hm:most<18446744073709551616):COk Tryz.prog 106 [.ptr 0 0,.d (.str w),.d (.int .u64 most)] [rdB t b] (fun r k=>r = .d (.int .u64 ((numF w most).getD 0:Nat))∧k=[rdB t (b || (numF w most).isNone)]):=by
 refine cOk_of_run (TT:=TT) (IN:=lookI []) TT_ok INok_nil mixed 1000 Tryz.func106 rfl (enters Tryz.func106 (by kernel_rfl) rfl) 32 (by kernel_rfl) ?_
 conv=>whnf
 refine .one (.data _ (parse64_ok w hw) rfl rfl ?_)
 cases hn:wordN 64 w with
 |none =>
  have e:numF w most=none:=by unfold numF;rw[hn]
  rw[e,show(b || (none:Option Nat).isNone)=true by cases b <;> rfl]
  conv=>whnf
  repeat(first|(refine brF rfl ?_;conv=>whnf)|(refine brT rfl ?_;conv=>whnf))
  refine⟨[0],.d (.int .u64 0),[rdB t true],rfl,rfl,rfl,?_,rfl,rfl⟩
  repeat'(first|exact ⟨⟩|exact rfl|exact fun _=>Iff.rfl|exact fun _ _=>rfl|exact renM_ent rfl _|apply And.intro)
 |some u =>
  rw[wordV_of hn]
  have hne:=word_ne hn
  have e:numF w most=if u > most∨(w.head? = some 48∧1<w.length) then none else some u:=by unfold numF;rw[hn]
  obtain⟨c,r,rfl⟩:=List.exists_cons_of_ne_nil hne
  have hb0:byteAt (c :: r) 0=(c.toNat:Int):=rfl
  have hix:(0:Int)≤0∧(0:Int)<((r.length+1:Nat):Int):=by omega
  conv=>whnf
  refine brF rfl ?_
  conv=>whnf
  by_cases h1:u > most
  ·rw [if_pos (.inl h1)] at e
   rw[e,show(b || (none:Option Nat).isNone)=true by cases b <;> rfl]
   refine brT (decide_eq_true (by omega)) ?_
   conv=>whnf
   repeat(first|(refine brF rfl ?_;conv=>whnf)|(refine brT rfl ?_;conv=>whnf))
   refine⟨[0],.d (.int .u64 0),[rdB t true],rfl,rfl,rfl,?_,rfl,rfl⟩
   repeat'(first|exact ⟨⟩|exact rfl|exact fun _=>Iff.rfl|exact fun _ _=>rfl|exact renM_ent rfl _|apply And.intro)
  refine brF (decide_eq_false (by omega)) ?_
  conv=>whnf
  repeat(first|(refine brF rfl ?_;conv=>whnf)|(refine brT rfl ?_;conv=>whnf))
  refine⟨hix,?_⟩
  conv=>whnf
  rw[hb0]
  by_cases h2:c=48
  case neg =>
   have h2':(c.toNat:Int)≠48:=fun h=>h2 (UInt8.toNat.inj (show c.toNat=48 by omega))
   rw [if_neg (by rintro (h|⟨h,_⟩);exact h1 h;exact h2 (Option.some.inj h))] at e
   rw[e,show(b || (some u:Option Nat).isNone)=b by cases b <;> rfl]
   refine brF (beq_eq_false_iff_ne.2 h2') ?_
   conv=>whnf
   repeat(first|(refine brF rfl ?_;conv=>whnf)|(refine brT rfl ?_;conv=>whnf))
   refine⟨[0],.d (.int .u64 u),[rdB t b],rfl,rfl,rfl,?_,rfl,rfl⟩
   repeat'(first|exact ⟨⟩|exact rfl|exact fun _=>Iff.rfl|exact fun _ _=>rfl|exact renM_ent rfl _|apply And.intro)
  subst h2
  refine brT rfl ?_
  conv=>whnf
  by_cases h3:1<((48:UInt8) :: r).length
  ·rw [if_pos (.inr ⟨rfl,h3⟩)] at e
   rw[e,show(b || (none:Option Nat).isNone)=true by cases b <;> rfl]
   refine brT (decide_eq_true (by have h:1<r.length+1:=h3;show((r.length+1:Nat):Int) > 1;omega)) ?_
   conv=>whnf
   repeat(first|(refine brF rfl ?_;conv=>whnf)|(refine brT rfl ?_;conv=>whnf))
   refine⟨[0],.d (.int .u64 0),[rdB t true],rfl,rfl,rfl,?_,rfl,rfl⟩
   repeat'(first|exact ⟨⟩|exact rfl|exact fun _=>Iff.rfl|exact fun _ _=>rfl|exact renM_ent rfl _|apply And.intro)
  ·rw [if_neg (by rintro (h|⟨_,h⟩);exact h1 h;exact h3 h)] at e
   rw[e,show(b || (some u:Option Nat).isNone)=b by cases b <;> rfl]
   refine brF (decide_eq_false (by have h:¬ 1<r.length+1:=h3;show ¬ ((r.length+1:Nat):Int) > 1;omega)) ?_
   conv=>whnf
   refine⟨[0],.d (.int .u64 u),[rdB t b],rfl,rfl,rfl,?_,rfl,rfl⟩
   repeat'(first|exact ⟨⟩|exact rfl|exact fun _=>Iff.rfl|exact fun _ _=>rfl|exact renM_ent rfl _|apply And.intro)
set_option maxHeartbeats 4000000 in
theorem rname_ok(t:List UInt8)(b:Bool)(w:List UInt8):COk Tryz.prog 105 [.ptr 0 0,.d (.str w)] [rdB t b] (fun r k=>r = .d (.str ((nameF w).getD []))∧k=[rdB t (b || (nameF w).isNone)]):=by
 refine cOk_of_run (TT:=TT) (IN:=lookI []) TT_ok INok_nil mixed 1000 Tryz.func105 rfl (enters Tryz.func105 (by kernel_rfl) rfl) 33 (by kernel_rfl) ?_
 conv=>whnf
 refine .one (.data _ (lparse_ok w) rfl rfl ?_)
 have e:nameF w=if (parseT w).2=0∧(printT (parseT w).1).2=0∧(printT (parseT w).1).1=w then some (parseT w).1 else none:=rfl
 generalize parseT w=p at e ⊢
 obtain⟨n,k⟩:=p
 simp only at e
 conv=>whnf
 by_cases h1:k=0
 case neg =>
  rw [if_neg (fun h=>h1 h.1)] at e
  rw[e,show(b || (none:Option (List UInt8)).isNone)=true by cases b <;> rfl]
  refine brT (by rw[bne_iff_ne];exact h1) ?_
  conv=>whnf
  repeat(first|(refine brF rfl ?_;conv=>whnf)|(refine brT rfl ?_;conv=>whnf))
  refine⟨[0],.d (.str []),[rdB t true],rfl,rfl,rfl,?_,rfl,rfl⟩
  repeat'(first|exact ⟨⟩|exact rfl|exact fun _=>Iff.rfl|exact fun _ _=>rfl|exact renM_ent rfl _|apply And.intro)
 refine brF (by rw[bne_eq_false_iff_eq];exact h1) ?_
 conv=>whnf
 refine .one (.data _ (print_ok n) rfl rfl ?_)
 generalize printT n=q at e ⊢
 obtain⟨x,j⟩:=q
 simp only at e
 conv=>whnf
 by_cases h2:j=0
 case neg =>
  rw [if_neg (fun h=>h2 h.2.1)] at e
  rw[e,show(b || (none:Option (List UInt8)).isNone)=true by cases b <;> rfl]
  refine brT (by rw[bne_iff_ne];exact h2) ?_
  conv=>whnf
  repeat(first|(refine brF rfl ?_;conv=>whnf)|(refine brT rfl ?_;conv=>whnf))
  refine⟨[0],.d (.str []),[rdB t true],rfl,rfl,rfl,?_,rfl,rfl⟩
  repeat'(first|exact ⟨⟩|exact rfl|exact fun _=>Iff.rfl|exact fun _ _=>rfl|exact renM_ent rfl _|apply And.intro)
 refine brF (by rw[bne_eq_false_iff_eq];exact h2) ?_
 conv=>whnf
 by_cases h3:x=w
 case neg =>
  rw [if_neg (fun h=>h3 h.2.2)] at e
  rw[e,show(b || (none:Option (List UInt8)).isNone)=true by cases b <;> rfl]
  refine brT (bne_iff_ne.2 h3:(x != w)=true) ?_
  conv=>whnf
  repeat(first|(refine brF rfl ?_;conv=>whnf)|(refine brT rfl ?_;conv=>whnf))
  refine⟨[0],.d (.str []),[rdB t true],rfl,rfl,rfl,?_,rfl,rfl⟩
  repeat'(first|exact ⟨⟩|exact rfl|exact fun _=>Iff.rfl|exact fun _ _=>rfl|exact renM_ent rfl _|apply And.intro)
 refine brF (bne_eq_false_iff_eq.2 h3:(x != w)=false) ?_
 rw [if_pos ⟨h1,h2,h3⟩] at e
 rw[e,show(b || (some n:Option (List UInt8)).isNone)=b by cases b <;> rfl]
 conv=>whnf
 refine⟨[0],.d (.str n),[rdB t b],rfl,rfl,rfl,?_,rfl,rfl⟩
 repeat'(first|exact ⟨⟩|exact rfl|exact fun _=>Iff.rfl|exact fun _ _=>rfl|exact renM_ent rfl _|apply And.intro)
end Go.Proofs.YtdfdlbnojmlpiaaGreatDoor
namespace Go.Proofs.YtdfdlbnojmlpiaaGreatDoor
open Go Go.Eng
set_option maxRecDepth 100000
set_option maxHeartbeats 4000000 in
theorem rdd_ok(t:List UInt8)(b0:Bool)(s:List UInt8):COk Tryz.prog 107 [.ptr 0 0,.d (.str s)] [rdB t b0] (fun r k=>r = .d (.str ((unhexT s).getD []))∧k=[rdB t (b0 || (unhexT s).isNone)]):=by
 refine cOk_of_run (TT:=TT) (IN:=lookI []) TT_ok INok_nil mixed 1000 Tryz.func107 rfl (enters Tryz.func107 (by kernel_rfl) rfl) 63 (by kernel_rfl) ?_
 have hor:(b0 || (none:Option (List UInt8)).isNone)=true:=by cases b0 <;> rfl
 have hor2:∀ x,(b0 || (some x:Option (List UInt8)).isNone)=b0:=fun x=>by cases b0 <;> rfl
 conv=>whnf
 refine⟨fun h1=>?_,fun h1=>?_⟩
 ·have h1:s=[45]:=by simpa using h1
  rw[show unhexT s=some [] from if_pos h1]
  conv=>whnf
  refine⟨[0],.d (.str []),[rdB t b0],rfl,rfl,rfl,?_,rfl,by rw[hor2]⟩
  repeat'(first|exact ⟨⟩|exact rfl|exact fun _=>Iff.rfl|exact fun _ _=>rfl|exact renM_ent rfl _|apply And.intro)
 have h1:s≠[45]:=by simpa using h1
 have he:unhexT s=if s=[]∨s.length % 2≠0∨s.length > 8192 then none else unhexL s:=if_neg h1
 conv=>whnf
 by_cases h2:s=[]
 ·rw[he,if_pos (.inl h2)]
  subst h2
  refine brT rfl ?_
  conv=>whnf
  repeat(first|(refine brF rfl ?_;conv=>whnf)|(refine brT rfl ?_;conv=>whnf))
  refine⟨[0],.d (.str []),[rdB t true],rfl,rfl,rfl,?_,rfl,by rw[hor]⟩
  repeat'(first|exact ⟨⟩|exact rfl|exact fun _=>Iff.rfl|exact fun _ _=>rfl|exact renM_ent rfl _|apply And.intro)
 refine brF (by simpa using h2) ?_
 conv=>whnf
 refine⟨by decide,?_⟩
 conv=>whnf
 by_cases h3:s.length % 2=0
 case neg =>
  rw[he,if_pos (.inr (.inl h3))]
  refine brT (by rw[bne_iff_ne];show((s.length:Int)).tmod 2≠0;rw[Int.tmod_eq_emod_of_nonneg (by omega)];omega) ?_
  conv=>whnf
  repeat(first|(refine brF rfl ?_;conv=>whnf)|(refine brT rfl ?_;conv=>whnf))
  refine⟨[0],.d (.str []),[rdB t true],rfl,rfl,rfl,?_,rfl,by rw[hor]⟩
  repeat'(first|exact ⟨⟩|exact rfl|exact fun _=>Iff.rfl|exact fun _ _=>rfl|exact renM_ent rfl _|apply And.intro)
 refine brF (by rw[bne_eq_false_iff_eq];show((s.length:Int)).tmod 2=0;rw[Int.tmod_eq_emod_of_nonneg (by omega)];omega) ?_
 conv=>whnf
 by_cases h4:s.length≤8192
 case neg =>
  rw[he,if_pos (.inr (.inr (by omega)))]
  refine brT (decide_eq_true (by omega)) ?_
  conv=>whnf
  repeat(first|(refine brF rfl ?_;conv=>whnf)|(refine brT rfl ?_;conv=>whnf))
  refine⟨[0],.d (.str []),[rdB t true],rfl,rfl,rfl,?_,rfl,by rw[hor]⟩
  repeat'(first|exact ⟨⟩|exact rfl|exact fun _=>Iff.rfl|exact fun _ _=>rfl|exact renM_ent rfl _|apply And.intro)
 refine brF (decide_eq_false (by omega)) ?_
 conv=>whnf
 rw[he,if_neg (fun h=>by rcases h with h|h|h;exact h2 h;omega;omega)]
 clear he
 repeat(first|(refine brF rfl ?_;conv=>whnf)|(refine brT rfl ?_;conv=>whnf))
 refine⟨by decide,?_⟩
 conv=>whnf
 have hdv:IntKind.i64.wrap ((s.length:Int).tdiv 2)=((s.length / 2:Nat):Int):=by
  rw[Int.tdiv_eq_ediv_of_nonneg (by omega),w64_in _ (by omega)];omega
 rw[hdv]
 refine⟨by omega,?_⟩
 conv=>whnf
 refine .inv UhSt (fun x=>x.i≤s.length∧x.i=2 * x.b.length∧(unhexL (s.drop x.i)).map (x.b ++ ·)=unhexL s) (fun x=>[(5,.all 1),(6,iV x.i),(30,.any)]) (fun x=>[(1,.row 5 1 x.b.length .no (bytesF x.b))]) (fun x=>s.length - x.i) ⟨⟨0,[]⟩,[0,1],⟨Nat.zero_le _,rfl,by simp⟩,?_⟩ ?_
 ·conv=>whnf
  repeat'(first|exact ⟨⟩|exact rfl|exact subZ_self _|exact Or.inr rfl|exact fun _ _=>rfl|exact fun _ h=>absurd h (Nat.not_lt_zero _)|apply And.intro)
 intro x hx
 obtain⟨hk,hm,hrest⟩:=hx
 conv=>whnf
 generalize x.i=i at hk hm hrest ⊢
 generalize x.b=b at hm hrest ⊢
 refine⟨fun c0=>?_,fun c0=>?_⟩
 ·have c0':i<s.length:=(by have h:(i:Int)<s.length:=of_decide_eq_true c0;omega)
  have c1':i+1<s.length:=by omega
  have hs0:s[i]? = some s[i]:=List.getElem?_eq_getElem c0'
  have hs1:s[i+1]? = some s[i+1]:=List.getElem?_eq_getElem c1'
  have hd0:s.drop i=s[i] :: s[i+1] :: s.drop (i+2):=by rw[List.drop_eq_getElem_cons c0',List.drop_eq_getElem_cons c1']
  have hb0:byteAt s (i:Int)=((s[i].toNat:Nat):Int):=by rw[bt_eq];unfold bt;rw[hs0];rfl
  have hb1:byteAt s ((i+1:Nat):Int)=((s[i+1].toNat:Nat):Int):=by rw[bt_eq];unfold bt;rw[hs1];rfl
  generalize s[i]=p at hs0 hd0 hb0
  generalize s[i+1]=q at hs1 hd0 hb1
  have hk1:IntKind.i64.wrap ((i:Int)+1)=((i+1:Nat):Int):=by rw[w64_in _ (by omega)];omega
  have hk2:IntKind.i64.wrap ((i:Int)+2)=((i+2:Nat):Int):=by rw[w64_in _ (by omega)];omega
  rw [hd0] at hrest
  simp only [unhexL] at hrest
  conv=>whnf
  refine⟨by omega,?_⟩
  conv=>whnf
  rw[hb0]
  refine .one (.data _ (idxb_ok hexD p) rfl rfl ?_)
  conv=>whnf
  rw[hk1]
  refine⟨by omega,?_⟩
  conv=>whnf
  rw[hb1]
  refine .one (.data _ (idxb_ok hexD q) rfl rfl ?_)
  conv=>whnf
  have hpl:=hexI_lt p
  have hql:=hexI_lt q
  generalize Lib.indexByte hexD p=u at hrest hpl ⊢
  generalize Lib.indexByte hexD q=v at hrest hql ⊢
  by_cases hu:u<0
  ·rw [if_pos (.inl hu)] at hrest
   rw[←hrest]
   refine brT (decide_eq_true hu) ?_
   conv=>whnf
   repeat(first|(refine brF rfl ?_;conv=>whnf)|(refine brT rfl ?_;conv=>whnf))
   refine⟨[0],.d (.str []),[rdB t true],rfl,rfl,rfl,?_,rfl,by rw[show(Option.map (b ++ ·) none:Option (List UInt8))=none from rfl,hor]⟩
   repeat'(first|exact ⟨⟩|exact rfl|exact fun _=>Iff.rfl|exact fun _ _=>rfl|exact renM_ent rfl _|apply And.intro)
  refine brF (decide_eq_false hu) ?_
  conv=>whnf
  by_cases hv:v<0
  ·rw [if_pos (.inr hv)] at hrest
   rw[←hrest]
   refine brT (decide_eq_true hv) ?_
   conv=>whnf
   repeat(first|(refine brF rfl ?_;conv=>whnf)|(refine brT rfl ?_;conv=>whnf))
   refine⟨[0],.d (.str []),[rdB t true],rfl,rfl,rfl,?_,rfl,by rw[show(Option.map (b ++ ·) none:Option (List UInt8))=none from rfl,hor]⟩
   repeat'(first|exact ⟨⟩|exact rfl|exact fun _=>Iff.rfl|exact fun _ _=>rfl|exact renM_ent rfl _|apply And.intro)
  refine brF (decide_eq_false hv) ?_
  conv=>whnf
  repeat(first|(refine brF rfl ?_;conv=>whnf)|(refine brT rfl ?_;conv=>whnf))
  rw [if_neg (fun h=>h.elim hu hv)] at hrest
  obtain⟨u,rfl⟩:∃ n:Nat,u=n:=⟨u.toNat,by omega⟩
  obtain⟨v,rfl⟩:∃ n:Nat,v=n:=⟨v.toNat,by omega⟩
  simp only [Int.toNat_natCast] at hrest
  refine⟨by decide,?_⟩
  conv=>whnf
  rw[shlor u (by omega) v (by omega)]
  refine⟨by omega,?_⟩
  conv=>whnf
  rw[hk2]
  refine⟨⟨i+2,b++[UInt8.ofNat (16 * u+v)]⟩,[0,3],⟨by show i+2≤s.length;omega,by show i+2=2 * (b++[_]).length;rw[List.length_append];show i+2=2 * (b.length+1);omega,?_⟩,by show s.length - (i+2)<s.length - i;omega,?_⟩
  ·rw[←hrest]
   show(unhexL (s.drop (i+2))).map ((b++[_]) ++ ·)=_
   rw[Option.map_map]
   congr 1
   funext z
   simp
  conv=>whnf
  repeat'(first|exact ⟨⟩|exact rfl|exact subZ_self _|exact Or.inr rfl|exact fun _ _=>rfl|exact fun _ h=>absurd h (Nat.not_lt_zero _)|apply And.intro)
  all_goals first
   |(show b.length+1=(b++[_]).length;simp)
   |exact(fun j hj=>byteAt_put b _ j hj)
 ·have c0':i=s.length:=(by have h:¬ (i:Int)<s.length:=of_decide_eq_false c0;omega)
  rw [c0',List.drop_length] at hrest
  rw[←hrest,show Option.map (fun x=>b++x) (unhexL [])=some b by simp[unhexL]]
  conv=>whnf
  refine⟨fun i _=>⟨_,rfl⟩,?_⟩
  rw[bytesOf_bytesF]
  conv=>whnf
  refine⟨[0],.d (.str b),[rdB t b0],rfl,rfl,rfl,?_,rfl,by rw[hor2]⟩
  repeat'(first|exact ⟨⟩|exact rfl|exact fun _=>Iff.rfl|exact fun _ _=>rfl|exact renM_ent rfl _|apply And.intro)
end Go.Proofs.YtdfdlbnojmlpiaaGreatDoor
namespace Go.Proofs.YtdfdlbnojmlpiaaGreatDoor
open Go Go.Eng
set_option maxRecDepth 100000
def textH(l:List Held):List UInt8 × Int:=if l.length > 4096 then ([],7) else if l.all Held.ok then (linesT l,0) else ([],2)
theorem heldT_ne(h:Held):heldT h≠[]:=by
 unfold heldT headT
 split <;> simp
set_option maxHeartbeats 16000000 in
theorem dtext_ok(z:Bool)(l:List Held)(hl:∀ h ∈ l,h.Fit)(hb:∀ i,(l.take i).all Held.ok=true→(linesT (l.take i)).length≤549755813888):FnOk Tryz.prog 11 [.d (heldsD z l)] (.tup [.d (.str (textH l).1),.d (.int .i64 (textH l).2)]):=by
 refine fnOk_of_run (TT:=TT) (IN:=lookI []) TT_ok INok_nil mixed 1000 Tryz.func11 rfl (enters Tryz.func11 (by kernel_rfl) rfl) rfl 24 (by kernel_rfl) ?_
 conv=>whnf
 by_cases h1:l.length > 4096
 ·rw[show textH l=([],7) from if_pos h1]
  refine brT (decide_eq_true (by omega)) ?_
  conv=>whnf
  repeat'(first|exact ⟨⟩|exact rfl|exact fun _=>Iff.rfl|exact fun _ _=>rfl|exact renM_ent rfl _|apply And.intro)
 refine brF (decide_eq_false (by omega)) ?_
 conv=>whnf
 refine .inv Nat (fun i=>i≤l.length∧(l.take i).all Held.ok=true) (fun i=>[(13,iV i)]) (fun i=>[(0,wK (linesT (l.take i)))]) (fun i=>l.length - i) ⟨0,[0],⟨Nat.zero_le _,rfl⟩,?_⟩ ?_
 ·conv=>whnf
  repeat'(first|exact ⟨⟩|exact rfl|exact fun _=>Iff.rfl|exact fun _ _=>rfl|exact renM_ent rfl _|apply And.intro)
 rintro i ⟨hi1,hi2⟩
 have hw:i<l.length→IntKind.i64.wrap ((i:Int)+1)=((i+1:Nat):Int):=fun h=>by rw[w64_in _ (by omega)];omega
 obtain⟨T,hT⟩:∃ T,T=linesT (l.take i):=⟨_,rfl⟩
 rw[←hT]
 rcases T with _|⟨c1,T⟩
 all_goals
  conv=>whnf
  refine⟨fun c0=>?_,fun c0=>?_⟩
  ·have c0':i<l.length:=(by have h:(i:Int)<l.length:=of_decide_eq_true c0;omega)
   obtain⟨h,hh⟩:∃ h,l.getD i default=h:=⟨_,rfl⟩
   have hhl:l[i]? = some h:=by rw[←hh,List.getD,List.getElem?_eq_getElem c0'];rfl
   have hf:=hl h (List.mem_of_getElem? hhl)
   conv=>whnf
   refine⟨by omega,?_⟩
   conv=>whnf
   rw[Int.toNat_natCast,hh]
   have htk:l.take (i+1)=l.take i++[h]:=by rw[List.take_add_one,hhl];rfl
   have hTl:(linesT (l.take i)).length≤549755813888:=hb i hi2
   cases hk:h.ok with
   |false =>
    have ht:textH l=([],2):=by
     unfold textH
     rw[if_neg h1,if_neg]
     intro hall
     have:=List.all_eq_true.1 hall h (List.mem_of_getElem? hhl)
     rw [hk] at this;cases this
    rw[ht]
    first
     |refine .rel _ (COk.frameX (wheld_bad (c1 :: T) h hk) [0] rfl rfl rfl) (fun x ks' hR=>?_)
     |refine .rel _ (COk.frameX (wheld_bad [] h hk) [0] rfl rfl rfl) (fun x ks' hR=>?_)
    obtain⟨_,_,⟨rfl,rfl⟩,rfl,rfl⟩:=hR
    conv=>whnf
    repeat(first|(refine brF rfl ?_;conv=>whnf)|(refine brT rfl ?_;conv=>whnf))
    repeat'(first|exact ⟨⟩|exact rfl|exact fun _=>Iff.rfl|exact fun _ _=>rfl|exact renM_ent rfl _|apply And.intro)
   |true =>
    rw [←hT] at hTl
    first
     |refine .rel _ (COk.frameX (wheld_all (c1 :: T) h hf hk hTl) [0] rfl rfl rfl) (fun x ks' hR=>?_)
     |refine .rel _ (COk.frameX (wheld_all [] h hf hk hTl) [0] rfl rfl rfl) (fun x ks' hR=>?_)
    obtain⟨_,_,⟨rfl,rfl⟩,rfl,rfl⟩:=hR
    conv=>whnf
    repeat(first|(refine brF rfl ?_;conv=>whnf)|(refine brT rfl ?_;conv=>whnf))
    rw[hw c0']
    obtain⟨c2,r2,hc2⟩:=List.exists_cons_of_ne_nil (heldT_ne h)
    have hnx:linesT (l.take (i+1))=linesT (l.take i)++heldT h:=by rw[htk];unfold linesT;rw[List.flatMap_append];simp
    rw [←hT] at hnx
    refine⟨i+1,[0],⟨c0',by rw[htk,List.all_append,hi2];simp[hk]⟩,by show l.length - (i+1)<l.length - i;omega,?_⟩
    rw[hnx,hc2]
    conv=>whnf
    repeat'(first|exact ⟨⟩|exact rfl|exact(fun _ _ _ _ h=>⟨packed_stable _,h⟩)|exact fun _=>Iff.rfl|exact fun _ _=>rfl|apply And.intro)
  ·have c0':i=l.length:=(by have h:¬ (i:Int)<l.length:=of_decide_eq_false c0;omega)
   subst c0'
   rw [List.take_length] at hT hi2
   rw[show textH l=(linesT l,0) by unfold textH;rw[if_neg h1,if_pos hi2],←hT]
   have hTl:(linesT l).length≤70368744177664:=by have:=hb l.length (by rw [List.take_length];exact hi2);rw [List.take_length] at this;omega
   rw [←hT] at hTl
   conv=>whnf
   first
    |refine .rel _ (COk.thing (Bst.flT 94) (bsT_ok _ (c1 :: T) hTl) [] [] _ rfl rfl) (fun x ks' hR=>?_)
     obtain⟨s0,a1,⟨h1,h2⟩,h3,h4⟩:=hR
     subst h1 h2 h3 h4
    |refine .rel _ (packIn (bs0T_ok 94)) (fun x ks' hR=>?_)
     obtain⟨b1,h1,h2,h3⟩:=hR
     subst h1 h2 h3
   conv=>whnf
   repeat'(first|exact ⟨⟩|exact rfl|exact fun _=>Iff.rfl|exact fun _ _=>rfl|exact renM_ent rfl _|apply And.intro)
end Go.Proofs.YtdfdlbnojmlpiaaGreatDoor
