/-
  walk.rising. Condition: a name. cmp.Compare of texts, slices.Compare of lists of texts, walk.Less. Conditions: length. rdata.look, rdata.Fold, sets.Check. No conditions. record.sayingOf, Same, order, Less. Conditions: none but lengths that rdata.Check bounds. What stable sorting by merging in place does to the places of elements. Plain lemmas. slices.swapRangeCmpFunc, rotateCmpFunc at records: what they do to a row of places. Conditions: the places lie within the row. slices.insertionSortCmpFunc at records. Conditions: the comparison tells weakly apart, and changes nothing. slices.symMergeCmpFunc at records. Conditions: the comparison tells weakly apart, and changes nothing. slices.stableCmpFunc, SortStableFunc at records. Conditions: the comparison tells weakly apart, and changes nothing. Of texts those that are the first of their folded text, in the order of these. Plain lemmas. record.Sort. Conditions: the order tells weakly apart; length. The order of records: total; sorted lists are told by their elements. Plain.
-/
import Derived.Test.YtdfdlbnojmlpiaaGreatDoorD1
import Derived.Test.YtdfdlbnojmlpiaaGreatDoorK4
set_option linter.unusedVariables false
set_option linter.unusedSimpArgs false
namespace Go.Proofs.YtdfdlbnojmlpiaaGreatDoor
open Go Go.Eng
def qj6(n:List UInt8):List (List UInt8):=(fl n).reverse
set_option maxRecDepth 100000
theorem jw9{ls:List (List UInt8)}{i:Nat}{l:List UInt8}(h:ls[i]? = some l)(j:Nat)(hj:j<i+1):catF i (strs (ls.take i)) (qh1 [DV.str l] 1) j=strs (ls.take i++[l]) j:=by
 have hi:=(List.getElem?_eq_some_iff.1 h).1
 have:=ql8 (ls.take i) l (qh1 [DV.str l] 1) rfl j (by rw[List.length_take];omega)
 rwa [List.length_take,Nat.min_eq_left (by omega)] at this
set_option maxHeartbeats 8000000 in
theorem rising_ok(n0:List UInt8)(hn0:qb2 n0):FnOk Tryz.prog 164 [.d (.str n0)] (.d (.sl (qj6 n0).isEmpty (qj6 n0).length 1 (strs (qj6 n0)))):=by
 refine qa3 (TT:=TT) (IN:=qc2 [(192,Tryz.f192,1),(211,Tryz.f211,2),(127,Tryz.f127,1),(169,Tryz.f169,2),(93,Tryz.f93,1),(154,Tryz.f154,2)]) qc5 (qb8 (qb8 (qb8 (qb8 (qb8 (qb8 qa1 Tryz.func154 (by kernel_rfl) (by kernel_rfl)) Tryz.func93 (by kernel_rfl) (by kernel_rfl)) Tryz.func169 (by kernel_rfl) (by kernel_rfl)) Tryz.func127 (by kernel_rfl) (by kernel_rfl)) Tryz.func211 (by kernel_rfl) (by kernel_rfl)) Tryz.func192 (by kernel_rfl) (by kernel_rfl)) mixed 1000 Tryz.func164 rfl (qa8 Tryz.func164 (by kernel_rfl) rfl) rfl 10 (by kernel_rfl) ?_
 conv=>whnf
 refine .one (.data _ (fold_ok n0 (by have:=hn0.2.1;omega)) rfl rfl ?_)
 have hn:qb2 (fold n0):=qj9 hn0
 conv=>whnf
 refine .one (.data _ (qf2 (fold n0)) rfl rfl ?_)
 rw[if_pos hn]
 conv=>whnf
 refine brF rfl ?_
 have hlf:=jn8 hn0
 generalize hnn:fold n0=n at hn hlf ⊢
 conv=>whnf
 have hflok:=fl_ok hn0
 obtain⟨hn1,hn2,hn3⟩:=qo8 hn
 have hend:∀ i,qe8 (labN n) i<n.length:=fun i=>by have:=pos_lt (labN n) i;rw [←hn3] at this;exact this
 have hbt:∀ i l,(labN n)[i]? = some l→bt n (qe8 (labN n) i)=l.length:=fun i l h=>by
  have:=bt_pos hn2 h
  rw [←hn3] at this;exact this
 have hbe:bt n (qe8 (labN n) (labN n).length)=0:=by
  have:=bt_end (labN n)
  rw [←hn3] at this;exact this
 have hll:=pos_end (labN n)
 rw [←hn3] at hll
 have hlab:∀ i l,(labN n)[i]? = some l→(n.drop (qe8 (labN n) i+1)).take l.length=l:=fun i l h=>by
  have:=label_at h
  rw [←hn3] at this;exact this
 generalize hls:labN n=ls at hn2 hn3 hend hbt hbe hll hlf hlab
 have hcnt:∀ i,i≤ls.length→i≤qe8 ls i:=fun i=>by
  induction i with
  |zero=>intro _;exact Nat.zero_le _
  |succ i ih =>
   intro h
   have:=ih (by omega)
   have:=pos_mono (ls:=ls) (i:=i) (j:=i+1) (by omega) h
   omega
 have hlc:=hcnt ls.length (Nat.le_refl _)
 refine .nilC 1 0 9 1 (strs []) _ _ _ _ rfl rfl ?_
 conv=>whnf
 refine .inv Nat (fun i=>i≤ls.length) (fun i=>[(3,iV (qe8 ls i))]) (fun i=>[(4,.cells 3 [iV (qe8 ls i)]),(7,.row 9 1 i .iff (strs (ls.take i)))]) (fun i=>ls.length - i) ⟨0,[0,1,2,3,4,5,6,7],Nat.zero_le _,?_⟩ ?_
 ·conv=>whnf
  repeat'(first|exact ⟨⟩|exact rfl|exact qa2 _|exact Or.inr rfl|exact fun _ _=>rfl|exact fun _ h=>absurd h (Nat.not_lt_zero _)|apply And.intro)
 intro i hi
 have hp:=hend i
 conv=>whnf
 refine brT (decide_eq_true (by omega)) ?_
 conv=>whnf
 refine⟨by omega,?_⟩
 conv=>whnf
 rw[ql7,qa4 (bt n (qe8 ls i):Int) (by have:=ji4 n (qe8 ls i);omega)]
 rcases Nat.lt_or_ge i ls.length with hlt|hge
 ·have hli:ls[i]? = some ls[i]:=List.getElem?_eq_getElem hlt
  have hb:=hbt i _ hli
  have hok:=hn2 _ (List.getElem_mem hlt)
  have hps:=jf0 hli
  have hp2:=hend (i+1)
  rw[hb]
  generalize ls[i]=l at hli hb hok hps
  obtain⟨ho1,ho2⟩:=hok
  refine brF (by rw[beq_eq_false_iff_ne];omega) ?_
  conv=>whnf
  refine brF (decide_eq_false (by omega)) ?_
  conv=>whnf
  have e1:IntKind.i64.wrap ((n.length:Int) - (qe8 ls i:Int))=((n.length - qe8 ls i:Nat):Int):=by rw[qa4 _ (by omega)];omega
  rw[e1]
  refine brF (decide_eq_false (by omega)) ?_
  conv=>whnf
  have e2:IntKind.i64.wrap ((qe8 ls i:Int)+IntKind.i64.wrap (1+(l.length:Int)))=((qe8 ls (i+1):Nat):Int):=by rw[qa4 (1+(l.length:Int)) (by omega),qa4 _ (by omega)];omega
  rw[e2]
  have e3:IntKind.i64.wrap ((qe8 ls i:Int)+1)=((qe8 ls i+1:Nat):Int):=by rw[qa4 _ (by omega)];omega
  rw[e3]
  refine⟨by omega,?_⟩
  conv=>whnf
  have hsub:sub n ((qe8 ls i+1:Nat):Int) ((qe8 ls (i+1):Nat):Int)=l:=by
   unfold sub
   rw[Int.toNat_natCast,Int.toNat_natCast]
   rw[show qe8 ls (i+1) - (qe8 ls i+1)=l.length by omega]
   exact hlab i l hli
  rw[hsub]
  refine⟨by omega,?_⟩
  conv=>whnf
  refine⟨i+1,[0,1,2,3,4,5,6,9],hlt,by omega,?_⟩
  conv=>whnf
  repeat'(first|exact ⟨⟩|exact rfl|exact qa2 _|exact Or.inr rfl|exact fun _ _=>rfl|exact fun _ h=>absurd h (Nat.not_lt_zero _)|apply And.intro)
  exact fun j hj=>by rw[List.take_add_one,hli];exact jw9 hli j hj
 ·have hil:i=ls.length:=by omega
  subst hil
  rw[hbe]
  conv=>whnf
  refine brT rfl ?_
  conv=>whnf
  refine .rel _ (COk.frameX (rev_ok .iff ls (by omega)) [7] rfl rfl (by rw[List.take_length];rfl)) (fun y ks' hR=>?_)
  obtain⟨_,_,⟨rfl,rfl⟩,rfl,rfl⟩:=hR
  conv=>whnf
  have hr:qj6 n0=ls.reverse:=by unfold qj6;rw[hlf]
  rw[hr]
  refine⟨?_,List.length_reverse.symm,.inr rfl,fun _ _=>rfl⟩
  rw[Bool.eq_iff_iff,Nat.beq_eq,List.isEmpty_iff,List.reverse_eq_nil_iff,List.length_eq_zero_iff]
end Go.Proofs.YtdfdlbnojmlpiaaGreatDoor
namespace Go.Proofs.YtdfdlbnojmlpiaaGreatDoor
open Go Go.Eng
set_option maxRecDepth 100000
def cmpS(a b:List UInt8):Int:=if Op.bytesLess a b then -1 else if a=b then 0 else 1
def qg1:List (List UInt8)→List (List UInt8)→Int
 |[],[]=>0
 |[],_ :: _=>-1
 |_ :: _,[]=>1
 |a :: l,b :: m=>if cmpS a b≠0 then cmpS a b else qg1 l m
theorem cmps_ok(a b:List UInt8):FnOk Tryz.prog 191 [.d (.str a),.d (.str b)] (.d (.int .i64 (cmpS a b))):=by
 refine qa3 (TT:=TT) (IN:=qc2 [(210,Tryz.f210,1)]) qc5 (qb8 qa1 Tryz.func210 (by kernel_rfl) (by kernel_rfl)) mixed 1000 Tryz.func191 rfl (qa8 Tryz.func191 (by kernel_rfl) rfl) rfl 18 (by kernel_rfl) ?_
 conv=>whnf
 refine brF (by simp) ?_
 conv=>whnf
 refine brF (by simp) ?_
 conv=>whnf
 unfold cmpS
 refine⟨fun h=>?_,fun h=>?_⟩
 ·rw[if_pos h]
  conv=>whnf
  try exact rfl
 rw[if_neg (by rw[h];decide)]
 conv=>whnf
 rw[h,Bool.false_or]
 by_cases e:a=b
 ·rw[if_pos e]
  refine brF (by simp[e]) ?_
  conv=>whnf
  try exact rfl
 ·rw[if_neg e]
  refine brT (by simp[e]) ?_
  conv=>whnf
  try exact rfl
set_option maxHeartbeats 4000000 in
theorem cmpll_ok(y z:Bool)(l m:List (List UInt8))(hl:l.length≤1000000)(hm:m.length≤1000000):FnOk Tryz.prog 163 [.d (.sl y l.length 1 (strs l)),.d (.sl z m.length 1 (strs m))] (.d (.int .i64 (qg1 l m))):=by
 refine qa3 (TT:=TT) (IN:=qc2 []) qc5 qa1 mixed 1000 Tryz.func163 rfl (qa8 Tryz.func163 (by kernel_rfl) rfl) rfl 34 (by kernel_rfl) ?_
 conv=>whnf
 refine .inv Nat (fun i=>i≤l.length∧i≤m.length∧qg1 (l.drop i) (m.drop i)=qg1 l m) (fun i=>[(11,iV i)]) (fun _=>[]) (fun i=>l.length - i) ⟨0,[],⟨Nat.zero_le _,Nat.zero_le _,rfl⟩,?_⟩ ?_
 ·conv=>whnf
  repeat'(first|exact ⟨⟩|exact rfl|exact fun _=>Iff.rfl|exact fun _ _=>rfl|exact renM_ent rfl _|apply And.intro)
 intro i hi
 obtain⟨hi1,hi2,hi3⟩:=hi
 have hw1:IntKind.i64.wrap ((i:Int)+1)=((i+1:Nat):Int):=by rw[qa4 _ (by omega)];omega
 conv=>whnf
 generalize qg1 l m=Y at hi3 ⊢
 refine⟨fun c0=>?_,fun c0=>?_⟩
 ·have c0':i<l.length:=(by have h:(i:Int)<l.length:=of_decide_eq_true c0;omega)
  rw [List.drop_eq_getElem_cons c0'] at hi3
  conv=>whnf
  refine⟨by omega,?_⟩
  conv=>whnf
  by_cases hlt:i<m.length
  case neg =>
   rw [show m.drop i=[] from List.drop_eq_nil_of_le (by omega)] at hi3
   simp only [qg1] at hi3
   rw[←hi3]
   refine brT (decide_eq_true (by omega)) ?_
   conv=>whnf
   repeat'(first|exact ⟨⟩|exact rfl|exact fun _=>Iff.rfl|exact fun _ _=>rfl|exact renM_ent rfl _|apply And.intro)
  rw [List.drop_eq_getElem_cons hlt] at hi3
  refine brF (decide_eq_false (by omega)) ?_
  conv=>whnf
  refine⟨by omega,?_⟩
  conv=>whnf
  rw[Int.toNat_natCast,show l[i]?.getD []=l[i] by rw[List.getElem?_eq_getElem c0'];rfl,show m[i]?.getD []=m[i] by rw[List.getElem?_eq_getElem hlt];rfl]
  refine .one (.data _ (cmps_ok _ _) rfl rfl ?_)
  conv=>whnf
  simp only [qg1] at hi3
  by_cases hc:cmpS l[i] m[i]=0
  ·rw [if_neg (by simpa using hc)] at hi3
   refine brF (by rw[bne_eq_false_iff_eq];exact hc) ?_
   conv=>whnf
   rw[hw1]
   refine⟨i+1,[],⟨c0',hlt,hi3⟩,by omega,?_⟩
   conv=>whnf
   repeat'(first|exact ⟨⟩|exact rfl|exact fun _=>Iff.rfl|exact fun _ _=>rfl|exact renM_ent rfl _|apply And.intro)
  ·rw [if_pos hc] at hi3
   rw[←hi3]
   refine brT (by rw[bne_iff_ne];exact hc) ?_
   conv=>whnf
   repeat'(first|exact ⟨⟩|exact rfl|exact fun _=>Iff.rfl|exact fun _ _=>rfl|exact renM_ent rfl _|apply And.intro)
 ·have c0':i=l.length:=(by have h:¬ (i:Int)<l.length:=of_decide_eq_false c0;omega)
  rw [show l.drop i=[] from List.drop_eq_nil_of_le (by omega)] at hi3
  conv=>whnf
  by_cases hlt:i<m.length
  ·rw [List.drop_eq_getElem_cons hlt] at hi3
   simp only [qg1] at hi3
   rw[←hi3]
   refine brT (decide_eq_true (by omega)) ?_
   conv=>whnf
   repeat'(first|exact ⟨⟩|exact rfl|exact fun _=>Iff.rfl|exact fun _ _=>rfl|exact renM_ent rfl _|apply And.intro)
  ·rw [List.drop_eq_nil_of_le (by omega)] at hi3
   simp only [qg1] at hi3
   rw[←hi3]
   refine brF (decide_eq_false (by omega)) ?_
   conv=>whnf
   repeat'(first|exact ⟨⟩|exact rfl|exact fun _=>Iff.rfl|exact fun _ _=>rfl|exact renM_ent rfl _|apply And.intro)
theorem ji7{n:List UInt8}(h:qb2 n):(qj6 n).length≤255:=by
 obtain⟨h1,h2,h3⟩:=qo8 h
 unfold qj6
 rw[List.length_reverse,fl,List.length_map]
 have:=qz7 (labN n)
 have e:(labs (labN n)).length+1=(mk (labN n)).length:=by rw[←qz6,List.length_append];rfl
 rw [←h3] at e
 omega
def qj0(a b:List UInt8):Bool:=decide (qb2 a) && (decide (qb2 b) && decide (qg1 (qj6 a) (qj6 b)<0))
set_option maxHeartbeats 4000000 in
theorem wless_ok(a b:List UInt8):FnOk Tryz.prog 123 [.d (.str a),.d (.str b)] (.d (.bool (qj0 a b))):=by
 refine qa3 (TT:=TT) (IN:=qc2 []) qc5 qa1 mixed 1000 Tryz.func123 rfl (qa8 Tryz.func123 (by kernel_rfl) rfl) rfl 17 (by kernel_rfl) ?_
 conv=>whnf
 refine .one (.data _ (qf2 a) rfl rfl ?_)
 by_cases ha:qb2 a
 case neg =>
  rw[if_neg ha,show qj0 a b=false by unfold qj0;rw[decide_eq_false ha];rfl]
  conv=>whnf
  repeat(first|(refine brF rfl ?_;conv=>whnf)|(refine brT rfl ?_;conv=>whnf))
  repeat'(first|exact ⟨⟩|exact rfl|exact fun _=>Iff.rfl|exact fun _ _=>rfl|exact renM_ent rfl _|apply And.intro)
 rw[if_pos ha]
 conv=>whnf
 repeat(first|(refine brF rfl ?_;conv=>whnf)|(refine brT rfl ?_;conv=>whnf))
 refine .one (.data _ (qf2 b) rfl rfl ?_)
 by_cases hb:qb2 b
 case neg =>
  rw[if_neg hb,show qj0 a b=false by unfold qj0;rw[decide_eq_true ha,decide_eq_false hb];rfl]
  conv=>whnf
  repeat(first|(refine brF rfl ?_;conv=>whnf)|(refine brT rfl ?_;conv=>whnf))
  repeat'(first|exact ⟨⟩|exact rfl|exact fun _=>Iff.rfl|exact fun _ _=>rfl|exact renM_ent rfl _|apply And.intro)
 rw[if_pos hb,show qj0 a b=decide (qg1 (qj6 a) (qj6 b)<0) by unfold qj0;rw[decide_eq_true ha,decide_eq_true hb];rfl]
 conv=>whnf
 repeat(first|(refine brF rfl ?_;conv=>whnf)|(refine brT rfl ?_;conv=>whnf))
 refine .one (.data _ (rising_ok a ha) rfl rfl ?_)
 conv=>whnf
 refine .one (.data _ (rising_ok b hb) rfl rfl ?_)
 conv=>whnf
 refine .one (.data _ (cmpll_ok _ _ (qj6 a) (qj6 b) (by have:=ji7 ha;omega) (by have:=ji7 hb;omega)) rfl rfl ?_)
 conv=>whnf
 repeat'(first|exact ⟨⟩|exact rfl|exact fun _=>Iff.rfl|exact fun _ _=>rfl|exact renM_ent rfl _|apply And.intro)
end Go.Proofs.YtdfdlbnojmlpiaaGreatDoor
namespace Go.Proofs.YtdfdlbnojmlpiaaGreatDoor
open Go Go.Eng
def qn0(t:Int)(s:List UInt8):Option ((Nat × Nat × Nat) × (List UInt8 × List (List UInt8) × List UInt8)) :=
 if s.length≤4096 then (qd7 t).bind fun p=>(cutF p.1 p.2.1 p.2.2 s).map fun q=>(p,q) else none
def lookR:Option ((Nat × Nat × Nat) × (List UInt8 × List (List UInt8) × List UInt8))→SV
 |none=>.tup [.agg [.any,.any,.any],noParts,.d .ff]
 |some (p,x,l,r)=>.tup [formV p,partsV x l r,.d .tt]
set_option maxRecDepth 100000
set_option maxHeartbeats 4000000 in
theorem look_ok(t:Int)(s:List UInt8):FnOk Tryz.prog 145 [.d (.int .u16 t),.d (.str s)] (lookR (qn0 t s)):=by
 refine qa3 (TT:=TT) (IN:=qc2 []) qc5 qa1 mixed 1000 Tryz.func145 rfl (qa8 Tryz.func145 (by kernel_rfl) rfl) rfl 32 (by kernel_rfl) ?_
 conv=>whnf
 refine .one (.data _ (jo4 t) rfl ?_ ?_)
 ·cases qd7 t <;> rfl
 cases hf:qd7 t with
 |none =>
  have e:qn0 t s=none:=by unfold qn0;rw[hf];split <;> rfl
  rw[e]
  conv=>whnf
  repeat'(first|exact ⟨⟩|exact rfl|exact Or.inl rfl|exact Or.inr rfl|exact fun _ _=>rfl|apply And.intro)
 |some p =>
  obtain⟨f1,f2,f3⟩:=qm2 hf
  conv=>whnf
  refine⟨fun hgt=>?_,fun hle=>?_⟩
  ·have e:qn0 t s=none:=by unfold qn0;rw [if_neg (by simp at hgt;omega)]
   rw[e]
   conv=>whnf
   repeat'(first|exact ⟨⟩|exact rfl|exact Or.inl rfl|exact Or.inr rfl|exact fun _ _=>rfl|apply And.intro)
  ·have e:qn0 t s=(cutF p.1 p.2.1 p.2.2 s).map fun q=>(p,q):=by unfold qn0;rw [if_pos (by simp at hle;omega),hf];rfl
   rw[e]
   conv=>whnf
   refine .one (.data _ (cut_ok p.1 p.2.1 p.2.2 f1 f2 f3 s) rfl ?_ ?_)
   ·cases cutF p.1 p.2.1 p.2.2 s <;> rfl
   cases hc:cutF p.1 p.2.1 p.2.2 s with
   |none =>
    conv=>whnf
    (apply Exists.intro;apply Exists.intro;apply And.intro;focus ((conv=>whnf);repeat'(first|exact ⟨⟩|exact rfl|apply And.intro)))
    conv=>whnf
    repeat'(first|exact ⟨⟩|exact rfl|exact Or.inl rfl|exact Or.inr rfl|exact fun _ _=>rfl|apply And.intro)
   |some q =>
    conv=>whnf
    (apply Exists.intro;apply Exists.intro;apply And.intro;focus ((conv=>whnf);repeat'(first|exact ⟨⟩|exact rfl|apply And.intro)))
    conv=>whnf
    repeat'(first|exact ⟨⟩|exact rfl|exact Or.inl rfl|exact Or.inr rfl|exact fun _ _=>rfl|apply And.intro)
def qi4(t:Int)(s:List UInt8):List UInt8:=match qn0 t s with
 |none=>s
 |some (_,x,l,r)=>x++fold (Lib.join l [])++r
theorem jj3(l:List (List UInt8)):Lib.join l []=l.flatten:=by
 induction l with
 |nil=>rfl
 |cons a l ih=>cases l with
  |nil=>simp[Lib.join]
  |cons b l=>simp [Lib.join] at ih ⊢;rw [ih]
theorem jf2:∀ (n:Nat) (s:List UInt8) (l:List (List UInt8)) (r:List UInt8),qm6 n s=some (l,r)→l.length=n∧l.flatten.length+r.length=s.length:=by
 intro n
 induction n with
 |zero=>intro s l r h;simp only [qm6,Option.some.injEq,Prod.mk.injEq] at h;obtain ⟨rfl,rfl⟩:=h;simp
 |succ n ih =>
  intro s l r h
  simp only [qm6] at h
  split at h
  ·cases h
  ·cases hn:qm6 n (s.drop (qf0 s)) with
   |none=>rw [hn] at h;cases h
   |some p =>
    rw [hn] at h
    simp only [Option.map_some,Option.some.injEq,Prod.mk.injEq] at h
    obtain⟨rfl,rfl⟩:=h
    obtain⟨h1,h2⟩:=ih _ p.1 p.2 hn
    have:=jd7 s
    refine⟨by simp[h1],?_⟩
    simp only [List.flatten_cons,List.length_append,List.length_take,List.length_drop] at h2 ⊢
    omega
theorem lookF_len{t:Int}{s:List UInt8}{p:Nat × Nat × Nat}{x:List UInt8}{l:List (List UInt8)}{r:List UInt8}(h:qn0 t s=some (p,x,l,r)):s.length≤4096∧l.length≤100∧x.length+l.flatten.length+r.length=s.length:=by
 unfold qn0 at h
 split at h
 ·rename_i hs
  cases hf:qd7 t with
  |none=>rw [hf] at h;cases h
  |some q =>
   rw [hf] at h
   simp only [Option.bind_some] at h
   cases hc:cutF q.1 q.2.1 q.2.2 s with
   |none=>rw [hc] at h;cases h
   |some c =>
    rw [hc] at h
    simp only [Option.map_some,Option.some.injEq,Prod.mk.injEq] at h
    obtain⟨rfl,rfl⟩:=h
    unfold cutF at hc
    split at hc
    ·cases hc
    ·cases hn:qm6 q.2.1 (s.drop (2 * q.1)) with
     |none=>rw [hn] at hc;cases hc
     |some y =>
      rw [hn] at hc
      simp only [Option.bind_some] at hc
      split at hc
      ·simp only [Option.some.injEq,Prod.mk.injEq] at hc
       obtain⟨rfl,rfl,rfl⟩:=hc
       obtain⟨h1,h2⟩:=jf2 _ _ y.1 y.2 hn
       have:=(qm2 hf).2.1
       refine⟨hs,by omega,?_⟩
       simp only [List.length_take,List.length_drop] at h2 ⊢
       omega
      ·cases hc
 ·cases h
set_option maxHeartbeats 4000000 in
theorem rfold_ok(t:Int)(s:List UInt8):FnOk Tryz.prog 117 [.d (.int .u16 t),.d (.str s)] (.d (.str (qi4 t s))):=by
 refine qa3 (TT:=TT) (IN:=qc2 []) qc5 qa1 mixed 1000 Tryz.func117 rfl (qa8 Tryz.func117 (by kernel_rfl) rfl) rfl 26 (by kernel_rfl) ?_
 conv=>whnf
 refine .one (.data _ (look_ok t s) rfl ?_ ?_)
 ·cases qn0 t s <;> rfl
 cases hf:qn0 t s with
 |none =>
  have e:qi4 t s=s:=by unfold qi4;rw[hf]
  rw[e]
  conv=>whnf
 |some p =>
  obtain⟨p,x,l,r⟩:=p
  obtain⟨h1,h2,h3⟩:=lookF_len hf
  have e:qi4 t s=x++fold (Lib.join l [])++r:=by unfold qi4;rw[hf]
  rw[e]
  conv=>whnf
  refine .data _ (join_ok _ l [] (by omega) (by rw[jj3];omega)) rfl rfl ?_
  conv=>whnf
  refine .data _ (fold_ok _ (by rw[jj3];omega)) rfl rfl ?_
  have hfl:(fold (Lib.join l [])).length=l.flatten.length:=by rw[jj3];simp only[fold,List.length_map]
  conv=>whnf
  refine⟨by omega,?_⟩
  conv=>whnf
  refine⟨by simp only[List.length_append];omega,?_⟩
  conv=>whnf
end Go.Proofs.YtdfdlbnojmlpiaaGreatDoor
namespace Go.Proofs.YtdfdlbnojmlpiaaGreatDoor
open Go Go.Eng
set_option maxRecDepth 100000
theorem qg4{r:RR}(h:r.check=true):qb2 r.nm:=by
 unfold RR.check at h
 simp only [Bool.and_eq_true,decide_eq_true_eq] at h
 exact h.1.1
def RR.sayV(r:RR):SV:=.agg [.d (.str (fold r.nm)),.d (.int .u16 r.ty),.d (.int .u16 r.cl),.d (.str (qi4 r.ty r.d))]
def RR.plV(r:RR):SV:=.agg [.d (.str (fold r.nm)),.d (.int .u16 r.ty),.d (.int .u16 r.cl),.d (.str (qi4 r.ty r.d)),.d (.str r.nm),.d (.int .u16 r.ty),.d (.int .u16 r.cl),.d (.int .u32 r.ttl),.d (.str r.d)]
theorem qv2(r:RR)(h2:r.nm.length≤1000000):FnOk Tryz.prog 55 [r.V] r.sayV:=by
 refine qa3 (TT:=TT) (IN:=qc2 []) qc5 qa1 mixed 1000 Tryz.func55 rfl (qa8 Tryz.func55 (by kernel_rfl) rfl) rfl 15 (by kernel_rfl) ?_
 conv=>whnf
 refine .data _ (fold_ok r.nm (by omega)) rfl rfl ?_
 conv=>whnf
 refine .data _ (rfold_ok r.ty r.d) rfl rfl ?_
 conv=>whnf
 repeat'(first|exact ⟨⟩|exact rfl|exact fun _=>Iff.rfl|exact fun _ _=>rfl|exact renM_ent rfl _|apply And.intro)
theorem jl3(a b:List UInt8):FnOk Tryz.prog 121 [.d (.str a),.d (.str b)] (.d (.int .i64 (Lib.compareBytes a b))):=by
 refine⟨qa8 Tryz.func121 (by kernel_rfl) rfl,fun M w vs hV hM hl hd=>?_⟩
 match vs,hl with
 |[v0,v1],_ =>
  have h0:=qh0 (hd 0 _ v0 rfl rfl)
  have h1:=qh0 (hd 1 _ v1 rfl rfl)
  subst h0 h1
  refine(Try.strings_Compare ⟨a.toArray⟩ ⟨b.toArray⟩ w).mono ?_
  rintro e w' ⟨rfl,rfl⟩
  exact⟨_,rfl,Step.refl _ _,.d (.int _ _)⟩
def cmpI(x y:Int):Int:=if x<y then -1 else if x > y then 1 else 0
theorem cmpi32_ok(x y:Int):FnOk Tryz.prog 122 [.d (.int .u32 x),.d (.int .u32 y)] (.d (.int .i64 (cmpI x y))):=by
 refine qa3 (TT:=TT) (IN:=qc2 [(162,Tryz.f162,1)]) qc5 (qb8 qa1 Tryz.func162 (by kernel_rfl) (by kernel_rfl)) mixed 1000 Tryz.func122 rfl (qa8 Tryz.func122 (by kernel_rfl) rfl) rfl 18 (by kernel_rfl) ?_
 conv=>whnf
 refine brF (by simp) ?_
 conv=>whnf
 refine brF (by simp) ?_
 conv=>whnf
 unfold cmpI
 by_cases h1:x<y
 ·rw[if_pos h1]
  refine brT (decide_eq_true h1) ?_
  conv=>whnf
  try exact rfl
 ·rw[if_neg h1]
  refine brF (decide_eq_false h1) ?_
  conv=>whnf
  by_cases h2:x > y
  ·rw[if_pos h2]
   refine brT (decide_eq_true h2) ?_
   conv=>whnf
   try exact rfl
  ·rw[if_neg h2]
   refine brF (decide_eq_false h2) ?_
   conv=>whnf
   try exact rfl
theorem cmpiT_ok(x y:Int):FnOk Tryz.prog 124 [.d (.int .u16 x),.d (.int .u16 y)] (.d (.int .i64 (cmpI x y))):=by
 refine qa3 (TT:=TT) (IN:=qc2 [(165,Tryz.f165,1)]) qc5 (qb8 qa1 Tryz.func165 (by kernel_rfl) (by kernel_rfl)) mixed 1000 Tryz.func124 rfl (qa8 Tryz.func124 (by kernel_rfl) rfl) rfl 18 (by kernel_rfl) ?_
 conv=>whnf
 refine brF (by simp) ?_
 conv=>whnf
 refine brF (by simp) ?_
 conv=>whnf
 unfold cmpI
 by_cases h1:x<y
 ·rw[if_pos h1]
  refine brT (decide_eq_true h1) ?_
  conv=>whnf
  try exact rfl
 ·rw[if_neg h1]
  refine brF (decide_eq_false h1) ?_
  conv=>whnf
  by_cases h2:x > y
  ·rw[if_pos h2]
   refine brT (decide_eq_true h2) ?_
   conv=>whnf
   try exact rfl
  ·rw[if_neg h2]
   refine brF (decide_eq_false h2) ?_
   conv=>whnf
   try exact rfl
theorem cmpi16_ok(x y:Int):FnOk Tryz.prog 125 [.d (.int .u16 x),.d (.int .u16 y)] (.d (.int .i64 (cmpI x y))):=by
 refine qa3 (TT:=TT) (IN:=qc2 [(166,Tryz.f166,1)]) qc5 (qb8 qa1 Tryz.func166 (by kernel_rfl) (by kernel_rfl)) mixed 1000 Tryz.func125 rfl (qa8 Tryz.func125 (by kernel_rfl) rfl) rfl 18 (by kernel_rfl) ?_
 conv=>whnf
 refine brF (by simp) ?_
 conv=>whnf
 refine brF (by simp) ?_
 conv=>whnf
 unfold cmpI
 by_cases h1:x<y
 ·rw[if_pos h1]
  refine brT (decide_eq_true h1) ?_
  conv=>whnf
  try exact rfl
 ·rw[if_neg h1]
  refine brF (decide_eq_false h1) ?_
  conv=>whnf
  by_cases h2:x > y
  ·rw[if_pos h2]
   refine brT (decide_eq_true h2) ?_
   conv=>whnf
   try exact rfl
  ·rw[if_neg h2]
   refine brF (decide_eq_false h2) ?_
   conv=>whnf
   try exact rfl
def or3(x y z:Int):Int:=if x≠0 then x else if y≠0 then y else z
theorem or3_ok(x y z:Int):FnOk Tryz.prog 120 [.d (.sl false 3 1 (qh1 [.int .i64 x,.int .i64 y,.int .i64 z] 1))] (.d (.int .i64 (or3 x y z))):=by
 refine qa3 (TT:=TT) (IN:=qc2 []) qc5 qa1 mixed 1000 Tryz.func120 rfl (qa8 Tryz.func120 (by kernel_rfl) rfl) rfl 17 (by kernel_rfl) ?_
 conv=>whnf
 unfold or3
 refine .once ?_
 conv=>whnf
 refine brT rfl ?_
 conv=>whnf
 refine⟨by first|decide|simp,?_⟩
 conv=>whnf
 by_cases hx:x=0
 case neg =>
  rw[if_pos hx]
  refine brT (by simpa using hx) ?_
  conv=>whnf
  try exact rfl
 rw[if_neg (by simp[hx])]
 refine brF (by simp[hx]) ?_
 conv=>whnf
 refine .once ?_
 conv=>whnf
 refine brT rfl ?_
 conv=>whnf
 refine⟨by first|decide|simp,?_⟩
 conv=>whnf
 by_cases hy:y=0
 case neg =>
  rw[if_pos hy]
  refine brT (by simpa using hy) ?_
  conv=>whnf
  try exact rfl
 rw[if_neg (by simp[hy])]
 refine brF (by simp[hy]) ?_
 conv=>whnf
 refine .once ?_
 conv=>whnf
 refine brT rfl ?_
 conv=>whnf
 refine⟨by first|decide|simp,?_⟩
 conv=>whnf
 by_cases hz:z=0
 case neg =>
  skip
  refine brT (by simpa using hz) ?_
  conv=>whnf
  try exact rfl
 skip
 refine brF (by simp[hz]) ?_
 conv=>whnf
 refine .once ?_
 conv=>whnf
 refine brF rfl ?_
 conv=>whnf
 rw[hz]
 try exact rfl
def RR.same(a b:RR):Bool:=decide (fold a.nm=fold b.nm∧a.ty=b.ty∧a.cl=b.cl∧qi4 a.ty a.d=qi4 b.ty b.d)
theorem same_eq(a b:RR):(fold a.nm == fold b.nm && (a.ty == b.ty && (a.cl == b.cl && (qi4 a.ty a.d == qi4 b.ty b.d && true))))=a.same b:=by
 unfold RR.same
 rw[Bool.eq_iff_iff]
 simp[and_assoc]
def ordR(a b:RR):Int :=
 if a.same b then or3 (Lib.compareBytes a.nm b.nm) (Lib.compareBytes a.d b.d) (cmpI a.ttl b.ttl)
 else if fold a.nm≠fold b.nm then (if qj0 (fold a.nm) (fold b.nm) then -1 else 1)
 else or3 (cmpI a.ty b.ty) (cmpI a.cl b.cl) (Lib.compareBytes (qi4 a.ty a.d) (qi4 b.ty b.d))
set_option maxHeartbeats 4000000 in
theorem jc3(a b:RR):FnOk Tryz.prog 58 [a.plV,b.plV] (.d (.int .i64 (ordR a b))):=by
 refine qa3 (TT:=TT) (IN:=qc2 []) qc5 qa1 mixed 1000 Tryz.func58 rfl (qa8 Tryz.func58 (by kernel_rfl) rfl) rfl 68 (by kernel_rfl) ?_
 conv=>whnf
 have hb:=same_eq a b
 unfold ordR
 cases hs:a.same b with
 |true =>
  rw [hs] at hb
  rw[if_pos rfl]
  refine brT hb ?_
  conv=>whnf
  refine .data _ (jl3 _ _) rfl rfl ?_
  conv=>whnf
  refine .data _ (jl3 _ _) rfl rfl ?_
  conv=>whnf
  refine .data _ (cmpi32_ok _ _) rfl rfl ?_
  conv=>whnf
  refine .look (r:=.d (.int .i64 (or3 (Lib.compareBytes a.nm b.nm) (Lib.compareBytes a.d b.d) (cmpI a.ttl b.ttl)))) ?_ rfl ?_
  ·conv=>whnf
   exact⟨(or3_ok (Lib.compareBytes a.nm b.nm) (Lib.compareBytes a.d b.d) (cmpI a.ttl b.ttl)).conv ⟨DS.rows fun i hi=>(match i,hi with
    |0,_=>DSL.refl _
    |1,_=>DSL.refl _
    |2,_=>DSL.refl _),trivial⟩,rfl⟩
  conv=>whnf
  repeat'(first|exact ⟨⟩|exact rfl|exact fun _=>Iff.rfl|exact fun _ _=>rfl|exact renM_ent rfl _|apply And.intro)
 |false =>
  rw [hs] at hb
  rw[if_neg (by decide)]
  refine brF hb ?_
  conv=>whnf
  by_cases hn:fold a.nm=fold b.nm
  ·rw[if_neg (fun h=>h hn)]
   refine brF (by simpa using hn) ?_
   conv=>whnf
   refine .data _ (cmpiT_ok _ _) rfl rfl ?_
   conv=>whnf
   refine .data _ (cmpi16_ok _ _) rfl rfl ?_
   conv=>whnf
   refine .data _ (jl3 _ _) rfl rfl ?_
   conv=>whnf
   refine .look (r:=.d (.int .i64 (or3 (cmpI a.ty b.ty) (cmpI a.cl b.cl) (Lib.compareBytes (qi4 a.ty a.d) (qi4 b.ty b.d))))) ?_ rfl ?_
   ·conv=>whnf
    exact⟨(or3_ok (cmpI a.ty b.ty) (cmpI a.cl b.cl) (Lib.compareBytes (qi4 a.ty a.d) (qi4 b.ty b.d))).conv ⟨DS.rows fun i hi=>(match i,hi with
     |0,_=>DSL.refl _
     |1,_=>DSL.refl _
     |2,_=>DSL.refl _),trivial⟩,rfl⟩
   conv=>whnf
   repeat'(first|exact ⟨⟩|exact rfl|exact fun _=>Iff.rfl|exact fun _ _=>rfl|exact renM_ent rfl _|apply And.intro)
  ·rw[if_pos hn]
   refine brT (by simpa using hn) ?_
   conv=>whnf
   refine .one (.data _ (wless_ok _ _) rfl rfl ?_)
   conv=>whnf
   cases hw:qj0 (fold a.nm) (fold b.nm) with
   |true =>
    refine brT rfl ?_
    conv=>whnf
    repeat'(first|exact ⟨⟩|exact rfl|exact fun _=>Iff.rfl|exact fun _ _=>rfl|exact renM_ent rfl _|apply And.intro)
   |false =>
    refine brF rfl ?_
    conv=>whnf
    repeat'(first|exact ⟨⟩|exact rfl|exact fun _=>Iff.rfl|exact fun _ _=>rfl|exact renM_ent rfl _|apply And.intro)
theorem jn3{r:RR}(h:r.check=true):r.nm.length≤255:=(qg4 h).2.1
def qz2(a b:RR):Bool:=a.check && (b.check && a.same b)
set_option maxHeartbeats 4000000 in
theorem rsame_ok(a b:RR):FnOk Tryz.prog 18 [a.V,b.V] (.d (.bool (qz2 a b))):=by
 refine qa3 (TT:=TT) (IN:=qc2 []) qc5 qa1 mixed 1000 Tryz.func18 rfl (qa8 Tryz.func18 (by kernel_rfl) rfl) rfl 18 (by kernel_rfl) ?_
 conv=>whnf
 refine .data _ (qh6 a) rfl rfl ?_
 cases ha:a.check with
 |false =>
  rw[show qz2 a b=false by unfold qz2;rw[ha];rfl]
  conv=>whnf
  repeat(first|(refine brF rfl ?_;conv=>whnf)|(refine brT rfl ?_;conv=>whnf))
  repeat'(first|exact ⟨⟩|exact rfl|exact fun _=>Iff.rfl|exact fun _ _=>rfl|exact renM_ent rfl _|apply And.intro)
 |true =>
  conv=>whnf
  repeat(first|(refine brF rfl ?_;conv=>whnf)|(refine brT rfl ?_;conv=>whnf))
  refine .data _ (qh6 b) rfl rfl ?_
  cases hb:b.check with
  |false =>
   rw[show qz2 a b=false by unfold qz2;rw[ha,hb];rfl]
   conv=>whnf
   repeat(first|(refine brF rfl ?_;conv=>whnf)|(refine brT rfl ?_;conv=>whnf))
   repeat'(first|exact ⟨⟩|exact rfl|exact fun _=>Iff.rfl|exact fun _ _=>rfl|exact renM_ent rfl _|apply And.intro)
  |true =>
   rw[show qz2 a b=a.same b by unfold qz2;rw[ha,hb];rfl]
   conv=>whnf
   repeat(first|(refine brF rfl ?_;conv=>whnf)|(refine brT rfl ?_;conv=>whnf))
   refine .data _ (qv2 a (by have:=jn3 ha;omega)) rfl rfl ?_
   conv=>whnf
   refine .data _ (qv2 b (by have:=jn3 hb;omega)) rfl rfl ?_
   conv=>whnf
   exact congrArg DV.bool (same_eq a b)
def qu8(a b:RR):Bool:=a.check && (b.check && decide (ordR a b<0))
set_option maxHeartbeats 4000000 in
theorem jx8(a b:RR):FnOk Tryz.prog 20 [a.V,b.V] (.d (.bool (qu8 a b))):=by
 refine qa3 (TT:=TT) (IN:=qc2 []) qc5 qa1 mixed 1000 Tryz.func20 rfl (qa8 Tryz.func20 (by kernel_rfl) rfl) rfl 21 (by kernel_rfl) ?_
 conv=>whnf
 refine .one (.data _ (qh6 a) rfl rfl ?_)
 cases ha:a.check with
 |false =>
  rw[show qu8 a b=false by unfold qu8;rw[ha];rfl]
  conv=>whnf
  repeat(first|(refine brF rfl ?_;conv=>whnf)|(refine brT rfl ?_;conv=>whnf))
  repeat'(first|exact ⟨⟩|exact rfl|exact fun _=>Iff.rfl|exact fun _ _=>rfl|exact renM_ent rfl _|apply And.intro)
 |true =>
  conv=>whnf
  repeat(first|(refine brF rfl ?_;conv=>whnf)|(refine brT rfl ?_;conv=>whnf))
  refine .one (.data _ (qh6 b) rfl rfl ?_)
  cases hb:b.check with
  |false =>
   rw[show qu8 a b=false by unfold qu8;rw[ha,hb];rfl]
   conv=>whnf
   repeat(first|(refine brF rfl ?_;conv=>whnf)|(refine brT rfl ?_;conv=>whnf))
   repeat'(first|exact ⟨⟩|exact rfl|exact fun _=>Iff.rfl|exact fun _ _=>rfl|exact renM_ent rfl _|apply And.intro)
  |true =>
   rw[show qu8 a b=decide (ordR a b<0) by unfold qu8;rw[ha,hb];rfl]
   conv=>whnf
   repeat(first|(refine brF rfl ?_;conv=>whnf)|(refine brT rfl ?_;conv=>whnf))
   refine .data _ (qv2 a (by have:=jn3 ha;omega)) rfl rfl ?_
   conv=>whnf
   refine .data _ (qv2 b (by have:=jn3 hb;omega)) rfl rfl ?_
   conv=>whnf
   refine .data _ (jc3 a b) rfl rfl ?_
   conv=>whnf
   repeat'(first|exact ⟨⟩|exact rfl|exact fun _=>Iff.rfl|exact fun _ _=>rfl|exact renM_ent rfl _|apply And.intro)
end Go.Proofs.YtdfdlbnojmlpiaaGreatDoor
namespace Go.Proofs.YtdfdlbnojmlpiaaGreatDoor
def rot{α:Type}(p:Nat→α)(a m b:Nat):Nat→α:=fun x=>if a≤x∧x<a+(b - m) then p (x+(m - a)) else if a+(b - m)≤x∧x<b then p (x - (b - m)) else p x
def swp{α:Type}(p:Nat→α)(a b n:Nat):Nat→α:=fun x=>if a≤x∧x<a+n then p (x+(b - a)) else if b≤x∧x<b+n then p (x - (b - a)) else p x
theorem rot_id1{α:Type}(p:Nat→α)(a b:Nat)(h:a≤b):rot p a a b=p:=by
 funext x;unfold rot;(try dsimp only);repeat' split
 all_goals first|rfl|(exfalso;omega)|(congr 1;omega)
theorem rot_id2{α:Type}(p:Nat→α)(a b:Nat)(h:a≤b):rot p a b b=p:=by
 funext x;unfold rot;(try dsimp only);repeat' split
 all_goals first|rfl|(exfalso;omega)|(congr 1;omega)
theorem swp_zero{α:Type}(p:Nat→α)(a b:Nat):swp p a b 0=p:=by
 funext x;unfold swp;(try dsimp only);repeat' split
 all_goals first|rfl|(exfalso;omega)
theorem rot_left{α:Type}(p:Nat→α)(m i j:Nat)(hi:j<i)(him:i≤m):rot (swp p (m - i) m j) (m - (i - j)) m (m+j)=rot p (m - i) m (m+j):=by
 funext x;unfold rot swp;try dsimp only
 repeat' split
 all_goals first|rfl|(exfalso;omega)|(congr 1;omega)
theorem rot_right{α:Type}(p:Nat→α)(m i j:Nat)(hi:i<j)(him:i≤m):rot (swp p (m - i) (m+j - i) i) (m - i) m (m+(j - i))=rot p (m - i) m (m+j):=by
 funext x;unfold rot swp;try dsimp only
 repeat' split
 all_goals first|rfl|(exfalso;omega)|(congr 1;omega)
theorem rot_same{α:Type}(p:Nat→α)(m i:Nat)(him:i≤m):swp p (m - i) m i=rot p (m - i) m (m+i):=by
 funext x;unfold rot swp;try dsimp only
 repeat' split
 all_goals first|rfl|(exfalso;omega)|(congr 1;omega)
theorem swp_one{α:Type}(p:Nat→α)(a b n:Nat)(hb:a+n<b):swp (swp p a b n) (a+n) (b+n) 1=swp p a b (n+1):=by
 funext x;unfold swp;try dsimp only
 repeat' split
 all_goals first|rfl|(exfalso;omega)|(congr 1;omega)
theorem rot_up{α:Type}(p:Nat→α)(a k:Nat)(h:a≤k):swp (rot p a (a+1) (k+1)) k (k+1) 1=rot p a (a+1) (k+2):=by
 funext x;unfold rot swp;try dsimp only
 repeat' split
 all_goals first|rfl|(exfalso;omega)|(congr 1;omega)
theorem rot_down{α:Type}(p:Nat→α)(m k:Nat)(h:k+1≤m):swp (rot p (k+1) m (m+1)) k (k+1) 1=rot p k m (m+1):=by
 funext x;unfold rot swp;try dsimp only
 repeat' split
 all_goals first|rfl|(exfalso;omega)|(congr 1;omega)
structure Inj(n:Nat)(p:Nat→Nat):Prop where
 lt:∀ i,i<n→p i<n
 un:∀ i j,i<n→j<n→p i=p j→i=j
theorem Inj.surj:∀ {n:Nat} {p:Nat→Nat},Inj n p→∀ j,j<n→∃ i,i<n∧p i=j
 |0,_,_=>fun j h=>absurd h (by omega)
 |n+1,p,h=>fun j hj=>by
  have ih:=Inj.surj (n:=n) (p:=fun i=>if p i=n then p n else p i) ⟨fun i hi=>by
   have:=h.lt i (by omega)
   have:=h.lt n (by omega)
   show(if p i=n then p n else p i)<n
   split
   ·rename_i e
    rcases Nat.lt_or_ge (p n) n with hl|hl
    ·exact hl
    ·have:=h.un i n (by omega) (by omega) (by omega)
     omega
   ·omega,fun i k hi hk e=>by
   have e:(if p i=n then p n else p i)=(if p k=n then p n else p k):=e
   split at e <;> split at e
   ·exact h.un i k (by omega) (by omega) (by omega)
   ·have:=h.un n k (by omega) (by omega) e
    omega
   ·have:=h.un i n (by omega) (by omega) e
    omega
   ·exact h.un i k (by omega) (by omega) e⟩
  rcases Nat.lt_or_ge j n with hl|hl
  ·obtain⟨i,hi,e⟩:=ih j hl
   have e:(if p i=n then p n else p i)=j:=e
   split at e
   ·exact⟨n,by omega,e⟩
   ·exact⟨i,by omega,e⟩
  ·have hj:j=n:=by omega
   subst hj
   rcases Nat.lt_or_ge (p j) j with hl|hl
   ·obtain⟨i,hi,e⟩:=ih (p j) hl
    have e:(if p i=j then p j else p i)=p j:=e
    split at e
    ·rename_i e2;exact⟨i,by omega,e2⟩
    ·have:=h.un i j (by omega) (by omega) e
     omega
   ·have:=h.lt j (by omega)
    exact⟨j,by omega,by omega⟩
structure Same(p q:Nat→Nat)(a b:Nat):Prop where
 out:∀ i,¬ (a≤i∧i<b)→q i=p i
 fwd:∀ i,a≤i→i<b→∃ j,a≤j∧j<b∧q i=p j
 bwd:∀ i,a≤i→i<b→∃ j,a≤j∧j<b∧p i=q j
theorem Same.refl(p:Nat→Nat)(a b:Nat):Same p p a b:=⟨fun _ _=>rfl,fun i h1 h2=>⟨i,h1,h2,rfl⟩,fun i h1 h2=>⟨i,h1,h2,rfl⟩⟩
theorem Same.trans{p q r:Nat→Nat}{a b:Nat}(h:Same p q a b)(k:Same q r a b):Same p r a b :=
 ⟨fun i hi=>(k.out i hi).trans (h.out i hi),fun i h1 h2=>by
  obtain⟨j,a1,a2,a3⟩:=k.fwd i h1 h2
  obtain⟨l,b1,b2,b3⟩:=h.fwd j a1 a2
  exact⟨l,b1,b2,a3.trans b3⟩,fun i h1 h2=>by
  obtain⟨j,a1,a2,a3⟩:=h.bwd i h1 h2
  obtain⟨l,b1,b2,b3⟩:=k.bwd j a1 a2
  exact⟨l,b1,b2,a3.trans b3⟩⟩
theorem Same.wide{p q:Nat→Nat}{a b a' b':Nat}(h:Same p q a b)(ha:a'≤a)(hb:b≤b'):Same p q a' b' :=
 ⟨fun i hi=>h.out i (fun e=>hi (by omega)),fun i h1 h2=>by
  by_cases hi:a≤i∧i<b
  ·obtain⟨j,a1,a2,a3⟩:=h.fwd i hi.1 hi.2
   exact⟨j,by omega,by omega,a3⟩
  ·exact⟨i,h1,h2,h.out i hi⟩,fun i h1 h2=>by
  by_cases hi:a≤i∧i<b
  ·obtain⟨j,a1,a2,a3⟩:=h.bwd i hi.1 hi.2
   exact⟨j,by omega,by omega,a3⟩
  ·exact⟨i,h1,h2,(h.out i hi).symm⟩⟩
theorem jx4(p:Nat→Nat)(a m b:Nat)(h1:a≤m)(h2:m≤b):Same p (rot p a m b) a b:=by
 refine⟨fun i hi=>?_,fun i ha hb=>?_,fun i ha hb=>?_⟩
 ·unfold rot;repeat' split
  all_goals first|rfl|(exfalso;omega)
 ·unfold rot
  split
  ·exact⟨i+(m - a),by omega,by omega,rfl⟩
  ·split
   ·exact⟨i - (b - m),by omega,by omega,rfl⟩
   ·omega
 ·by_cases hm:i<m
  ·refine⟨i+(b - m),by omega,by omega,?_⟩
   unfold rot
   rw[if_neg (by omega),if_pos (by omega)]
   congr 1;omega
  ·refine⟨i - (m - a),by omega,by omega,?_⟩
   unfold rot
   rw[if_pos (by omega)]
   congr 1;omega
theorem Inj.rot{n:Nat}{p:Nat→Nat}(h:Inj n p){a m b:Nat}(h1:a≤m)(h2:m≤b)(h3:b≤n):Inj n (rot p a m b):=by
 have key:∀ i,i<n→∃ j,j<n∧YtdfdlbnojmlpiaaGreatDoor.rot p a m b i=p j∧((a≤i∧i<a+(b - m)∧j=i+(m - a))∨(a+(b - m)≤i∧i<b∧j=i - (b - m))∨(¬ (a≤i∧i<b)∧j=i)):=fun i hi=>by
  unfold YtdfdlbnojmlpiaaGreatDoor.rot
  split
  ·exact⟨_,by omega,rfl,by omega⟩
  ·split
   ·exact⟨_,by omega,rfl,by omega⟩
   ·exact⟨_,hi,rfl,by omega⟩
 refine⟨fun i hi=>?_,fun i j hi hj e=>?_⟩
 ·obtain⟨k,a1,a2,_⟩:=key i hi
  rw[a2];exact h.lt k a1
 ·obtain⟨k,a1,a2,a3⟩:=key i hi
  obtain⟨l,b1,b2,b3⟩:=key j hj
  rw [a2,b2] at e
  have:=h.un k l a1 b1 e
  omega
section
variable(L:Nat→Nat→Prop)
def Rise(p:Nat→Nat)(a b:Nat):Prop:=∀ i j,a≤i→i<j→j<b→L (p i) (p j)
def Sep(p:Nat→Nat)(a m b:Nat):Prop:=∀ i j,a≤i→i<m→m≤j→j<b→p i<p j
structure Ord(n:Nat):Prop where
 trans:∀ i j k,i<n→j<n→k<n→L i j→L j k→L i k
 irr:∀ i,i<n→¬ L i i
 tot:∀ i j,i<n→j<n→i≠j→L i j∨L j i
variable{L}{n:Nat}{p:Nat→Nat}
theorem Rise.sub{a b a' b':Nat}(h:Rise L p a b)(ha:a≤a')(hb:b'≤b):Rise L p a' b':=fun i j h1 h2 h3=>h i j (by omega) h2 (by omega)
theorem Rise.congr{q:Nat→Nat}{a b:Nat}(h:Rise L p a b)(he:∀ i,a≤i→i<b→q i=p i):Rise L q a b:=fun i j h1 h2 h3=>by
 rw[he i h1 (by omega),he j (by omega) h3];exact h i j h1 h2 h3
structure Cut(p:Nat→Nat)(a m b s e:Nat):Prop where
 sa:a≤s
 sm:s≤m
 me:m≤e
 eb:e≤b
 lo:∀ i j,a≤i→i<s→e≤j→j<b→L (p i) (p j)
 hi:∀ i j,s≤i→i<m→m≤j→j<e→L (p j) (p i)
structure Merged(p q:Nat→Nat)(n a b:Nat):Prop where
 inj:Inj n q
 same:Same p q a b
 rise:Rise L q a b
theorem merge_two{a m b s e mid:Nat}(h1:Rise L p a m)(h2:Rise L p m b)(hc:Cut (L:=L) p a m b s e)(hmid:mid=s+(e - m)){q r:Nat→Nat}(hq:Merged (L:=L) (rot p s m e) q n a mid)(hr:Merged (L:=L) q r n mid b):Merged (L:=L) p r n a b:=by
 have hsa:=hc.sa
 have hsm:=hc.sm
 have hme:=hc.me
 have heb:=hc.eb
 have hs:Same p (rot p s m e) a b:=(jx4 p s m e hsm hme).wide hsa heb
 have hpq:Same p q a b:=hs.trans (hq.same.wide (Nat.le_refl _) (by omega))
 refine⟨hr.inj,hpq.trans (hr.same.wide (by omega) (Nat.le_refl _)),fun i j hi hij hj=>?_⟩
 -- what stands below mid,and what above
 have low:∀ i,a≤i→i<mid→∃ k,((a≤k∧k<s)∨(m≤k∧k<e))∧r i=p k:=fun i h3 h4=>by
  rw[hr.same.out i (by omega)]
  obtain⟨k,b1,b2,b3⟩:=hq.same.fwd i h3 h4
  rw[b3]
  unfold rot
  split
  ·exact⟨_,by omega,rfl⟩
  ·split
   ·omega
   ·exact⟨_,by omega,rfl⟩
 have high:∀ i,mid≤i→i<b→∃ k,((s≤k∧k<m)∨(e≤k∧k<b))∧r i=p k:=fun i h3 h4=>by
  obtain⟨k,b1,b2,b3⟩:=hr.same.fwd i h3 h4
  rw[b3,hq.same.out k (by omega)]
  unfold rot
  split
  ·omega
  ·split
   ·exact⟨_,by omega,rfl⟩
   ·exact⟨_,by omega,rfl⟩
 by_cases hjm:j<mid
 ·rw[hr.same.out i (by omega),hr.same.out j (by omega)]
  exact hq.rise i j hi hij hjm
 ·by_cases him:mid≤i
  ·exact hr.rise i j him hij hj
  ·obtain⟨k,a1,a2⟩:=low i hi (by omega)
   obtain⟨l,b1,b2⟩:=high j (by omega) hj
   rw[a2,b2]
   rcases a1 with a1|a1 <;> rcases b1 with b1|b1
   ·exact h1 k l a1.1 (by omega) b1.2
   ·exact hc.lo k l a1.1 a1.2 b1.1 b1.2
   ·exact hc.hi l k b1.1 b1.2 a1.1 a1.2
   ·exact h2 k l a1.1 (by omega) b1.2
theorem merge_up{a b i:Nat}(hp:Inj n p)(hbn:b≤n)(hai:a+1≤i)(hib:i≤b)(h2:Rise L p (a+1) b)(hlo:∀ j,a+1≤j→j<i→L (p j) (p a))(hhi:∀ j,i≤j→j<b→L (p a) (p j)):Merged (L:=L) p (rot p a (a+1) i) n a b:=by
 refine⟨hp.rot (by omega) hai (by omega),(jx4 p a (a+1) i (by omega) hai).wide (Nat.le_refl _) hib,fun x y hx hxy hy=>?_⟩
 unfold rot
 repeat' split
 ·exact h2 _ _ (by omega) (by omega) (by omega)
 ·have e:y - (i - (a+1))=a:=by omega
  rw[e];exact hlo _ (by omega) (by omega)
 ·exact h2 _ _ (by omega) (by omega) (by omega)
 ·omega
 ·omega
 ·have e:x - (i - (a+1))=a:=by omega
  rw[e];exact hhi _ (by omega) (by omega)
 ·omega
 ·omega
 ·exact h2 _ _ (by omega) (by omega) (by omega)
theorem merge_down{a m i:Nat}(hp:Inj n p)(hmn:m<n)(hai:a≤i)(him:i≤m)(h1:Rise L p a m)(hlo:∀ j,a≤j→j<i→L (p j) (p m))(hhi:∀ j,i≤j→j<m→L (p m) (p j)):Merged (L:=L) p (rot p i m (m+1)) n a (m+1):=by
 refine⟨hp.rot him (by omega) (by omega),(jx4 p i m (m+1) him (by omega)).wide hai (Nat.le_refl _),fun x y hx hxy hy=>?_⟩
 unfold rot
 repeat' split
 ·omega
 ·have e:x+(m - i)=m:=by omega
  rw[e];exact hhi _ (by omega) (by omega)
 ·omega
 ·omega
 ·exact h1 _ _ (by omega) (by omega) (by omega)
 ·omega
 ·have e:y+(m - i)=m:=by omega
  rw[e];exact hlo _ (by omega) (by omega)
 ·exact h1 _ _ (by omega) (by omega) (by omega)
 ·exact h1 _ _ (by omega) (by omega) (by omega)
end
structure Weak(n:Nat)(lt:Nat→Nat→Bool):Prop where
 asym:∀ i j,i<n→j<n→lt i j=true→lt j i=false
 trans:∀ i j k,i<n→j<n→k<n→lt i j=true→lt j k=true→lt i k=true
 ntrans:∀ i j k,i<n→j<n→k<n→lt i j=false→lt j k=false→lt i k=false
def LL(lt:Nat→Nat→Bool)(i j:Nat):Prop:=lt i j=true∨(lt j i=false∧i<j)
theorem Weak.irr{n:Nat}{lt:Nat→Nat→Bool}(h:Weak n lt)(i:Nat)(hi:i<n):lt i i=false:=by
 cases e:lt i i
 ·rfl
 ·have:=h.asym i i hi hi e;rw [e] at this;cases this
theorem Weak.ord{n:Nat}{lt:Nat→Nat→Bool}(h:Weak n lt):Ord (LL lt) n:=by
 refine⟨fun i j k hi hj hk a b=>?_,fun i hi a=>?_,fun i j hi hj hne=>?_⟩
 ·rcases a with a|⟨a,a'⟩ <;> rcases b with b|⟨b,b'⟩
  ·exact .inl (h.trans i j k hi hj hk a b)
  ·left
   cases e:lt i k
   ·have:=h.ntrans i k j hi hk hj e b;rw [a] at this;cases this
   ·rfl
  ·left
   cases e:lt i k
   ·have:=h.ntrans j i k hj hi hk a e;rw [b] at this;cases this
   ·rfl
  ·exact .inr ⟨h.ntrans k j i hk hj hi b a,by omega⟩
 ·rcases a with a|⟨_,a⟩
  ·rw [h.irr i hi] at a;cases a
  ·omega
 ·cases e:lt i j
  ·cases e':lt j i
   ·rcases Nat.lt_or_ge i j with hl|hl
    ·exact .inl (.inr ⟨e',hl⟩)
    ·exact .inr (.inr ⟨e,by omega⟩)
   ·exact .inr (.inl e')
  ·exact .inl (.inl e)
theorem cut_of{L:Nat→Nat→Prop}{n a m b s e:Nat}{p:Nat→Nat}(hO:Ord L n)(hp:Inj n p)(hbn:b≤n)(h1:Rise L p a m)(h2:Rise L p m b)(sa:a≤s)(sm:s≤m)(me:m≤e)(eb:e≤b)
 (hlo:s=a∨e=b∨L (p (s - 1)) (p e)) (hhi:s=m∨e=m∨L (p (e - 1)) (p s)):Cut (L:=L) p a m b s e:=by
 refine⟨sa,sm,me,eb,fun i j hi his hj hjb=>?_,fun i j hi him hj hje=>?_⟩
 ·have hl:L (p (s - 1)) (p e):=by
   rcases hlo with h|h|h
   ·omega
   ·omega
   ·exact h
  have hx:L (p i) (p e):=by
   rcases Nat.lt_or_ge i (s - 1) with h|h
   ·exact hO.trans _ _ _ (hp.lt i (by omega)) (hp.lt _ (by omega)) (hp.lt _ (by omega)) (h1 i (s - 1) hi h (by omega)) hl
   ·have:i=s - 1:=by omega
    rw[this];exact hl
  rcases Nat.lt_or_ge e j with h|h
  ·exact hO.trans _ _ _ (hp.lt i (by omega)) (hp.lt _ (by omega)) (hp.lt _ (by omega)) hx (h2 e j me h hjb)
  ·have:j=e:=by omega
   rw[this];exact hx
 ·have hl:L (p (e - 1)) (p s):=by
   rcases hhi with h|h|h
   ·omega
   ·omega
   ·exact h
  have hx:L (p j) (p s):=by
   rcases Nat.lt_or_ge j (e - 1) with h|h
   ·exact hO.trans _ _ _ (hp.lt j (by omega)) (hp.lt _ (by omega)) (hp.lt _ (by omega)) (h2 j (e - 1) hj h (by omega)) hl
   ·have:j=e - 1:=by omega
    rw[this];exact hl
  rcases Nat.lt_or_ge s i with h|h
  ·exact hO.trans _ _ _ (hp.lt j (by omega)) (hp.lt _ (by omega)) (hp.lt _ (by omega)) hx (h1 s i sa h him)
  ·have:i=s:=by omega
   rw[this];exact hx
theorem up_of{L:Nat→Nat→Prop}{n a b i:Nat}{p:Nat→Nat}(hO:Ord L n)(hp:Inj n p)(hbn:b≤n)(hai:a+1≤i)(hib:i≤b)(h2:Rise L p (a+1) b)(hlo:i=a+1∨L (p (i - 1)) (p a))(hhi:i=b∨L (p a) (p i)):Merged (L:=L) p (rot p a (a+1) i) n a b:=by
 refine merge_up hp hbn hai hib h2 (fun j h3 h4=>?_) (fun j h3 h4=>?_)
 ·have hl:L (p (i - 1)) (p a):=by
   rcases hlo with h|h
   ·omega
   ·exact h
  rcases Nat.lt_or_ge j (i - 1) with h|h
  ·exact hO.trans _ _ _ (hp.lt _ (by omega)) (hp.lt _ (by omega)) (hp.lt _ (by omega)) (h2 j (i - 1) h3 h (by omega)) hl
  ·have:j=i - 1:=by omega
   rw[this];exact hl
 ·have hl:L (p a) (p i):=by
   rcases hhi with h|h
   ·omega
   ·exact h
  rcases Nat.lt_or_ge i j with h|h
  ·exact hO.trans _ _ _ (hp.lt _ (by omega)) (hp.lt _ (by omega)) (hp.lt _ (by omega)) hl (h2 i j hai h h4)
  ·have:j=i:=by omega
   rw[this];exact hl
theorem down_of{L:Nat→Nat→Prop}{n a m i:Nat}{p:Nat→Nat}(hO:Ord L n)(hp:Inj n p)(hmn:m<n)(hai:a≤i)(him:i≤m)(h1:Rise L p a m)(hlo:i=a∨L (p (i - 1)) (p m))(hhi:i=m∨L (p m) (p i)):Merged (L:=L) p (rot p i m (m+1)) n a (m+1):=by
 refine merge_down hp hmn hai him h1 (fun j h3 h4=>?_) (fun j h3 h4=>?_)
 ·have hl:L (p (i - 1)) (p m):=by
   rcases hlo with h|h
   ·omega
   ·exact h
  rcases Nat.lt_or_ge j (i - 1) with h|h
  ·exact hO.trans _ _ _ (hp.lt _ (by omega)) (hp.lt _ (by omega)) (hp.lt _ (by omega)) (h1 j (i - 1) h3 h (by omega)) hl
  ·have:j=i - 1:=by omega
   rw[this];exact hl
 ·have hl:L (p m) (p i):=by
   rcases hhi with h|h
   ·omega
   ·exact h
  rcases Nat.lt_or_ge i j with h|h
  ·exact hO.trans _ _ _ (hp.lt _ (by omega)) (hp.lt _ (by omega)) (hp.lt _ (by omega)) hl (h1 i j hai h h4)
  ·have:j=i:=by omega
   rw[this];exact hl
theorem Sep.congr{q p:Nat→Nat}{a m b:Nat}(h:Sep p a m b)(he:∀ i,a≤i→i<b→q i=p i):Sep q a m b:=fun i j h1 h2 h3 h4=>by
 by_cases hx:i<b
 ·by_cases hy:a≤j
  ·rw[he i h1 hx,he j hy h4];exact h i j h1 h2 h3 h4
  ·omega
 ·omega
theorem rot_a{α:Type}(p:Nat→α){a m b i:Nat}(h:a≤i)(h2:i<a+(b - m)):rot p a m b i=p (i+(m - a)):=by
 unfold rot;rw[if_pos ⟨h,h2⟩]
theorem rot_b{α:Type}(p:Nat→α){a m b i:Nat}(h:a+(b - m)≤i)(h2:i<b):rot p a m b i=p (i - (b - m)):=by
 unfold rot;rw[if_neg (by omega),if_pos ⟨h,h2⟩]
theorem rot_o{α:Type}(p:Nat→α){a m b i:Nat}(h0:a≤m)(h1:m≤b)(h:i<a∨b≤i):rot p a m b i=p i:=by
 unfold rot;rw[if_neg (by omega),if_neg (by omega)]
theorem cut_left{L:Nat→Nat→Prop}{a m b s e mid:Nat}{p:Nat→Nat}(h1:Rise L p a m)(h2:Rise L p m b)(hs:Sep p a m b)(hc:Cut (L:=L) p a m b s e)(hmid:mid=s+(e - m)):Rise L (rot p s m e) a s∧Rise L (rot p s m e) s mid∧Sep (rot p s m e) a s mid:=by
 obtain⟨sa,sm,me,eb,_,_⟩:=hc
 refine⟨fun i j hi hij hj=>?_,fun i j hi hij hj=>?_,fun i j hi hij hj hjb=>?_⟩
 ·rw[rot_o p sm me (by omega),rot_o p sm me (by omega)];exact h1 i j hi hij (by omega)
 ·rw[rot_a p hi (by omega),rot_a p (by omega) (by omega)];exact h2 _ _ (by omega) (by omega) (by omega)
 ·rw[rot_o p sm me (by omega),rot_a p hj (by omega)];exact hs _ _ hi (by omega) (by omega) (by omega)
theorem cut_right{L:Nat→Nat→Prop}{a m b s e mid:Nat}{p:Nat→Nat}(h1:Rise L p a m)(h2:Rise L p m b)(hs:Sep p a m b)(hc:Cut (L:=L) p a m b s e)(hmid:mid=s+(e - m)):Rise L (rot p s m e) mid e∧Rise L (rot p s m e) e b∧Sep (rot p s m e) mid e b:=by
 obtain⟨sa,sm,me,eb,_,_⟩:=hc
 refine⟨fun i j hi hij hj=>?_,fun i j hi hij hj=>?_,fun i j hi hij hj hjb=>?_⟩
 ·rw[rot_b p (by omega) (by omega),rot_b p (by omega) (by omega)];exact h1 _ _ (by omega) (by omega) (by omega)
 ·rw[rot_o p sm me (by omega),rot_o p sm me (by omega)];exact h2 _ _ (by omega) hij hj
 ·rw[rot_b p (by omega) (by omega),rot_o p sm me (by omega)];exact hs _ _ (by omega) (by omega) (by omega) (by omega)
theorem Merged.stay{L:Nat→Nat→Prop}{n a b:Nat}{q:Nat→Nat}(hi:Inj n q)(h:Rise L q a b):Merged (L:=L) q q n a b:=⟨hi,.refl _ _ _,h⟩
def Lc(k lo n:Nat)(p:Nat→Nat):Prop:=∀ i,lo≤i→i<n→p i / k=i / k
def Rs(L:Nat→Nat→Prop)(k lo hi:Nat)(p:Nat→Nat):Prop:=∀ i j,lo≤i→i<j→j<hi→i / k=j / k→L (p i) (p j)
theorem qp2{k c i:Nat}(h1:c * k≤i)(h2:i<c * k+k):i / k=c:=by
 have hk:0<k:=by omega
 apply Nat.le_antisymm
 ·exact Nat.lt_succ_iff.1 (Nat.div_lt_of_lt_mul (by rw[Nat.mul_comm];rw[Nat.succ_mul];exact h2))
 ·exact(Nat.le_div_iff_mul_le hk).2 h1
theorem div_two(i k:Nat):i / (2 * k)=(i / k) / 2:=by rw[Nat.div_div_eq_div_mul,Nat.mul_comm]
structure Mg(L:Nat→Nat→Prop)(k n c:Nat)(p:Nat→Nat):Prop where
 inj:Inj n p
 big:Lc (2 * k) 0 n p
 done:Rs L (2 * k) 0 (min (c * (2 * k)) n) p
 rest:Rs L k (c * (2 * k)) n p
 small:Lc k (c * (2 * k)) n p
theorem Mg.begin{L:Nat→Nat→Prop}{k n:Nat}{p:Nat→Nat}(h1:Inj n p)(h2:Lc k 0 n p)(h3:Rs L k 0 n p):Mg L k n 0 p :=
 ⟨h1,fun i hi hn=>by rw[div_two,div_two,h2 i hi hn],fun i j hi hij hj _=>by omega,fun i j hi=>h3 i j (by omega),fun i hi=>h2 i (by omega)⟩
theorem Mg.left{L:Nat→Nat→Prop}{k n c:Nat}{p:Nat→Nat}(h:Mg L k n c p)(hm:c * (2 * k)+k≤n):Rise L p (c * (2 * k)) (c * (2 * k)+k):=fun i j hi hij hj=>by
 have e:c * (2 * k)=(c * 2) * k:=by rw[Nat.mul_assoc]
 refine h.rest i j hi hij (by omega) ?_
 rw[qp2 (c:=c * 2) (by omega) (by omega),qp2 (c:=c * 2) (by omega) (by omega)]
theorem Mg.right{L:Nat→Nat→Prop}{k n c b:Nat}{p:Nat→Nat}(h:Mg L k n c p)(hb:b≤n)(hb2:b≤c * (2 * k)+2 * k):Rise L p (c * (2 * k)+k) b:=fun i j hi hij hj=>by
 have e:c * (2 * k)=(c * 2) * k:=by rw[Nat.mul_assoc]
 have e2:(c * 2+1) * k=(c * 2) * k+k:=by rw[Nat.succ_mul]
 refine h.rest i j (by omega) hij (by omega) ?_
 rw[qp2 (c:=c * 2+1) (by omega) (by omega),qp2 (c:=c * 2+1) (by omega) (by omega)]
theorem Mg.sep{L:Nat→Nat→Prop}{k n c b:Nat}{p:Nat→Nat}(h:Mg L k n c p)(hb:b≤n)(hb2:b≤c * (2 * k)+2 * k):Sep p (c * (2 * k)) (c * (2 * k)+k) b:=fun i j hi him hj hjb=>by
 have hk:0<k:=by omega
 have e:c * (2 * k)=(c * 2) * k:=by rw[Nat.mul_assoc]
 have e2:(c * 2+1) * k=(c * 2) * k+k:=by rw[Nat.succ_mul]
 have a1:=h.small i hi (by omega)
 have a2:=h.small j (by omega) (by omega)
 rw [qp2 (c:=c * 2) (i:=i) (by omega) (by omega)] at a1
 rw [qp2 (c:=c * 2+1) (i:=j) (by omega) (by omega)] at a2
 rcases Nat.lt_or_ge (p i) (p j) with hl|hl
 ·exact hl
 ·have:=Nat.div_le_div_right (c:=k) hl
  omega
theorem Mg.next{L:Nat→Nat→Prop}{k n c b:Nat}{p r:Nat→Nat}(hk:0<k)(h:Mg L k n c p)(hb:b≤n)(hb2:b≤c * (2 * k)+2 * k)(hb3:b=n∨b=c * (2 * k)+2 * k)(hab:c * (2 * k)≤b)(hr:Merged (L:=L) p r n (c * (2 * k)) b):Mg L k n (c+1) r:=by
 have e:(c+1) * (2 * k)=c * (2 * k)+2 * k:=by rw[Nat.succ_mul]
 refine⟨hr.inj,fun i hi hin=>?_,fun i j hi hij hj hd=>?_,fun i j hi hij hj hd=>?_,fun i hi hin=>?_⟩
 ·by_cases hc:c * (2 * k)≤i∧i<b
  ·obtain⟨j,b1,b2,b3⟩:=hr.same.fwd i hc.1 hc.2
   rw[b3,h.big j (by omega) (by omega),qp2 (c:=c) b1 (by omega),qp2 (c:=c) hc.1 (by omega)]
  ·rw[hr.same.out i hc];exact h.big i hi hin
 ·by_cases hc:c * (2 * k)≤i
  ·exact hr.rise i j hc hij (by omega)
  ·by_cases hjc:j<c * (2 * k)
   ·rw[hr.same.out i (by omega),hr.same.out j (by omega)]
    exact h.done i j hi hij (by omega) hd
   ·exfalso
    rw [qp2 (c:=c) (i:=j) (by omega) (by omega)] at hd
    have:=Nat.div_mul_le_self i (2 * k)
    rw [hd] at this
    omega
 ·rw[hr.same.out i (by omega),hr.same.out j (by omega)]
  exact h.rest i j (by omega) hij hj hd
 ·rw[hr.same.out i (by omega)]
  exact h.small i (by omega) hin
theorem Mg.over{L:Nat→Nat→Prop}{k n c:Nat}{p:Nat→Nat}(hk:0<k)(h:Mg L k n c p)(hn:n≤c * (2 * k)+k):Lc (2 * k) 0 n p∧Rs L (2 * k) 0 n p:=by
 refine⟨h.big,fun i j hi hij hj hd=>?_⟩
 have e:c * (2 * k)=(c * 2) * k:=by rw[Nat.mul_assoc]
 by_cases hjc:j<c * (2 * k)
 ·exact h.done i j hi hij (by omega) hd
 ·have hj2:=qp2 (k:=2 * k) (c:=c) (i:=j) (by omega) (by omega)
  by_cases hic:c * (2 * k)≤i
  ·refine h.rest i j hic hij hj ?_
   rw[qp2 (c:=c * 2) (by omega) (by omega),qp2 (c:=c * 2) (by omega) (by omega)]
  ·exfalso
   rw [hj2] at hd
   have:=Nat.div_mul_le_self i (2 * k)
   rw [hd] at this
   omega
structure Fst(L:Nat→Nat→Prop)(k n c:Nat)(p:Nat→Nat):Prop where
 inj:Inj n p
 loc:Lc k 0 n p
 done:Rs L k 0 (min (c * k) n) p
 rest:∀ i,c * k≤i→p i=i
theorem Fst.zero{L:Nat→Nat→Prop}(k n:Nat):Fst L k n 0 id:=⟨⟨fun i h=>h,fun i j _ _ h=>h⟩,fun i _ _=>rfl,fun i j hi hij hj _=>by omega,fun i _=>rfl⟩
theorem Fst.next{L:Nat→Nat→Prop}{k n c b:Nat}{p r:Nat→Nat}(h:Fst L k n c p)(hb:b≤n)(hb2:b≤c * k+k)(hb3:b=n∨b=c * k+k)(hr:Merged (L:=L) p r n (c * k) b):Fst L k n (c+1) r:=by
 have e:(c+1) * k=c * k+k:=by rw[Nat.succ_mul]
 refine⟨hr.inj,fun i hi hin=>?_,fun i j hi hij hj hd=>?_,fun i hi=>?_⟩
 ·by_cases hc:c * k≤i∧i<b
  ·obtain⟨j,b1,b2,b3⟩:=hr.same.fwd i hc.1 hc.2
   rw[b3,h.rest j b1,qp2 (c:=c) b1 (by omega),qp2 (c:=c) hc.1 (by omega)]
  ·rw[hr.same.out i hc];exact h.loc i hi hin
 ·by_cases hc:c * k≤i
  ·exact hr.rise i j hc hij (by omega)
  ·by_cases hjc:j<c * k
   ·rw[hr.same.out i (by omega),hr.same.out j (by omega)]
    exact h.done i j hi hij (by omega) hd
   ·exfalso
    rw [qp2 (c:=c) (i:=j) (by omega) (by omega)] at hd
    have:=Nat.div_mul_le_self i k
    rw [hd] at this
    omega
 ·rw[hr.same.out i (by omega)]
  exact h.rest i (by omega)
theorem Rs.all{L:Nat→Nat→Prop}{k n:Nat}{p:Nat→Nat}(h:Rs L k 0 n p)(hk:n≤k):Rise L p 0 n:=fun i j hi hij hj=>h i j hi hij hj (by rw[Nat.div_eq_of_lt (by omega),Nat.div_eq_of_lt (by omega)])
end Go.Proofs.YtdfdlbnojmlpiaaGreatDoor
namespace Go.Proofs.YtdfdlbnojmlpiaaGreatDoor
open Go Go.Eng
def RR.pl(r:RR):List DV:=[.str (fold r.nm),.int .u16 r.ty,.int .u16 r.cl,.str (qi4 r.ty r.d),.str r.nm,.int .u16 r.ty,.int .u16 r.cl,.int .u32 r.ttl,.str r.d]
def cel(L:List RR)(x:Nat):List DV:=(L.getD x default).pl
def rowP(L:List RR)(n:Nat)(z:Z)(p:Nat→Nat):KB:=.row 120 9 n z (fun i=>cel L (p i))
def cR(L:List RR)(x y:Nat):Int:=ordR (L.getD x default) (L.getD y default)
def ltC(c:Nat→Nat→Int)(x y:Nat):Bool:=decide (c x y<0)
theorem ji8 L (q:Nat→Nat) (j y:Nat):oneF j 0 (cel L y) (fun i=>cel L (q i))=fun i=>cel L (upd q j y i):=by
 funext i
 unfold oneF upd
 split
 ·rfl
 ·rfl
theorem upd_two{α:Type}(q:Nat→α)(j k:Nat)(h:j<k):upd (upd q j (q k)) k (q j)=swp q j k 1:=by
 funext x;unfold upd swp;(try dsimp only);repeat' split
 all_goals first|rfl|(exfalso;omega)|(congr 1;omega)
theorem puts_two(L:List RR)(q:Nat→Nat)(j k:Nat)(h:j<k):oneF k 0 (cel L (q j)) (oneF j 0 (cel L (q k)) (fun x=>cel L (q x)))=fun x=>cel L (swp q j k 1 x):=by
 rw[ji8,ji8,upd_two q j k h]
theorem puts_two'(L:List RR)(q:Nat→Nat)(j k:Nat)(h:j<k):oneF j 0 (cel L (q k)) (oneF k 0 (cel L (q j)) (fun x=>cel L (q x)))=fun x=>cel L (swp q j k 1 x):=by
 rw[ji8,ji8,←upd_two q j k h]
 funext x;unfold upd;repeat' split
 all_goals first|rfl|omega|(congr 1;omega)
set_option maxRecDepth 100000
set_option maxHeartbeats 4000000 in
theorem swap_ok(L:List RR)(n:Nat)(hn:n<1152921504606846976)(z:Z)(p:Nat→Nat)(a b m:Nat)(ha:a+m≤n)(hb:b+m≤n)(hab:a+m≤b):COk Tryz.prog 212 [.all 0,iV a,iV b,iV m,.any] [rowP L n z p] (fun s k=>s = .tup []∧k=[rowP L n z (swp p a b m)]):=by
 refine qc4 (TT:=TT) (IN:=qc2 []) qc5 qa1 mixed 1000 Tryz.func212 rfl (qa8 Tryz.func212 (by kernel_rfl) rfl) 33 (by kernel_rfl) ?_
 conv=>whnf
 refine .inv Nat (fun i=>i≤m) (fun i=>[(10,iV i)]) (fun i=>[(0,rowP L n z (swp p a b i))]) (fun i=>m - i) ⟨0,[0],by omega,?_⟩ ?_
 ·conv=>whnf
  rw[swp_zero]
  repeat'(first|exact ⟨⟩|exact rfl|exact qa2 _|exact Or.inr rfl|exact fun _ _=>rfl|exact fun _ h=>absurd h (Nat.not_lt_zero _)|apply And.intro)
 intro i hi
 conv=>whnf
 refine⟨fun h1=>?_,fun h1=>?_⟩
 ·have h1:i<m:=by
   have h:(i:Int)<m:=of_decide_eq_true h1
   omega
  have e1:IntKind.i64.wrap ((a:Int)+(i:Int))=((a+i:Nat):Int):=by rw[qa4 _ (by omega)];omega
  have e2:IntKind.i64.wrap ((b:Int)+(i:Int))=((b+i:Nat):Int):=by rw[qa4 _ (by omega)];omega
  conv=>whnf
  refine⟨?_,?_,?_,?_⟩
  rotate_left 2
  ·conv=>whnf
   rw[e1,e2]
   repeat'(first|exact⟨rfl,rfl⟩|(refine⟨⟨by omega,by omega⟩,?_⟩;conv=>whnf)|exact ⟨⟩|apply And.intro|(conv=>whnf))
  ·conv=>whnf
   refine⟨i+1,[0],by omega,by show m - (i+1)<m - i;omega,?_⟩
   have e3:IntKind.i64.wrap ((i:Int)+1)=((i+1:Nat):Int):=by rw[qa4 _ (by omega)];omega
   rw[e3]
   conv=>whnf
   repeat'(first|exact ⟨⟩|exact rfl|exact qa2 _|exact Or.inr rfl|exact fun _ _=>rfl|exact fun _ h=>absurd h (Nat.not_lt_zero _)|apply And.intro)
   intro x hx
   rw[e1]
   exact(congrFun (puts_two L (swp p a b i) (a+i) (b+i) (by omega)) x).trans (congrArg (fun f=>cel L (f x)) (swp_one p a b i (by omega)))
 ·have h1:i=m:=by
   have h:¬ ((i:Int)<m):=of_decide_eq_false h1
   omega
  subst h1
  conv=>whnf
  refine⟨[0],_,_,rfl,rfl,?_,?_,rfl,rfl⟩
  ·exact rfl
  ·conv=>whnf
   repeat'(first|exact ⟨⟩|exact rfl|exact qa2 _|exact Or.inr rfl|exact fun _ _=>rfl|exact fun _ h=>absurd h (Nat.not_lt_zero _)|apply And.intro)
set_option maxHeartbeats 4000000 in
theorem rotate_ok(L:List RR)(n:Nat)(hn:n<1152921504606846976)(z:Z)(p:Nat→Nat)(a m b:Nat)(ha:a<m)(hb:m<b)(hbn:b≤n):COk Tryz.prog 194 [.all 0,iV a,iV m,iV b,.any] [rowP L n z p] (fun s k=>s = .tup []∧k=[rowP L n z (rot p a m b)]):=by
 refine qc4 (TT:=TT) (IN:=qc2 []) qc5 qa1 mixed 1000 Tryz.func194 rfl (qa8 Tryz.func194 (by kernel_rfl) rfl) 53 (by kernel_rfl) ?_
 have e1:IntKind.i64.wrap ((m:Int) - (a:Int))=((m - a:Nat):Int):=by rw[qa4 _ (by omega)];omega
 have e2:IntKind.i64.wrap ((b:Int) - (m:Int))=((b - m:Nat):Int):=by rw[qa4 _ (by omega)];omega
 conv=>whnf
 rw[e1,e2]
 refine .inv (Nat × Nat × (Nat→Nat)) (fun s=>0<s.1∧0<s.2.1∧s.1≤m - a∧s.2.1≤b - m∧rot s.2.2 (m - s.1) m (m+s.2.1)=rot p a m b) (fun s=>[(10,iV s.1),(11,iV s.2.1)]) (fun s=>[(0,rowP L n z s.2.2)]) (fun s=>s.1+s.2.1) ⟨(m - a,b - m,p),[0],show 0<m - a∧0<b - m∧m - a≤m - a∧b - m≤b - m∧rot p (m - (m - a)) m (m+(b - m))=rot p a m b from⟨by omega,by omega,by omega,by omega,?_⟩,?_⟩ ?_
 ·rw[show m - (m - a)=a by omega,show m+(b - m)=b by omega]
 ·conv=>whnf
  repeat'(first|exact ⟨⟩|exact rfl|exact qa2 _|exact Or.inr rfl|exact fun _ _=>rfl|exact fun _ h=>absurd h (Nat.not_lt_zero _)|apply And.intro)
 intro s hs
 obtain⟨i,j,q⟩:=s
 obtain⟨h0,h00,him,hjb,hq⟩:=hs
 dsimp only at h0 h00 him hjb hq
 conv=>whnf
 refine⟨fun h1=>?_,fun h1=>?_⟩
 ·have h1:¬ i=j:=fun e=>by subst e;simp at h1
  conv=>whnf
  refine⟨fun h2=>?_,fun h2=>?_⟩
  ·have h2:j<i:=by
    have h:(i:Int) > j:=of_decide_eq_true h2
    omega
   have e3:IntKind.i64.wrap ((m:Int) - (i:Int))=((m - i:Nat):Int):=by rw[qa4 _ (by omega)];omega
   conv=>whnf
   rw[e3]
   refine .rel _ (swap_ok L n hn z q (m - i) m j (by omega) (by omega) (by omega)) (fun r ks' hR=>?_)
   obtain⟨rfl,rfl⟩:=hR
   have e4:IntKind.i64.wrap ((i:Int) - (j:Int))=((i - j:Nat):Int):=by rw[qa4 _ (by omega)];omega
   conv=>whnf
   rw[e4]
   refine⟨(i - j,j,swp q (m - i) m j),[0],(show 0<i - j∧0<j∧i - j≤m - a∧j≤b - m∧rot (swp q (m - i) m j) (m - (i - j)) m (m+j)=rot p a m b from⟨by omega,by omega,by omega,by omega,(rot_left q m i j h2 (by omega)).trans hq⟩),by show i - j+j<i+j;omega,?_⟩
   conv=>whnf
   repeat'(first|exact ⟨⟩|exact rfl|exact qa2 _|exact Or.inr rfl|exact fun _ _=>rfl|exact fun _ h=>absurd h (Nat.not_lt_zero _)|apply And.intro)
  ·have h2:i<j:=by
    have h:¬ ((i:Int) > j):=of_decide_eq_false h2
    omega
   have e3:IntKind.i64.wrap ((m:Int) - (i:Int))=((m - i:Nat):Int):=by rw[qa4 _ (by omega)];omega
   have e5:IntKind.i64.wrap (IntKind.i64.wrap ((m:Int)+(j:Int)) - (i:Int))=((m+j - i:Nat):Int):=by rw[qa4 ((m:Int)+j) (by omega),qa4 _ (by omega)];omega
   conv=>whnf
   rw[e3,e5]
   refine .rel _ (swap_ok L n hn z q (m - i) (m+j - i) i (by omega) (by omega) (by omega)) (fun r ks' hR=>?_)
   obtain⟨rfl,rfl⟩:=hR
   have e4:IntKind.i64.wrap ((j:Int) - (i:Int))=((j - i:Nat):Int):=by rw[qa4 _ (by omega)];omega
   conv=>whnf
   rw[e4]
   refine⟨(i,j - i,swp q (m - i) (m+j - i) i),[0],(show 0<i∧0<j - i∧i≤m - a∧j - i≤b - m∧rot (swp q (m - i) (m+j - i) i) (m - i) m (m+(j - i))=rot p a m b from⟨by omega,by omega,by omega,by omega,(rot_right q m i j h2 (by omega)).trans hq⟩),by show i+(j - i)<i+j;omega,?_⟩
   conv=>whnf
   repeat'(first|exact ⟨⟩|exact rfl|exact qa2 _|exact Or.inr rfl|exact fun _ _=>rfl|exact fun _ h=>absurd h (Nat.not_lt_zero _)|apply And.intro)
 ·have h1:i=j:=by simp at h1;omega
  subst h1
  have e3:IntKind.i64.wrap ((m:Int) - (i:Int))=((m - i:Nat):Int):=by rw[qa4 _ (by omega)];omega
  conv=>whnf
  rw[e3]
  refine .rel _ (swap_ok L n hn z q (m - i) m i (by omega) (by omega) (by omega)) (fun r ks' hR=>?_)
  obtain⟨rfl,rfl⟩:=hR
  rw[rot_same q m i (by omega),hq]
  conv=>whnf
  refine⟨[0],_,_,rfl,rfl,?_,?_,rfl,rfl⟩
  ·exact rfl
  ·conv=>whnf
   repeat'(first|exact ⟨⟩|exact rfl|exact qa2 _|exact Or.inr rfl|exact fun _ _=>rfl|exact fun _ h=>absurd h (Nat.not_lt_zero _)|apply And.intro)
end Go.Proofs.YtdfdlbnojmlpiaaGreatDoor
namespace Go.Proofs.YtdfdlbnojmlpiaaGreatDoor
open Go Go.Eng
set_option maxRecDepth 100000
set_option maxHeartbeats 4000000 in
theorem ins_ok(L:List RR)(n:Nat)(hn:n<1152921504606846976)(z:Z)(p:Nat→Nat)(hw:Weak n (ltC (cR L)))(hp:Inj n p)(a b:Nat)(hab:a≤b)(hb:b≤n)(hasc:∀ i j,a≤i→i<j→j<b→p i<p j):COk Tryz.prog 167 [.all 0,iV a,iV b,.fn 58 []] [rowP L n z p] (fun s k=>s = .tup []∧∃ r,Merged (L:=LL (ltC (cR L))) p r n a b∧k=[rowP L n z r]):=by
 refine qc4 (TT:=TT) (IN:=qc2 []) qc5 qa1 mixed 1000 Tryz.func167 rfl (qa8 Tryz.func167 (by kernel_rfl) rfl) 49 (by kernel_rfl) ?_
 have e1:IntKind.i64.wrap ((a:Int)+1)=((a+1:Nat):Int):=by rw[qa4 _ (by omega)];omega
 conv=>whnf
 rw[e1]
 refine .inv (Nat × (Nat→Nat)) (fun s=>a+1≤s.1∧(s.1≤b∨(s.1=a+1∧s.2=p))∧Merged (L:=LL (ltC (cR L))) p s.2 n a s.1) (fun s=>[(8,iV s.1)]) (fun s=>[(0,rowP L n z s.2)]) (fun s=>n+1 - s.1) ⟨(a+1,p),[0],show a+1≤a+1∧(a+1≤b∨(a+1=a+1∧p=p))∧Merged (L:=LL (ltC (cR L))) p p n a (a+1) from⟨by omega,.inr ⟨rfl,rfl⟩,.stay hp (fun i j _ _ _=>by omega)⟩,?_⟩ ?_
 ·conv=>whnf
  repeat'(first|exact ⟨⟩|exact rfl|exact qa2 _|exact Or.inr rfl|exact fun _ _=>rfl|exact fun _ h=>absurd h (Nat.not_lt_zero _)|apply And.intro)
 intro s hs
 obtain⟨i,q⟩:=s
 obtain⟨hai,hib,hm⟩:=hs
 have hai:a+1≤i:=hai
 have hib:i≤b∨(i=a+1∧q=p):=hib
 have hm:Merged (L:=LL (ltC (cR L))) p q n a i:=hm
 conv=>whnf
 refine⟨fun h1=>?_,fun h1=>?_⟩
 ·have h1:i<b:=by
   have h:(i:Int)<b:=of_decide_eq_true h1
   omega
  have asc:∀ t,a≤t→t<i→q t<q i:=fun t h3 h4=>by
   obtain⟨t',b1,b2,b3⟩:=hm.same.fwd t h3 h4
   rw[b3,hm.same.out i (by omega)]
   exact hasc t' i b1 b2 h1
  have next:∀ j,a≤j→j≤i→(j=a∨LL (ltC (cR L)) (q (j - 1)) (q i))→(j=i∨LL (ltC (cR L)) (q i) (q j))→Merged (L:=LL (ltC (cR L))) p (rot q j i (i+1)) n a (i+1):=fun j h3 h4 h5 h6=>by
   have:=down_of hw.ord hm.inj (show i<n by omega) h3 h4 hm.rise h5 h6
   exact⟨this.inj,(hm.same.wide (Nat.le_refl _) (by omega)).trans this.same,this.rise⟩
  have e6:IntKind.i64.wrap ((i:Int)+1)=((i+1:Nat):Int):=by rw[qa4 _ (by omega)];omega
  conv=>whnf
  refine .inv Nat (fun j=>a≤j∧j≤i∧(j=i∨LL (ltC (cR L)) (q i) (q j))) (fun j=>[(9,iV j)]) (fun j=>[(0,rowP L n z (rot q j i (i+1)))]) (fun j=>j) ⟨i,[0],⟨by omega,by omega,.inl rfl⟩,?_⟩ ?_
  ·conv=>whnf
   rw[rot_id1 q i (i+1) (by omega)]
   repeat'(first|exact ⟨⟩|exact rfl|exact qa2 _|exact Or.inr rfl|exact fun _ _=>rfl|exact fun _ h=>absurd h (Nat.not_lt_zero _)|apply And.intro)
  intro j hj
  obtain⟨haj,hji,hjL⟩:=hj
  conv=>whnf
  refine⟨fun h2=>?_,fun h2=>?_⟩
  ·have h2:a<j:=by
    have h:(j:Int) > a:=of_decide_eq_true h2
    omega
   have e2:IntKind.i64.wrap ((j:Int) - 1)=((j - 1:Nat):Int):=by rw[qa4 _ (by omega)];omega
   have e3:rot q j i (i+1) j=q i:=by rw[rot_a q (by omega) (by omega)];congr 1;omega
   have e4:rot q j i (i+1) (j - 1)=q (j - 1):=rot_o q (by omega) (by omega) (by omega)
   conv=>whnf
   refine⟨by omega,?_⟩
   conv=>whnf
   rw[e2]
   refine⟨by omega,?_⟩
   conv=>whnf
   rw[Int.toNat_natCast,Int.toNat_natCast,e3,e4]
   refine .data _ (jc3 _ _) rfl rfl ?_
   conv=>whnf
   refine⟨fun h3=>?_,fun h3=>?_⟩
   ·have h3:ltC (cR L) (q i) (q (j - 1))=true:=h3
    conv=>whnf
    refine⟨?_,?_,?_,?_⟩
    rotate_left 2
    ·conv=>whnf
     rw[e2]
     repeat'(first|exact⟨rfl,rfl⟩|(refine⟨⟨by omega,by omega⟩,?_⟩;conv=>whnf)|exact ⟨⟩|apply And.intro|(conv=>whnf))
    ·conv=>whnf
     rw[e2]
     refine⟨j - 1,[0],⟨by omega,by omega,.inr (.inl h3)⟩,by omega,?_⟩
     conv=>whnf
     repeat'(first|exact ⟨⟩|exact rfl|exact qa2 _|exact Or.inr rfl|exact fun _ _=>rfl|exact fun _ h=>absurd h (Nat.not_lt_zero _)|apply And.intro)
     intro x hx
     rw[Int.toNat_natCast,Int.toNat_natCast]
     have:=puts_two' L (rot q j i (i+1)) (j - 1) j (by omega)
     have e5:=rot_down q i (j - 1) (by omega)
     rw [show j - 1+1=j by omega] at e5
     exact(congrFun this x).trans (congrArg (fun f=>cel L (f x)) e5)
   ·have h3:ltC (cR L) (q i) (q (j - 1))=false:=h3
    have hL:LL (ltC (cR L)) (q (j - 1)) (q i):=.inr ⟨h3,asc (j - 1) (by omega) (by omega)⟩
    conv=>whnf
    refine⟨(i+1,rot q j i (i+1)),[0],(show a+1≤i+1∧(i+1≤b∨(i+1=a+1∧rot q j i (i+1)=p))∧Merged (L:=LL (ltC (cR L))) p (rot q j i (i+1)) n a (i+1) from⟨by omega,.inl (by omega),next j haj hji (.inr hL) hjL⟩),by show n+1 - (i+1)<n+1 - i;omega,?_⟩
    conv=>whnf
    rw[e6]
    repeat'(first|exact ⟨⟩|exact rfl|exact qa2 _|exact Or.inr rfl|exact fun _ _=>rfl|exact fun _ h=>absurd h (Nat.not_lt_zero _)|apply And.intro)
  ·have h2:j=a:=by
    have h:¬ ((j:Int) > a):=of_decide_eq_false h2
    omega
   conv=>whnf
   refine⟨(i+1,rot q j i (i+1)),[0],(show a+1≤i+1∧(i+1≤b∨(i+1=a+1∧rot q j i (i+1)=p))∧Merged (L:=LL (ltC (cR L))) p (rot q j i (i+1)) n a (i+1) from⟨by omega,.inl (by omega),next j haj hji (.inl h2) hjL⟩),by show n+1 - (i+1)<n+1 - i;omega,?_⟩
   conv=>whnf
   rw[e6]
   repeat'(first|exact ⟨⟩|exact rfl|exact qa2 _|exact Or.inr rfl|exact fun _ _=>rfl|exact fun _ h=>absurd h (Nat.not_lt_zero _)|apply And.intro)
 ·have h1:b≤i:=by
   have h:¬ ((i:Int)<b):=of_decide_eq_false h1
   omega
  conv=>whnf
  refine⟨[0],_,_,rfl,rfl,?_,?_,rfl,q,?_,rfl⟩
  ·exact rfl
  ·conv=>whnf
   repeat'(first|exact ⟨⟩|exact rfl|exact qa2 _|exact Or.inr rfl|exact fun _ _=>rfl|exact fun _ h=>absurd h (Nat.not_lt_zero _)|apply And.intro)
  ·rcases hib with h|h
   ·have:i=b:=by omega
    rw[←this];exact hm
   ·rw[h.2]
    exact .stay hp (fun i j _ _ _=>by omega)
end Go.Proofs.YtdfdlbnojmlpiaaGreatDoor
namespace Go.Proofs.YtdfdlbnojmlpiaaGreatDoor
open Go Go.Eng
theorem rot_in(L:List RR)(n:Nat)(hn:n<1152921504606846976)(z:Z)(p:Nat→Nat)(a m b:Nat)(ha:a<m)(hb:m<b)(hbn:b≤n):COk Tryz.prog 194 [.all 0,iV a,iV m,iV b,.fn 58 []] [rowP L n z p] (fun s k=>s = .tup []∧k=[rowP L n z (rot p a m b)]):=by
 refine COk.anyA (COk.frame (rotate_ok L n hn z p a m b ha hb hbn) [0] («as»:=[.all 0,iV a,iV m,iV b,.any]) rfl rfl rfl (fun s0 k0 h=>?_)) ⟨.inr rfl,.inr rfl,.inr rfl,.inr rfl,.inl rfl,True.intro⟩
 obtain⟨rfl,rfl⟩:=h
 exact⟨rfl,rfl⟩
theorem half(i j:Nat)(h:i+j<9223372036854775808):IntKind.i64.wrap ((IntKind.u64.wrap (IntKind.i64.wrap ((i:Int)+(j:Int)))).fdiv (2 ^ (min (Int.toNat 1) IntKind.u64.bits)))=(((i+j) / 2:Nat):Int):=by
 rw[qa4 ((i:Int)+(j:Int)) (by omega),IntKind.wrap_u64]
 rw[show(2:Int) ^ (min (Int.toNat 1) IntKind.u64.bits)=2 from rfl,Int.fdiv_eq_ediv_of_nonneg _ (by omega)]
 rw[qa4 _ (by omega)]
 omega
set_option maxRecDepth 100000
set_option maxHeartbeats 8000000 in
theorem sym_ok(L:List RR)(n:Nat)(hn:n<1152921504606846976)(z:Z)(hw:Weak n (ltC (cR L))):∀ (k:Nat) (p:Nat→Nat) (a m b:Nat),b - a<k→Inj n p→a<m→m<b→b≤n→Rise (LL (ltC (cR L))) p a m→Rise (LL (ltC (cR L))) p m b→Sep p a m b →
 COk Tryz.prog 168 [.all 0,iV a,iV m,iV b,.fn 58 []] [rowP L n z p] (fun s k=>s = .tup []∧∃ r,Merged (L:=LL (ltC (cR L))) p r n a b∧k=[rowP L n z r]):=by
 intro k
 induction k with
 |zero=>intro p a m b h;omega
 |succ k ih =>
 intro p a m b hk hp ham hmb hbn h1 h2 hs
 refine qc4 (TT:=TT) (IN:=qc2 []) qc5 qa1 mixed 1000 Tryz.func168 rfl (qa8 Tryz.func168 (by kernel_rfl) rfl) 215 (by kernel_rfl) ?_
 have e1:IntKind.i64.wrap ((m:Int) - (a:Int))=((m - a:Nat):Int):=by rw[qa4 _ (by omega)];omega
 have e2:IntKind.i64.wrap ((b:Int) - (m:Int))=((b - m:Nat):Int):=by rw[qa4 _ (by omega)];omega
 conv=>whnf
 rw[e1]
 refine⟨fun c1=>?_,fun c1=>?_⟩
 ·have c1:m=a+1:=by simp at c1;omega
  subst c1
  conv=>whnf
  refine .inv (Nat × Nat) (fun s=>a+1≤s.1∧s.1≤s.2∧s.2≤b∧(s.1=a+1∨LL (ltC (cR L)) (p (s.1 - 1)) (p a))∧(s.2=b∨LL (ltC (cR L)) (p a) (p s.2))) (fun s=>[(10,iV s.1),(11,iV s.2)]) (fun s=>[]) (fun s=>s.2 - s.1) ⟨(a+1,b),[0],⟨show a+1≤a+1 by omega,show a+1≤b by omega,show b≤b by omega,.inl rfl,.inl rfl⟩,?_⟩ ?_
  ·conv=>whnf
   repeat'(first|exact ⟨⟩|exact rfl|exact qa2 _|exact Or.inr rfl|exact fun _ _=>rfl|exact fun _ h=>absurd h (Nat.not_lt_zero _)|apply And.intro)
  intro s hs2
  obtain⟨q1,q2,q3,q4,q5⟩:=hs2
  conv=>whnf
  generalize s.1=i at q1 q2 q4 ⊢
  generalize s.2=j at q2 q3 q5 ⊢
  refine⟨fun h3=>?_,fun h3=>?_⟩
  ·have h3:i<j:=by
    have h:(i:Int)<j:=of_decide_eq_true h3
    omega
   conv=>whnf
   refine⟨by omega,?_⟩
   conv=>whnf
   rw[half i j (by omega)]
   have g1:i≤(i+j) / 2:=by omega
   have g2:(i+j) / 2<j:=by omega
   generalize (i+j) / 2=h at g1 g2 ⊢
   refine⟨by omega,?_⟩
   conv=>whnf
   refine⟨by omega,?_⟩
   conv=>whnf
   rw[Int.toNat_natCast,Int.toNat_natCast]
   refine .data _ (jc3 _ _) rfl rfl ?_
   conv=>whnf
   refine⟨fun h4=>?_,fun h4=>?_⟩
   ·have h4:ltC (cR L) (p h) (p a)=true:=h4
    conv=>whnf
    rw[show IntKind.i64.wrap ((h:Int)+1)=((h+1:Nat):Int) by rw[qa4 _ (by omega)];omega]
    refine⟨(h+1,j),[0],⟨show a+1≤h+1 by omega,show h+1≤j by omega,q3,.inr (.inl h4),q5⟩,by show j - (h+1)<j - i;omega,?_⟩
    conv=>whnf
    repeat'(first|exact ⟨⟩|exact rfl|exact qa2 _|exact Or.inr rfl|exact fun _ _=>rfl|exact fun _ h=>absurd h (Nat.not_lt_zero _)|apply And.intro)
   ·have h4:ltC (cR L) (p h) (p a)=false:=h4
    conv=>whnf
    refine⟨(i,h),[0],⟨q1,g1,show h≤b by omega,q4,.inr (.inr ⟨h4,hs a h (by omega) (by omega) (by omega) (by omega)⟩)⟩,by show h - i<j - i;omega,?_⟩
    conv=>whnf
    repeat'(first|exact ⟨⟩|exact rfl|exact qa2 _|exact Or.inr rfl|exact fun _ _=>rfl|exact fun _ h=>absurd h (Nat.not_lt_zero _)|apply And.intro)
  ·have h3:i=j:=by
    have h:¬ (i:Int)<j:=of_decide_eq_false h3
    omega
   subst h3
   have hfin:=up_of hw.ord hp hbn q1 q3 h2 q4 q5
   have ei:IntKind.i64.wrap ((i:Int) - 1)=((i - 1:Nat):Int):=by rw[qa4 _ (by omega)];omega
   conv=>whnf
   refine .inv Nat (fun k=>a≤k∧k+1≤i) (fun k=>[(13,iV k)]) (fun k=>[(0,rowP L n z (rot p a (a+1) (k+1)))]) (fun k=>i - k) ⟨a,[0],⟨by omega,by omega⟩,?_⟩ ?_
   ·conv=>whnf
    rw[rot_id2 p a (a+1) (by omega)]
    repeat'(first|exact ⟨⟩|exact rfl|exact qa2 _|exact Or.inr rfl|exact fun _ _=>rfl|exact fun _ h=>absurd h (Nat.not_lt_zero _)|apply And.intro)
   intro k hk2
   obtain⟨r1,r2⟩:=hk2
   conv=>whnf
   rw[ei]
   refine⟨fun h3=>?_,fun h3=>?_⟩
   ·have h3:k<i - 1:=by
     have h:(k:Int)<((i - 1:Nat):Int):=of_decide_eq_true h3
     omega
    have ek:IntKind.i64.wrap ((k:Int)+1)=((k+1:Nat):Int):=by rw[qa4 _ (by omega)];omega
    conv=>whnf
    refine⟨?_,?_,?_,?_⟩
    rotate_left 2
    ·conv=>whnf
     rw[ek]
     repeat'(first|exact⟨rfl,rfl⟩|(refine⟨⟨by omega,by omega⟩,?_⟩;conv=>whnf)|exact ⟨⟩|apply And.intro|(conv=>whnf))
    ·conv=>whnf
     rw[ek]
     refine⟨k+1,[0],⟨by omega,by omega⟩,by omega,?_⟩
     conv=>whnf
     repeat'(first|exact ⟨⟩|exact rfl|exact qa2 _|exact Or.inr rfl|exact fun _ _=>rfl|exact fun _ h=>absurd h (Nat.not_lt_zero _)|apply And.intro)
     intro x hx
     rw[Int.toNat_natCast,Int.toNat_natCast]
     have:=puts_two L (rot p a (a+1) (k+1)) k (k+1) (by omega)
     exact(congrFun this x).trans (congrArg (fun f=>cel L (f x)) (rot_up p a k (by omega)))
   ·have h3:k+1=i:=by
     have h:¬ (k:Int)<((i - 1:Nat):Int):=of_decide_eq_false h3
     omega
    rw[h3]
    conv=>whnf
    refine⟨[0],_,_,rfl,rfl,?_,?_,rfl,_,hfin,rfl⟩
    ·exact rfl
    ·conv=>whnf
     repeat'(first|exact ⟨⟩|exact rfl|exact qa2 _|exact Or.inr rfl|exact fun _ _=>rfl|exact fun _ h=>absurd h (Nat.not_lt_zero _)|apply And.intro)
 have c1:¬ m=a+1:=by simp at c1;omega
 conv=>whnf
 rw[e2]
 refine⟨fun c2=>?_,fun c2=>?_⟩
 ·have c2:b=m+1:=by simp at c2;omega
  subst c2
  conv=>whnf
  refine .inv (Nat × Nat) (fun s=>a≤s.1∧s.1≤s.2∧s.2≤m∧(s.1=a∨LL (ltC (cR L)) (p (s.1 - 1)) (p m))∧(s.2=m∨LL (ltC (cR L)) (p m) (p s.2))) (fun s=>[(14,iV s.1),(15,iV s.2)]) (fun s=>[]) (fun s=>s.2 - s.1) ⟨(a,m),[0],⟨show a≤a by omega,show a≤m by omega,show m≤m by omega,.inl rfl,.inl rfl⟩,?_⟩ ?_
  ·conv=>whnf
   repeat'(first|exact ⟨⟩|exact rfl|exact qa2 _|exact Or.inr rfl|exact fun _ _=>rfl|exact fun _ h=>absurd h (Nat.not_lt_zero _)|apply And.intro)
  intro s hs2
  obtain⟨q1,q2,q3,q4,q5⟩:=hs2
  conv=>whnf
  generalize s.1=i at q1 q2 q4 ⊢
  generalize s.2=j at q2 q3 q5 ⊢
  refine⟨fun h3=>?_,fun h3=>?_⟩
  ·have h3:i<j:=by
    have h:(i:Int)<j:=of_decide_eq_true h3
    omega
   conv=>whnf
   refine⟨by omega,?_⟩
   conv=>whnf
   rw[half i j (by omega)]
   have g1:i≤(i+j) / 2:=by omega
   have g2:(i+j) / 2<j:=by omega
   generalize (i+j) / 2=h at g1 g2 ⊢
   refine⟨by omega,?_⟩
   conv=>whnf
   refine⟨by omega,?_⟩
   conv=>whnf
   rw[Int.toNat_natCast,Int.toNat_natCast]
   refine .data _ (jc3 _ _) rfl rfl ?_
   conv=>whnf
   refine⟨fun h4=>?_,fun h4=>?_⟩
   ·have h4:ltC (cR L) (p m) (p h)=false:=(by have h5:(!(ltC (cR L) (p m) (p h)))=true:=h4;simpa using h5)
    conv=>whnf
    rw[show IntKind.i64.wrap ((h:Int)+1)=((h+1:Nat):Int) by rw[qa4 _ (by omega)];omega]
    refine⟨(h+1,j),[0],⟨show a≤h+1 by omega,show h+1≤j by omega,q3,.inr (.inr ⟨h4,hs h m (by omega) (by omega) (by omega) (by omega)⟩),q5⟩,by show j - (h+1)<j - i;omega,?_⟩
    conv=>whnf
    repeat'(first|exact ⟨⟩|exact rfl|exact qa2 _|exact Or.inr rfl|exact fun _ _=>rfl|exact fun _ h=>absurd h (Nat.not_lt_zero _)|apply And.intro)
   ·have h4:ltC (cR L) (p m) (p h)=true:=(by have h5:(!(ltC (cR L) (p m) (p h)))=false:=h4;simpa using h5)
    conv=>whnf
    refine⟨(i,h),[0],⟨q1,g1,show h≤m by omega,q4,.inr (.inl h4)⟩,by show h - i<j - i;omega,?_⟩
    conv=>whnf
    repeat'(first|exact ⟨⟩|exact rfl|exact qa2 _|exact Or.inr rfl|exact fun _ _=>rfl|exact fun _ h=>absurd h (Nat.not_lt_zero _)|apply And.intro)
  ·have h3:i=j:=by
    have h:¬ (i:Int)<j:=of_decide_eq_false h3
    omega
   subst h3
   have hfin:=down_of hw.ord hp (show m<n by omega) q1 q3 h1 q4 q5
   conv=>whnf
   refine .inv Nat (fun k=>i≤k∧k≤m) (fun k=>[(17,iV k)]) (fun k=>[(0,rowP L n z (rot p k m (m+1)))]) (fun k=>k) ⟨m,[0],⟨by omega,by omega⟩,?_⟩ ?_
   ·conv=>whnf
    rw[rot_id1 p m (m+1) (by omega)]
    repeat'(first|exact ⟨⟩|exact rfl|exact qa2 _|exact Or.inr rfl|exact fun _ _=>rfl|exact fun _ h=>absurd h (Nat.not_lt_zero _)|apply And.intro)
   intro k hk2
   obtain⟨r1,r2⟩:=hk2
   conv=>whnf
   refine⟨fun h3=>?_,fun h3=>?_⟩
   ·have h3:i<k:=by
     have h:(k:Int) > (i:Int):=of_decide_eq_true h3
     omega
    have ek:IntKind.i64.wrap ((k:Int) - 1)=((k - 1:Nat):Int):=by rw[qa4 _ (by omega)];omega
    conv=>whnf
    refine⟨?_,?_,?_,?_⟩
    rotate_left 2
    ·conv=>whnf
     rw[ek]
     repeat'(first|exact⟨rfl,rfl⟩|(refine⟨⟨by omega,by omega⟩,?_⟩;conv=>whnf)|exact ⟨⟩|apply And.intro|(conv=>whnf))
    ·conv=>whnf
     rw[ek]
     refine⟨k - 1,[0],⟨by omega,by omega⟩,by omega,?_⟩
     conv=>whnf
     repeat'(first|exact ⟨⟩|exact rfl|exact qa2 _|exact Or.inr rfl|exact fun _ _=>rfl|exact fun _ h=>absurd h (Nat.not_lt_zero _)|apply And.intro)
     intro x hx
     rw[Int.toNat_natCast,Int.toNat_natCast]
     have:=puts_two' L (rot p k m (m+1)) (k - 1) k (by omega)
     have e5:=rot_down p m (k - 1) (by omega)
     rw [show k - 1+1=k by omega] at e5
     exact(congrFun this x).trans (congrArg (fun f=>cel L (f x)) e5)
   ·have h3:k=i:=by
     have h:¬ (k:Int) > (i:Int):=of_decide_eq_false h3
     omega
    rw[h3]
    conv=>whnf
    refine⟨[0],_,_,rfl,rfl,?_,?_,rfl,_,hfin,rfl⟩
    ·exact rfl
    ·conv=>whnf
     repeat'(first|exact ⟨⟩|exact rfl|exact qa2 _|exact Or.inr rfl|exact fun _ _=>rfl|exact fun _ h=>absurd h (Nat.not_lt_zero _)|apply And.intro)
 have c2:¬ b=m+1:=by simp at c2;omega
 conv=>whnf
 refine⟨by omega,?_⟩
 conv=>whnf
 rw[half a b (by omega)]
 rw[show IntKind.i64.wrap ((((a+b) / 2:Nat):Int)+(m:Int))=(((a+b) / 2+m:Nat):Int) by rw[qa4 _ (by omega)];omega]
 refine⟨fun c3=>?_,fun c3=>?_⟩
 have c3:(a+b) / 2<m:=by
  have h:(m:Int) > (((a+b) / 2:Nat):Int):=of_decide_eq_true c3
  omega
 conv=>whnf
 obtain⟨N,hN⟩:∃ N,N=(a+b) / 2+m:=⟨_,rfl⟩
 rw[←hN]
 obtain⟨s0,hs0⟩:∃ s0,s0=N - b:=⟨_,rfl⟩
 obtain⟨r0,hr0⟩:∃ r0,r0=(a+b) / 2:=⟨_,rfl⟩
 have f1:s0=a∨N - s0=b:=by omega
 have f2:r0=m∨N - r0=m:=by omega
 have f3:a≤s0∧s0≤r0∧r0≤m∧m≤N - r0∧N - s0≤b:=by omega
 have x1:IntKind.i64.wrap ((N:Int) - (b:Int))=(s0:Int):=by rw[qa4 _ (by omega)];omega
 have x2:IntKind.i64.wrap ((N:Int) - 1)=((N - 1:Nat):Int):=by rw[qa4 _ (by omega)];omega
 rw[x1,x2]
 rotate_left
 have c3:m≤(a+b) / 2:=by
  have h:¬ (m:Int) > (((a+b) / 2:Nat):Int):=of_decide_eq_false c3
  omega
 conv=>whnf
 obtain⟨N,hN⟩:∃ N,N=(a+b) / 2+m:=⟨_,rfl⟩
 rw[←hN]
 obtain⟨s0,hs0⟩:∃ s0,s0=a:=⟨_,rfl⟩
 obtain⟨r0,hr0⟩:∃ r0,r0=m:=⟨_,rfl⟩
 have f1:s0=a∨N - s0=b:=by omega
 have f2:r0=m∨N - r0=m:=by omega
 have f3:a≤s0∧s0≤r0∧r0≤m∧m≤N - r0∧N - s0≤b:=by omega
 have x2:IntKind.i64.wrap ((N:Int) - 1)=((N - 1:Nat):Int):=by rw[qa4 _ (by omega)];omega
 rw[x2]
 all_goals
  refine .inv (Nat × Nat) (fun s=>s0≤s.1∧s.1≤s.2∧s.2≤r0∧(s.1=s0∨LL (ltC (cR L)) (p (s.1 - 1)) (p (N - s.1)))∧(s.2=r0∨LL (ltC (cR L)) (p (N - 1 - s.2)) (p s.2))) (fun s=>[(20,iV s.1),(21,iV s.2)]) (fun s=>[]) (fun s=>s.2 - s.1) ⟨(s0,r0),[0],⟨show s0≤s0 by omega,show s0≤r0 by omega,show r0≤r0 by omega,.inl rfl,.inl rfl⟩,?_⟩ ?_
  ·subst hr0
   subst hs0
   conv=>whnf
   repeat'(first|exact ⟨⟩|exact rfl|exact qa2 _|exact Or.inr rfl|exact fun _ _=>rfl|exact fun _ h=>absurd h (Nat.not_lt_zero _)|apply And.intro)
  intro st hst
  obtain⟨q1,q2,q3,q4,q5⟩:=hst
  conv=>whnf
  generalize st.1=s at q1 q2 q4 ⊢
  generalize st.2=j at q2 q3 q5 ⊢
  refine⟨fun h3=>?_,fun h3=>?_⟩
  ·have h3:s<j:=by
    have h:(s:Int)<j:=of_decide_eq_true h3
    omega
   conv=>whnf
   refine⟨by omega,?_⟩
   conv=>whnf
   rw[half s j (by omega)]
   have g1:s≤(s+j) / 2:=by omega
   have g2:(s+j) / 2<j:=by omega
   generalize (s+j) / 2=h at g1 g2 ⊢
   rw[show IntKind.i64.wrap (((N - 1:Nat):Int) - (h:Int))=((N - 1 - h:Nat):Int) by rw[qa4 _ (by omega)];omega]
   refine⟨by omega,?_⟩
   conv=>whnf
   refine⟨by omega,?_⟩
   conv=>whnf
   rw[Int.toNat_natCast,Int.toNat_natCast]
   refine .data _ (jc3 _ _) rfl rfl ?_
   conv=>whnf
   refine⟨fun h4=>?_,fun h4=>?_⟩
   ·have h4:ltC (cR L) (p (N - 1 - h)) (p h)=false:=(by have h5:(!(ltC (cR L) (p (N - 1 - h)) (p h)))=true:=h4;simpa using h5)
    conv=>whnf
    rw[show IntKind.i64.wrap ((h:Int)+1)=((h+1:Nat):Int) by rw[qa4 _ (by omega)];omega]
    refine⟨(h+1,j),[0],⟨show s0≤h+1 by omega,show h+1≤j by omega,q3,.inr (?_:LL (ltC (cR L)) (p (h+1 - 1)) (p (N - (h+1)))),q5⟩,by show j - (h+1)<j - s;omega,?_⟩
    ·rw[show h+1 - 1=h by omega,show N - (h+1)=N - 1 - h by omega]
     exact .inr ⟨h4,hs h (N - 1 - h) (by omega) (by omega) (by omega) (by omega)⟩
    conv=>whnf
    repeat'(first|exact ⟨⟩|exact rfl|exact qa2 _|exact Or.inr rfl|exact fun _ _=>rfl|exact fun _ h=>absurd h (Nat.not_lt_zero _)|apply And.intro)
   ·have h4:ltC (cR L) (p (N - 1 - h)) (p h)=true:=(by have h5:(!(ltC (cR L) (p (N - 1 - h)) (p h)))=false:=h4;simpa using h5)
    conv=>whnf
    refine⟨(s,h),[0],⟨q1,g1,show h≤r0 by omega,q4,.inr (.inl h4)⟩,by show h - s<j - s;omega,?_⟩
    conv=>whnf
    repeat'(first|exact ⟨⟩|exact rfl|exact qa2 _|exact Or.inr rfl|exact fun _ _=>rfl|exact fun _ h=>absurd h (Nat.not_lt_zero _)|apply And.intro)
  have h3:s=j:=by
   have h:¬ (s:Int)<j:=of_decide_eq_false h3
   omega
  subst h3
  have hc:Cut (L:=LL (ltC (cR L))) p a m b s (N - s):=cut_of hw.ord hp hbn h1 h2 (by omega) (by omega) (by omega) (by omega)
   (by
    rcases q4 with x|x
    ·rcases f1 with y|y
     ·exact .inl (by omega)
     ·exact .inr (.inl (by omega))
    ·exact .inr (.inr x))
   (by
    rcases q5 with x|x
    ·rcases f2 with y|y
     ·exact .inl (by omega)
     ·exact .inr (.inl (by omega))
    ·exact .inr (.inr (by rw[show N - s - 1=N - 1 - s by omega];exact x)))
  have hmid:(a+b) / 2=s+(N - s - m):=by omega
  have cl:=cut_left h1 h2 hs hc hmid
  have cr:=cut_right h1 h2 hs hc hmid
  have hrot:Inj n (rot p s m (N - s)):=hp.rot (by omega) (by omega) (by omega)
  have ee:IntKind.i64.wrap ((N:Int) - (s:Int))=((N - s:Nat):Int):=by rw[qa4 _ (by omega)];omega
  conv=>whnf
  rw[ee]
  by_cases k1:s<m∧m<N - s
  refine brT (decide_eq_true (by omega)) ?_
  conv=>whnf
  refine brT (decide_eq_true (by omega)) ?_
  conv=>whnf
  refine .rel _ (rot_in L n hn z p s m (N - s) k1.1 k1.2 (by omega)) (fun r ks' hR=>?_)
  obtain⟨rfl,rfl⟩:=hR
  conv=>whnf
  rotate_left
  have eq:rot p s m (N - s)=p:=by
   rcases Nat.lt_or_ge s m with x|x
   ·rw[show N - s=m by omega];exact rot_id2 p s m (by omega)
   ·rw[show s=m by omega];exact rot_id1 p m _ (by omega)
  rw[show rowP L n z p=rowP L n z (rot p s m (N - s)) by rw[eq]]
  by_cases k0:s<m
  refine brT (decide_eq_true (by omega)) ?_
  conv=>whnf
  refine brF (decide_eq_false (by omega)) ?_
  conv=>whnf
  rotate_left
  refine brF (decide_eq_false (by omega)) ?_
  conv=>whnf
  all_goals
   by_cases k2:a<s∧s<(a+b) / 2
   refine brT (decide_eq_true (by omega)) ?_
   conv=>whnf
   refine brT (decide_eq_true (by omega)) ?_
   conv=>whnf
   refine .rel _ (ih (rot p s m (N - s)) a s ((a+b) / 2) (by omega) hrot k2.1 k2.2 (by omega) cl.1 cl.2.1 cl.2.2) (fun r ks' hR=>?_)
   obtain⟨rfl,r1,hr1,rfl⟩:=hR
   have hfin:∀ r2,Merged (L:=LL (ltC (cR L))) r1 r2 n ((a+b) / 2) b→Merged (L:=LL (ltC (cR L))) p r2 n a b:=fun r2 h=>merge_two h1 h2 hc hmid hr1 h
   conv=>whnf
   rotate_left
   obtain⟨r1,hr1,er⟩:∃ r1,Merged (L:=LL (ltC (cR L))) (rot p s m (N - s)) r1 n a ((a+b) / 2)∧r1=rot p s m (N - s):=⟨_,.stay hrot (by
    rcases Nat.lt_or_ge a s with x|x
    ·exact cl.1.sub (Nat.le_refl _) (by omega)
    ·exact cl.2.1.sub (by omega) (Nat.le_refl _)),rfl⟩
   have hfin:∀ r2,Merged (L:=LL (ltC (cR L))) r1 r2 n ((a+b) / 2) b→Merged (L:=LL (ltC (cR L))) p r2 n a b:=fun r2 h=>merge_two h1 h2 hc hmid hr1 h
   rw[←er]
   clear er
   by_cases k0:a<s
   refine brT (decide_eq_true (by omega)) ?_
   conv=>whnf
   refine brF (decide_eq_false (by omega)) ?_
   conv=>whnf
   rotate_left
   refine brF (decide_eq_false (by omega)) ?_
   conv=>whnf
   all_goals
    by_cases k3:(a+b) / 2<N - s∧N - s<b
    refine brT (decide_eq_true (by omega)) ?_
    conv=>whnf
    refine brT (decide_eq_true (by omega)) ?_
    conv=>whnf
    refine .rel _ (ih r1 ((a+b) / 2) (N - s) b (by omega) hr1.inj k3.1 k3.2 hbn (cr.1.congr fun i x1 x2=>hr1.same.out i (by omega)) (cr.2.1.congr fun i x1 x2=>hr1.same.out i (by omega)) (cr.2.2.congr fun i x1 x2=>hr1.same.out i (by omega))) (fun r ks' hR=>?_)
    obtain⟨rfl,r2,hr2,rfl⟩:=hR
    conv=>whnf
    rotate_left
    have hr2:Merged (L:=LL (ltC (cR L))) r1 r1 n ((a+b) / 2) b:=.stay hr1.inj (by
     rcases Nat.lt_or_ge ((a+b) / 2) (N - s) with x|x
     ·exact(cr.1.congr fun i x1 x2=>hr1.same.out i (by omega)).sub (Nat.le_refl _) (by omega)
     ·exact(cr.2.1.congr fun i x1 x2=>hr1.same.out i (by omega)).sub (by omega) (Nat.le_refl _))
    by_cases k0:(a+b) / 2<N - s
    refine brT (decide_eq_true (by omega)) ?_
    conv=>whnf
    refine brF (decide_eq_false (by omega)) ?_
    conv=>whnf
    rotate_left
    refine brF (decide_eq_false (by omega)) ?_
    conv=>whnf
    all_goals
     refine⟨[0],_,_,rfl,rfl,?_,?_,rfl,_,hfin _ hr2,rfl⟩
     ·exact rfl
     ·conv=>whnf
      repeat'(first|exact ⟨⟩|exact rfl|exact qa2 _|exact Or.inr rfl|exact fun _ _=>rfl|exact fun _ h=>absurd h (Nat.not_lt_zero _)|apply And.intro)
end Go.Proofs.YtdfdlbnojmlpiaaGreatDoor
namespace Go.Proofs.YtdfdlbnojmlpiaaGreatDoor
open Go Go.Eng
set_option maxRecDepth 100000
set_option maxHeartbeats 8000000 in
theorem stable_ok(L:List RR)(n:Nat)(hn:n<1152921504606846976)(z:Z)(hw:Weak n (ltC (cR L))) :
 COk Tryz.prog 126 [.all 0,iV n,.fn 58 []] [rowP L n z id] (fun s k=>s = .tup []∧∃ r,Inj n r∧Rise (LL (ltC (cR L))) r 0 n∧k=[rowP L n z r]):=by
 refine qc4 (TT:=TT) (IN:=qc2 []) qc5 qa1 mixed 1000 Tryz.func126 rfl (qa8 Tryz.func126 (by kernel_rfl) rfl) 60 (by kernel_rfl) ?_
 conv=>whnf
 refine .inv (Nat × (Nat→Nat)) (fun s=>s.1 * 20≤n∧Fst (LL (ltC (cR L))) 20 n s.1 s.2) (fun s=>[(6,iV 20),(7,iV (s.1 * 20)),(8,iV (s.1 * 20+20))]) (fun s=>[(0,rowP L n z s.2)]) (fun s=>n - s.1 * 20) ⟨(0,id),[0],⟨by show 0 * 20≤n;omega,Fst.zero 20 n⟩,?_⟩ ?_
 ·conv=>whnf
  repeat'(first|exact ⟨⟩|exact rfl|exact qa2 _|exact Or.inr rfl|exact fun _ _=>rfl|exact fun _ h=>absurd h (Nat.not_lt_zero _)|apply And.intro)
 intro s hs
 obtain⟨h1,h2⟩:=hs
 conv=>whnf
 generalize s.1=q at h1 h2 ⊢
 generalize s.2=p at h2 ⊢
 refine⟨fun h3=>?_,fun h3=>?_⟩
 ·have h3:q * 20+20≤n:=by
   have h:((q * 20+20:Nat):Int)≤n:=of_decide_eq_true h3
   omega
  conv=>whnf
  refine .rel _ (ins_ok L n hn z p hw h2.inj (q * 20) (q * 20+20) (by omega) h3 (fun i j x1 x2 x3=>by rw[h2.rest i x1,h2.rest j (by omega)];exact x2)) (fun r ks' hR=>?_)
  obtain⟨rfl,r,hr,rfl⟩:=hR
  have e1:IntKind.i64.wrap (((q * 20+20:Nat):Int)+((20:Nat):Int))=(((q+1) * 20+20:Nat):Int):=by rw[qa4 _ (by omega)];omega
  have e2:q * 20+20=(q+1) * 20:=by omega
  conv=>whnf
  rw[e1,e2]
  refine⟨(q+1,r),[0],⟨by show(q+1) * 20≤n;omega,h2.next h3 (by omega) (.inr rfl) hr⟩,by show n - (q+1) * 20<n - q * 20;omega,?_⟩
  conv=>whnf
  repeat'(first|exact ⟨⟩|exact rfl|exact qa2 _|exact Or.inr rfl|exact fun _ _=>rfl|exact fun _ h=>absurd h (Nat.not_lt_zero _)|apply And.intro)
 ·have h3:n<q * 20+20:=by
   have h:¬ ((q * 20+20:Nat):Int)≤n:=of_decide_eq_false h3
   omega
  conv=>whnf
  refine .rel _ (ins_ok L n hn z p hw h2.inj (q * 20) n h1 (Nat.le_refl _) (fun i j x1 x2 x3=>by rw[h2.rest i x1,h2.rest j (by omega)];exact x2)) (fun r ks' hR=>?_)
  obtain⟨rfl,r,hr,rfl⟩:=hR
  have h4:=h2.next (Nat.le_refl _) (by omega) (.inl rfl) hr
  conv=>whnf
  refine .inv (Nat × (Nat→Nat)) (fun s=>0<s.1∧s.1≤20+2 * n∧Inj n s.2∧Lc s.1 0 n s.2∧Rs (LL (ltC (cR L))) s.1 0 n s.2) (fun s=>[(6,iV s.1)]) (fun s=>[(0,rowP L n z s.2)]) (fun s=>n - s.1) ⟨(20,r),[0],⟨show 0<20 by omega,show 20≤20+2 * n by omega,h4.inj,h4.loc,?_⟩,?_⟩ ?_
  ·have:=h4.done
   rw [show min ((q+1) * 20) n=n by omega] at this
   exact this
  ·conv=>whnf
   repeat'(first|exact ⟨⟩|exact rfl|exact qa2 _|exact Or.inr rfl|exact fun _ _=>rfl|exact fun _ h=>absurd h (Nat.not_lt_zero _)|apply And.intro)
  clear h1 h2 h3 h4 hr
  intro s hs
  obtain⟨h1,h2,h3,h4,h5⟩:=hs
  conv=>whnf
  generalize s.1=k at h1 h2 h4 h5 ⊢
  generalize s.2=p at h3 h4 h5 ⊢
  refine⟨fun h6=>?_,fun h6=>?_⟩
  ·have h6:k<n:=by
    have h:(k:Int)<n:=of_decide_eq_true h6
    omega
   have e1:IntKind.i64.wrap (2 * (k:Int))=((2 * k:Nat):Int):=by rw[qa4 _ (by omega)];omega
   conv=>whnf
   rw[e1]
   refine .inv (Nat × (Nat→Nat)) (fun s=>s.1≤n∧∃ q,s.1=q * (2 * k)∧Mg (LL (ltC (cR L))) k n q s.2) (fun s=>[(7,iV s.1),(8,iV (s.1+2 * k))]) (fun s=>[(0,rowP L n z s.2)]) (fun s=>n - s.1) ⟨(0,p),[0],⟨Nat.zero_le _,0,(Nat.zero_mul _).symm,Mg.begin h3 h4 h5⟩,?_⟩ ?_
   ·conv=>whnf
    rw[Nat.zero_add]
    repeat'(first|exact ⟨⟩|exact rfl|exact qa2 _|exact Or.inr rfl|exact fun _ _=>rfl|exact fun _ h=>absurd h (Nat.not_lt_zero _)|apply And.intro)
   intro s hs
   obtain⟨g1,q,g2,g3⟩:=hs
   conv=>whnf
   generalize s.1=a at g1 g2 ⊢
   generalize s.2=p at g3 ⊢
   refine⟨fun h7=>?_,fun h7=>?_⟩
   ·have h7:a+2 * k≤n:=by
     have h:((a+2 * k:Nat):Int)≤n:=of_decide_eq_true h7
     omega
    have e2:IntKind.i64.wrap ((a:Int)+(k:Int))=((a+k:Nat):Int):=by rw[qa4 _ (by omega)];omega
    have e3:IntKind.i64.wrap (((a+2 * k:Nat):Int)+((2 * k:Nat):Int))=((a+2 * k+2 * k:Nat):Int):=by rw[qa4 _ (by omega)];omega
    conv=>whnf
    rw[e2]
    refine .rel _ (sym_ok L n hn z hw (2 * k+1) p a (a+k) (a+2 * k) (by omega) g3.inj (by omega) (by omega) h7 (by rw[g2];exact g3.left (by omega)) (by rw[g2];exact g3.right (by omega) (by omega)) (by rw[g2];exact g3.sep (by omega) (by omega))) (fun r ks' hR=>?_)
    obtain⟨rfl,r,hr,rfl⟩:=hR
    have hn2:Mg (LL (ltC (cR L))) k n (q+1) r:=g3.next h1 h7 (by omega) (by omega) (by omega) (by rw[←g2];exact hr)
    conv=>whnf
    rw[e1,e3]
    refine⟨(a+2 * k,r),[0],⟨h7,q+1,by show a+2 * k=(q+1) * (2 * k);rw[Nat.succ_mul q (2 * k),←g2],hn2⟩,by show n - (a+2 * k)<n - a;omega,?_⟩
    conv=>whnf
    repeat'(first|exact ⟨⟩|exact rfl|exact qa2 _|exact Or.inr rfl|exact fun _ _=>rfl|exact fun _ h=>absurd h (Nat.not_lt_zero _)|apply And.intro)
   ·have h7:n<a+2 * k:=by
     have h:¬ ((a+2 * k:Nat):Int)≤n:=of_decide_eq_false h7
     omega
    have e2:IntKind.i64.wrap ((a:Int)+(k:Int))=((a+k:Nat):Int):=by rw[qa4 _ (by omega)];omega
    have e4:IntKind.i64.wrap ((k:Int) * 2)=((2 * k:Nat):Int):=by rw[qa4 _ (by omega)];omega
    conv=>whnf
    rw[e2]
    refine⟨fun h8=>?_,fun h8=>?_⟩
    ·have h8:a+k<n:=by
      have h:((a+k:Nat):Int)<n:=of_decide_eq_true h8
      omega
     conv=>whnf
     refine .rel _ (sym_ok L n hn z hw (2 * k+1) p a (a+k) n (by omega) g3.inj (by omega) h8 (Nat.le_refl _) (by rw[g2];exact g3.left (by omega)) (by rw[g2];exact g3.right (Nat.le_refl _) (by omega)) (by rw[g2];exact g3.sep (Nat.le_refl _) (by omega))) (fun r ks' hR=>?_)
     obtain⟨rfl,r,hr,rfl⟩:=hR
     have hn2:Mg (LL (ltC (cR L))) k n (q+1) r:=g3.next h1 (Nat.le_refl _) (by omega) (by omega) (by omega) (by rw[←g2];exact hr)
     have ho:=hn2.over h1 (by rw[Nat.succ_mul,←g2];omega)
     conv=>whnf
     rw[e4]
     refine⟨(2 * k,r),[0],⟨show 0<2 * k by omega,show 2 * k≤20+2 * n by omega,hn2.inj,ho.1,ho.2⟩,by show n - 2 * k<n - k;omega,?_⟩
     conv=>whnf
     repeat'(first|exact ⟨⟩|exact rfl|exact qa2 _|exact Or.inr rfl|exact fun _ _=>rfl|exact fun _ h=>absurd h (Nat.not_lt_zero _)|apply And.intro)
    ·have h8:n≤a+k:=by
      have h:¬ ((a+k:Nat):Int)<n:=of_decide_eq_false h8
      omega
     have ho:=g3.over h1 (by rw[←g2];exact h8)
     conv=>whnf
     rw[e4]
     refine⟨(2 * k,p),[0],⟨show 0<2 * k by omega,show 2 * k≤20+2 * n by omega,g3.inj,ho.1,ho.2⟩,by show n - 2 * k<n - k;omega,?_⟩
     conv=>whnf
     repeat'(first|exact ⟨⟩|exact rfl|exact qa2 _|exact Or.inr rfl|exact fun _ _=>rfl|exact fun _ h=>absurd h (Nat.not_lt_zero _)|apply And.intro)
  ·have h6:n≤k:=by
    have h:¬ (k:Int)<n:=of_decide_eq_false h6
    omega
   conv=>whnf
   refine⟨[0],_,_,rfl,rfl,?_,?_,rfl,p,h3,h5.all h6,rfl⟩
   ·exact rfl
   ·conv=>whnf
    repeat'(first|exact ⟨⟩|exact rfl|exact qa2 _|exact Or.inr rfl|exact fun _ _=>rfl|exact fun _ h=>absurd h (Nat.not_lt_zero _)|apply And.intro)
set_option maxHeartbeats 8000000 in
theorem sort_ok(L:List RR)(n:Nat)(hn:n<1152921504606846976)(z:Z)(hw:Weak n (ltC (cR L))) :
 COk Tryz.prog 61 [.all 0,.fn 58 []] [rowP L n z id] (fun s k=>s = .tup []∧∃ r,Inj n r∧Rise (LL (ltC (cR L))) r 0 n∧k=[rowP L n z r]):=by
 refine qc4 (TT:=TT) (IN:=qc2 []) qc5 qa1 mixed 1000 Tryz.func61 rfl (qa8 Tryz.func61 (by kernel_rfl) rfl) 7 (by kernel_rfl) ?_
 conv=>whnf
 refine .rel _ (stable_ok L n hn z hw) (fun r ks' hR=>?_)
 obtain⟨rfl,r,hr,h2,rfl⟩:=hR
 conv=>whnf
 refine⟨[0],_,_,rfl,rfl,?_,?_,rfl,r,hr,h2,rfl⟩
 ·exact rfl
 ·conv=>whnf
  repeat'(first|exact ⟨⟩|exact rfl|exact qa2 _|exact Or.inr rfl|exact fun _ _=>rfl|exact fun _ h=>absurd h (Nat.not_lt_zero _)|apply And.intro)
end Go.Proofs.YtdfdlbnojmlpiaaGreatDoor
namespace Go.Proofs.YtdfdlbnojmlpiaaGreatDoor
open Go Go.Eng
theorem u8_tri(a b:UInt8)(h1:¬ a<b)(h2:¬ b<a):a=b:=by
 rw [UInt8.lt_iff_toNat_lt] at h1 h2
 exact UInt8.toNat_inj.1 (by omega)
theorem qu7:∀ a:List UInt8,Op.bytesLess a a=false
 |[]=>rfl
 |a :: l=>by
  have:¬ a<a:=by rw[UInt8.lt_iff_toNat_lt];omega
  simp[Op.bytesLess,this,qu7 l]
theorem yb7:∀ a b c:List UInt8,Op.bytesLess a b=true→Op.bytesLess b c=true→Op.bytesLess a c=true
 |_,_,[]=>fun _ h=>by simp [Op.bytesLess] at h
 |_,[],_ :: _=>fun h _=>by simp [Op.bytesLess] at h
 |[],_ :: _,_ :: _=>fun _ _=>rfl
 |a :: l,b :: m,c :: n=>fun h k=>by
  have ih:=yb7 l m n
  simp only [Op.bytesLess,Bool.or_eq_true,Bool.and_eq_true,decide_eq_true_eq,beq_iff_eq] at h k ⊢
  rcases h with h|⟨rfl,h⟩ <;> rcases k with k|⟨rfl,k⟩
  ·left;rw [UInt8.lt_iff_toNat_lt] at *;omega
  ·exact .inl h
  ·exact .inl k
  ·exact .inr ⟨rfl,ih h k⟩
theorem bl_asym(a b:List UInt8)(h:Op.bytesLess a b=true):Op.bytesLess b a=false:=by
 cases e:Op.bytesLess b a
 ·rfl
 ·have:=yb7 a b a h e
  rw [qu7] at this;cases this
theorem bl_tri:∀ a b:List UInt8,Op.bytesLess a b=false→Op.bytesLess b a=false→a=b
 |[],[]=>fun _ _=>rfl
 |[],_ :: _=>fun h _=>by simp [Op.bytesLess] at h
 |_ :: _,[]=>fun _ h=>by simp [Op.bytesLess] at h
 |a :: l,b :: m=>fun h k=>by
  have ih:=bl_tri l m
  simp only [Op.bytesLess,Bool.or_eq_false_iff,Bool.and_eq_false_iff,decide_eq_false_iff_not,beq_eq_false_iff_ne] at h k
  have e:a=b:=u8_tri a b h.1 k.1
  subst e
  rw[ih (h.2.resolve_left (fun h=>h rfl)) (k.2.resolve_left (fun h=>h rfl))]
theorem bl_ntrans(a b c:List UInt8)(h:Op.bytesLess a b=false)(k:Op.bytesLess b c=false):Op.bytesLess a c=false:=by
 cases e:Op.bytesLess a c
 ·rfl
 ·cases e2:Op.bytesLess b a
  ·rw [bl_tri a b h e2] at e;rw [e] at k;cases k
  ·rw [yb7 b a c e2 e] at k;cases k
theorem cmp_bl:∀ a b:List UInt8,Lib.compareBytes a b=if Op.bytesLess a b then -1 else if Op.bytesLess b a then 1 else 0
 |[],[]=>rfl
 |[],_ :: _=>rfl
 |_ :: _,[]=>rfl
 |a :: l,b :: m=>by
  have ih:=cmp_bl l m
  unfold Lib.compareBytes
  by_cases h1:a<b
  ·simp[Op.bytesLess,h1]
  ·by_cases h2:b<a
   ·have:¬ a=b:=fun e=>by rw [UInt8.lt_iff_toNat_lt,e] at h2;omega
    simp[Op.bytesLess,h1,h2,this]
   ·have e:=u8_tri a b h1 h2
    subst e
    simp[Op.bytesLess,h1,ih]
theorem jp6(a b:List UInt8):(Lib.compareBytes a b<0)↔Op.bytesLess a b=true:=by
 rw[cmp_bl]
 cases h:Op.bytesLess a b
 ·cases h2:Op.bytesLess b a <;> simp
 ·simp
theorem qq8(a b:List UInt8):(Lib.compareBytes a b=0)↔a=b:=by
 rw[cmp_bl]
 constructor
 ·intro h
  cases h1:Op.bytesLess a b
  ·cases h2:Op.bytesLess b a
   ·exact bl_tri a b h1 h2
   ·rw [h1,h2] at h;simp at h
  ·rw [h1] at h;simp at h
 ·rintro rfl;rw[qu7];rfl
structure Firsts(F:List UInt8→List UInt8)(xs D:List (List UInt8)):Prop where
 rise:D.Pairwise (fun a b=>Op.bytesLess (F a) (F b)=true)
 mem:∀ x,x ∈ D↔∃ i:Nat,xs[i]? = some x∧∀ (j:Nat) (y:List UInt8),j<i→xs[j]? = some y→F y≠F x
theorem rise_uniq(F:List UInt8→List UInt8):∀ (A B:List (List UInt8)),A.Pairwise (fun a b=>Op.bytesLess (F a) (F b)=true)→B.Pairwise (fun a b=>Op.bytesLess (F a) (F b)=true)→(∀ x,x ∈ A↔x ∈ B)→A=B
 |[],[]=>fun _ _ _=>rfl
 |[],b :: B=>fun _ _ h=>by have:=(h b).2 (by simp);simp at this
 |a :: A,[]=>fun _ _ h=>by have:=(h a).1 (by simp);simp at this
 |a :: A,b :: B=>fun hA hB h=>by
  obtain⟨a1,a2⟩:=List.pairwise_cons.1 hA
  obtain⟨b1,b2⟩:=List.pairwise_cons.1 hB
  have e:a=b:=by
   rcases List.mem_cons.1 ((h a).1 (by simp)) with e|e
   ·exact e
   ·rcases List.mem_cons.1 ((h b).2 (by simp)) with e'|e'
    ·exact e'.symm
    ·have:=bl_asym _ _ (b1 a e)
     rw [a1 b e'] at this;cases this
  subst e
  have:A=B:=rise_uniq F A B a2 b2 fun x=>by
   constructor
   ·intro hx
    rcases List.mem_cons.1 ((h x).1 (List.mem_cons_of_mem _ hx)) with e|e
    ·subst e;have:=a1 x hx;rw [qu7] at this;cases this
    ·exact e
   ·intro hx
    rcases List.mem_cons.1 ((h x).2 (List.mem_cons_of_mem _ hx)) with e|e
    ·subst e;have:=b1 x hx;rw [qu7] at this;cases this
    ·exact e
  rw[this]
theorem Firsts.uniq{F:List UInt8→List UInt8}{xs A B:List (List UInt8)}(h:Firsts F xs A)(k:Firsts F xs B):A=B :=
 rise_uniq F A B h.rise k.rise fun x=>(h.mem x).trans (k.mem x).symm
theorem Firsts.self{F:List UInt8→List UInt8}{xs:List (List UInt8)}(h:xs.Pairwise (fun a b=>Op.bytesLess (F a) (F b)=true)):Firsts F xs xs:=by
 refine⟨h,fun x=>⟨fun hx=>?_,fun⟨i,hi,_⟩=>List.mem_of_getElem? hi⟩⟩
 obtain⟨i,hi⟩:=List.getElem?_of_mem hx
 refine⟨i,hi,fun j y hj hy e=>?_⟩
 obtain⟨hi1,rfl⟩:=List.getElem?_eq_some_iff.1 hi
 obtain⟨hj1,rfl⟩:=List.getElem?_eq_some_iff.1 hy
 have:=List.pairwise_iff_getElem.1 h j i hj1 hi1 hj
 rw [e,qu7] at this;cases this
theorem Firsts.cover{F:List UInt8→List UInt8}{xs D:List (List UInt8)}(h:Firsts F xs D):∀ (i:Nat) (y:List UInt8),xs[i]? = some y→∃ a ∈ D,F a=F y:=by
 intro i
 induction i using Nat.strongRecOn with
 |_ i ih =>
  intro y hy
  by_cases hx:∃ j z,j<i∧xs[j]? = some z∧F z=F y
  ·obtain⟨j,z,hj,hz,e⟩:=hx
   obtain⟨a,ha,e2⟩:=ih j hj z hz
   exact⟨a,ha,e2.trans e⟩
  ·exact⟨y,(h.mem y).2 ⟨i,hy,fun j z hj hz e=>hx ⟨j,z,hj,hz,e⟩⟩,rfl⟩
theorem Firsts.from{F:List UInt8→List UInt8}{xs D:List (List UInt8)}(h:Firsts F xs D){a:List UInt8}(ha:a ∈ D):∃ i:Nat,xs[i]? = some a:=by
 obtain⟨i,hi,_⟩:=(h.mem a).1 ha
 exact⟨i,hi⟩
theorem Firsts.skip{F:List UInt8→List UInt8}{xs D:List (List UInt8)}(h:Firsts F xs D){x a:List UInt8}(ha:a ∈ D)(e:F a=F x):Firsts F (xs++[x]) D:=by
 refine⟨h.rise,fun z=>(h.mem z).trans ⟨fun⟨i,hi,hf⟩=>?_,fun⟨i,hi,hf⟩=>?_⟩⟩
 ·have hil:=(List.getElem?_eq_some_iff.1 hi).1
  refine⟨i,by rw[List.getElem?_append_left hil];exact hi,fun j y hj hy=>hf j y hj ?_⟩
  rwa [List.getElem?_append_left (by omega)] at hy
 ·rcases Nat.lt_or_ge i xs.length with hl|hl
  ·rw [List.getElem?_append_left hl] at hi
   exact⟨i,hi,fun j y hj hy=>hf j y hj (by rw[List.getElem?_append_left (by omega)];exact hy)⟩
  ·exfalso
   obtain⟨q,hq⟩:=h.from ha
   have hql:=(List.getElem?_eq_some_iff.1 hq).1
   have hx:z=x:=by
    rw [List.getElem?_append_right hl] at hi
    have:i - xs.length=0:=by
     rcases Nat.eq_zero_or_pos (i - xs.length) with h|h
     ·exact h
     ·rw [List.getElem?_eq_none (by simp;omega)] at hi;cases hi
    rw [this] at hi
    exact(Option.some.inj hi).symm
   refine hf q a (by omega) (by rw[List.getElem?_append_left hql];exact hq) (by rw[hx];exact e)
theorem Firsts.put{F:List UInt8→List UInt8}{xs A B:List (List UInt8)}(h:Firsts F xs (A++B)){x:List UInt8}(hA:∀ a ∈ A,Op.bytesLess (F a) (F x)=true)(hB:∀ b ∈ B,Op.bytesLess (F x) (F b)=true):Firsts F (xs++[x]) (A++x :: B):=by
 have hr:=List.pairwise_append.1 h.rise
 have hno:∀ i y,xs[i]? = some y→F y≠F x:=fun i y hy e=>by
  obtain⟨a,ha,e2⟩:=h.cover i y hy
  rcases List.mem_append.1 ha with ha|ha
  ·have:=hA a ha;rw [e2,e,qu7] at this;cases this
  ·have:=hB a ha;rw [e2,e,qu7] at this;cases this
 refine⟨?_,fun z=>?_⟩
 ·refine List.pairwise_append.2 ⟨hr.1,List.pairwise_cons.2 ⟨hB,hr.2.1⟩,fun a ha b hb=>?_⟩
  rcases List.mem_cons.1 hb with rfl|hb
  ·exact hA a ha
  ·exact hr.2.2 a ha b hb
 ·have:z ∈ A++x :: B↔z ∈ A++B∨z=x:=by
   simp only[List.mem_append,List.mem_cons]
   constructor
   ·rintro (h|h|h)
    ·exact .inl (.inl h)
    ·exact .inr h
    ·exact .inl (.inr h)
   ·rintro ((h|h)|h)
    ·exact .inl h
    ·exact .inr (.inr h)
    ·exact .inr (.inl h)
  rw[this,h.mem z]
  constructor
  ·rintro (⟨i,hi,hf⟩|rfl)
   ·have hil:=(List.getElem?_eq_some_iff.1 hi).1
    refine⟨i,by rw[List.getElem?_append_left hil];exact hi,fun j y hj hy=>hf j y hj ?_⟩
    rwa [List.getElem?_append_left (by omega)] at hy
   ·refine⟨xs.length,by simp,fun j y hj hy=>hno j y ?_⟩
    rwa [List.getElem?_append_left hj] at hy
  ·rintro ⟨i,hi,hf⟩
   rcases Nat.lt_or_ge i xs.length with hl|hl
   ·left
    rw [List.getElem?_append_left hl] at hi
    exact⟨i,hi,fun j y hj hy=>hf j y hj (by rw[List.getElem?_append_left (by omega)];exact hy)⟩
   ·right
    rw [List.getElem?_append_right hl] at hi
    have:i - xs.length=0:=by
     rcases Nat.eq_zero_or_pos (i - xs.length) with h|h
     ·exact h
     ·rw [List.getElem?_eq_none (by simp;omega)] at hi;cases hi
    rw [this] at hi
    exact(Option.some.inj hi).symm
theorem Firsts.len{F:List UInt8→List UInt8}{xs D:List (List UInt8)}(h:Firsts F xs D)(hx:xs≠[]):0<D.length:=by
 cases xs with
 |nil=>exact absurd rfl hx
 |cons x l =>
  obtain⟨a,ha,_⟩:=h.cover 0 x rfl
  exact List.length_pos_of_mem ha
end Go.Proofs.YtdfdlbnojmlpiaaGreatDoor
namespace Go.Proofs.YtdfdlbnojmlpiaaGreatDoor
open Go Go.Eng
set_option maxRecDepth 100000
def pls(l:List RR):Nat→List DV:=fun j=>(l.getD j default).pl
def rrs(l:List RR):Nat→List DV:=fun i=>(l.getD i default).enc
theorem pls_cat(l:List RR)(r:RR):∀ i,i<l.length+1→catF l.length (pls l) (qh1 r.pl 9) i=pls (l++[r]) i:=fun i hi=>by
 unfold catF pls
 split
 ·rename_i h
  congr 1
  rw[List.getD_eq_getElem?_getD,List.getD_eq_getElem?_getD,List.getElem?_append_left h]
 ·have:i=l.length:=by omega
  subst this
  rw[Nat.sub_self,List.getD_eq_getElem?_getD,List.getElem?_append_right (Nat.le_refl _),Nat.sub_self]
  rfl
set_option maxHeartbeats 8000000 in
theorem rsort_cok(z:Bool)(l m:List RR)(hn:l.length≤100000)(hw:Weak (l.filter RR.check).length (ltC (cR (l.filter RR.check))))
 (hm:∀ q:Nat→Nat,Inj (l.filter RR.check).length q→Rise (LL (ltC (cR (l.filter RR.check)))) q 0 (l.filter RR.check).length→((List.range (l.filter RR.check).length).map fun i=>(l.filter RR.check).getD (q i) default)=m) :
 COk Tryz.prog 23 [.d (rrsD z l)] [] (fun s k=>s = .all 0∧k=[.row 44 5 m.length .no (rrs m)]):=by
 refine qc4 (TT:=TT) (IN:=qc2 [(60,Tryz.f60,2)]) qc5 (qb8 qa1 Tryz.func60 (by kernel_rfl) (by kernel_rfl)) mixed 1000 Tryz.func23 rfl (qa8 Tryz.func23 (by kernel_rfl) rfl) 38 (by kernel_rfl) ?_
 conv=>whnf
 refine .nilC 0 0 120 9 (pls []) _ _ _ _ rfl rfl ?_
 conv=>whnf
 refine .inv Nat (fun i=>i≤l.length) (fun i=>[(13,iV i)]) (fun i=>[(0,.cells 121 [.all 1]),(1,.row 120 9 ((l.take i).filter RR.check).length .iff (pls ((l.take i).filter RR.check)))]) (fun i=>l.length - i) ⟨0,[0,1],Nat.zero_le _,?_⟩ ?_
 ·conv=>whnf
  repeat'(first|exact ⟨⟩|exact rfl|exact qa2 _|exact Or.inr rfl|exact fun _ _=>rfl|exact fun _ h=>absurd h (Nat.not_lt_zero _)|apply And.intro)
 intro i hi
 conv=>whnf
 have hfl:((l.take i).filter RR.check).length≤i:=Nat.le_trans (List.length_filter_le _ _) (by rw[List.length_take];omega)
 refine⟨fun h1=>?_,fun h1=>?_⟩
 ·have h1:i<l.length:=by
   have h:(i:Int)<l.length:=of_decide_eq_true h1
   omega
  obtain⟨r,hr⟩:∃ r,l.getD i default=r:=⟨_,rfl⟩
  have htk:l.take (i+1)=l.take i++[r]:=by rw[List.take_add_one,←hr,List.getD,List.getElem?_eq_getElem h1];rfl
  have hw1:IntKind.i64.wrap ((i:Int)+1)=((i+1:Nat):Int):=by rw[qa4 _ (by omega)];omega
  conv=>whnf
  refine⟨by omega,?_⟩
  conv=>whnf
  rw[Int.toNat_natCast,hr]
  refine .one (.data _ (qh6 r) rfl rfl ?_)
  cases hck:r.check with
  |false =>
   have hf:(l.take (i+1)).filter RR.check=(l.take i).filter RR.check:=by rw[htk,List.filter_append];simp[hck]
   conv=>whnf
   repeat(first|(refine brF rfl ?_;conv=>whnf)|(refine brT rfl ?_;conv=>whnf))
   rw[hw1]
   refine⟨i+1,[0,1],h1,by omega,?_⟩
   rw[hf]
   conv=>whnf
   repeat'(first|exact ⟨⟩|exact rfl|exact qa2 _|exact Or.inr rfl|exact fun _ _=>rfl|exact fun _ h=>absurd h (Nat.not_lt_zero _)|apply And.intro)
  |true =>
   have hf:(l.take (i+1)).filter RR.check=(l.take i).filter RR.check++[r]:=by rw[htk,List.filter_append];simp[hck]
   conv=>whnf
   repeat(first|(refine brF rfl ?_;conv=>whnf)|(refine brT rfl ?_;conv=>whnf))
   refine .data _ (qv2 r (by have:=jn3 hck;omega)) rfl rfl ?_
   conv=>whnf
   refine⟨by omega,?_⟩
   conv=>whnf
   rw[hw1]
   refine⟨i+1,[0,5],h1,by omega,?_⟩
   rw[hf]
   conv=>whnf
   repeat'(first|exact ⟨⟩|exact rfl|exact qa2 _|exact Or.inr rfl|exact fun _ _=>rfl|exact fun _ h=>absurd h (Nat.not_lt_zero _)|apply And.intro)
   all_goals first
    |(show _+1=(_++[_]).length;simp)
    |exact pls_cat _ r
 ·have h1:i=l.length:=by
   have h:¬ (i:Int)<l.length:=of_decide_eq_false h1
   omega
  subst h1
  rw[List.take_length]
  conv=>whnf
  refine .rel _ (COk.frameX (sort_ok (l.filter RR.check) (l.filter RR.check).length (by have:=List.length_filter_le RR.check l;omega) .iff hw) [1] rfl rfl rfl) (fun r ks' hR=>?_)
  obtain⟨_,_,⟨rfl,q,hq,hrise,rfl⟩,rfl,hk0⟩:=hR
  have hm:=hm q hq hrise
  have hnl:=List.length_filter_le RR.check l
  generalize l.filter RR.check=L at hw hm hq hrise hk0 hnl ⊢
  have hk:ks'=[.cells 121 [.all 1],rowP L L.length .iff q]:=hk0
  clear hk0
  subst hk
  conv=>whnf
  refine⟨by omega,?_⟩
  conv=>whnf
  have hml:m.length=L.length:=by rw[←hm];simp
  have hmi:∀ i,i<L.length→m.getD i default=L.getD (q i) default:=fun i hi=>by
   rw[←hm,List.getD_eq_getElem?_getD,List.getElem?_map,List.getElem?_range hi]
   rfl
  refine .inv Nat (fun i=>i≤L.length) (fun i=>[(7,.all 2),(25,.any),(28,iV i)]) (fun i=>[(2,.row 44 5 i .no (rrs m))]) (fun i=>L.length - i) ⟨0,[0,1,2],Nat.zero_le _,?_⟩ ?_
  ·conv=>whnf
   repeat'(first|exact ⟨⟩|exact rfl|exact qa2 _|exact Or.inr rfl|exact fun _ _=>rfl|exact fun _ h=>absurd h (Nat.not_lt_zero _)|apply And.intro)
  intro i hi
  conv=>whnf
  refine⟨fun h2=>?_,fun h2=>?_⟩
  ·have h2:i<L.length:=by
    have h:(i:Int)<L.length:=of_decide_eq_true h2
    omega
   have hw1:IntKind.i64.wrap ((i:Int)+1)=((i+1:Nat):Int):=by rw[qa4 _ (by omega)];omega
   conv=>whnf
   refine⟨by omega,?_⟩
   conv=>whnf
   rw[Int.toNat_natCast]
   refine⟨by omega,?_⟩
   conv=>whnf
   rw[hw1]
   refine⟨i+1,[0,1,5],h2,by omega,?_⟩
   conv=>whnf
   repeat'(first|exact ⟨⟩|exact rfl|exact qa2 _|exact Or.inr rfl|exact fun _ _=>rfl|exact fun _ h=>absurd h (Nat.not_lt_zero _)|apply And.intro)
   intro j hj
   unfold catF
   split
   ·rfl
   ·have:j=i:=by omega
    subst this
    unfold rrs
    rw[Nat.sub_self,hmi j h2]
    rfl
  ·have h2:i=L.length:=by
    have h:¬ (i:Int)<L.length:=of_decide_eq_false h2
    omega
   subst h2
   conv=>whnf
   refine⟨[2],.all 0,[.row 44 5 L.length .no (rrs m)],rfl,rfl,?_,?_,rfl,by rw[hml]⟩
   ·exact rfl
   ·conv=>whnf
    repeat'(first|exact ⟨⟩|exact rfl|exact qa2 _|exact Or.inr rfl|exact fun _ _=>rfl|exact fun _ h=>absurd h (Nat.not_lt_zero _)|apply And.intro)
theorem rsort_new(z:Bool)(l m:List RR)(hn:l.length≤100000)(hw:Weak (l.filter RR.check).length (ltC (cR (l.filter RR.check))))
 (hm:∀ q:Nat→Nat,Inj (l.filter RR.check).length q→Rise (LL (ltC (cR (l.filter RR.check)))) q 0 (l.filter RR.check).length→((List.range (l.filter RR.check).length).map fun i=>(l.filter RR.check).getD (q i) default)=m) :
 FnNew Tryz.prog 23 [.d (rrsD z l)] (.d (rrsD false m)) :=
 FnNew.of_cok (rsort_cok z l m hn hw hm) (fun i j d _ hd=>by
  have:j<5:=(List.getElem?_eq_some_iff.1 hd).1
  match j,this,hd with
  |0,_,hd=>cases hd;rfl
  |1,_,hd=>cases hd;rfl
  |2,_,hd=>cases hd;rfl
  |3,_,hd=>cases hd;rfl
  |4,_,hd=>cases hd;rfl)
end Go.Proofs.YtdfdlbnojmlpiaaGreatDoor
namespace Go.Proofs.YtdfdlbnojmlpiaaGreatDoor
open Go Go.Eng
theorem low_low(b:UInt8):low (low b)=low b:=by
 have:∀ n:Nat,n<256→low (low (UInt8.ofNat n))=low (UInt8.ofNat n):=by decide +kernel
 have:=this b.toNat b.toNat_lt
 rwa [UInt8.ofNat_toNat] at this
theorem jo6(s:List UInt8):fold (fold s)=fold s:=by
 unfold fold
 rw[List.map_map]
 exact List.map_congr_left fun b _=>low_low b
structure Cw{α:Type}(P:α→Prop)(c:α→α→Int):Prop where
 anti:∀ a b,P a→P b→(c a b<0↔0<c b a)
 trans:∀ a b d,P a→P b→P d→c a b≤0→c b d≤0→c a d≤0
def lx(x y:Int):Int:=if x≠0 then x else y
theorem or3_lx(x y z:Int):or3 x y z=lx x (lx y z):=rfl
theorem Cw.refl{α:Type}{P:α→Prop}{c:α→α→Int}(h:Cw P c)(a:α)(ha:P a):c a a=0:=by
 have:=h.anti a a ha ha
 omega
theorem Cw.lt_le{α:Type}{P:α→Prop}{c:α→α→Int}(h:Cw P c){a b d:α}(ha:P a)(hb:P b)(hd:P d)(h1:c a b≤0)(h2:c b d<0):c a d<0:=by
 have a1:=h.anti a d ha hd
 have a2:=h.anti b d hb hd
 have a3:=h.anti d a hd ha
 have:=h.trans d a b hd ha hb
 have a4:=h.anti d b hd hb
 omega
theorem Cw.le_lt{α:Type}{P:α→Prop}{c:α→α→Int}(h:Cw P c){a b d:α}(ha:P a)(hb:P b)(hd:P d)(h1:c a b<0)(h2:c b d≤0):c a d<0:=by
 have a1:=h.anti a d ha hd
 have a2:=h.anti a b ha hb
 have a3:=h.anti d a hd ha
 have:=h.trans b d a hb hd ha
 have a4:=h.anti b a hb ha
 omega
theorem Cw.lex{α:Type}{P:α→Prop}{c1 c2:α→α→Int}(h1:Cw P c1)(h2:Cw P c2):Cw P (fun a b=>lx (c1 a b) (c2 a b)) where
 anti a b ha hb:=by
  have a1:=h1.anti a b ha hb
  have a2:=h1.anti b a hb ha
  have a3:=h2.anti a b ha hb
  simp only[lx]
  split <;> split <;> omega
 trans a b d ha hb hd:=by
  have t1:=h1.trans a b d ha hb hd
  have t2:=h2.trans a b d ha hb hd
  have t3:=@Cw.lt_le _ _ _ h1 a b d ha hb hd
  have t4:=@Cw.le_lt _ _ _ h1 a b d ha hb hd
  simp only[lx]
  split <;> split <;> split <;> omega
theorem Cw.map{α β:Type}{P:α→Prop}{Q:β→Prop}{c:β→β→Int}(h:Cw Q c)(f:α→β)(hf:∀ a,P a→Q (f a)):Cw P (fun a b=>c (f a) (f b)) :=
 ⟨fun a b ha hb=>h.anti _ _ (hf a ha) (hf b hb),fun a b d ha hb hd=>h.trans _ _ _ (hf a ha) (hf b hb) (hf d hd)⟩
theorem Cw.sgn{α:Type}{P:α→Prop}{c c':α→α→Int}(h:Cw P c)(hs:∀ a b,P a→P b→(c' a b<0↔c a b<0)∧(c' a b=0↔c a b=0)):Cw P c' where
 anti a b ha hb:=by
  have:=h.anti a b ha hb
  have:=hs a b ha hb
  have:=hs b a hb ha
  omega
 trans a b d ha hb hd:=by
  have:=h.trans a b d ha hb hd
  have:=hs a b ha hb
  have:=hs b d hb hd
  have:=hs a d ha hd
  omega
theorem cw_int:Cw (fun _=>True) cmpI where
 anti a b _ _:=by unfold cmpI;split <;> (try split) <;> (try split) <;> omega
 trans a b d _ _ _:=by
  unfold cmpI;repeat' split
  all_goals omega
theorem qs4{x y:Int}(h:cmpI x y=0):x=y:=by
 unfold cmpI at h
 split at h
 ·omega
 ·split at h <;> omega
theorem cw_bytes:Cw (fun _=>True) Lib.compareBytes where
 anti a b _ _:=by
  have h1:=jp6 a b
  have h2:=jp6 b a
  have h3:=qq8 b a
  constructor
  ·intro h
   have e1:=h1.1 h
   have e2:=bl_asym a b e1
   have:¬ Lib.compareBytes b a<0:=fun h=>by rw [h2.1 h] at e2;cases e2
   have:¬ Lib.compareBytes b a=0:=fun h=>by rw [h3.1 h,qu7] at e1;cases e1
   omega
  ·intro h
   apply h1.2
   cases e:Op.bytesLess a b
   ·have:Op.bytesLess b a=false:=by
     cases e2:Op.bytesLess b a
     ·rfl
     ·have:=h2.2 e2;omega
    have:=h3.2 (bl_tri b a this e)
    omega
   ·rfl
 trans a b d _ _ _ h1 h2:=by
  have c1:=jp6 d a
  have hle:∀ x y:List UInt8,Lib.compareBytes x y≤0→Op.bytesLess y x=false:=fun x y h=>by
   cases e:Op.bytesLess y x
   ·rfl
   ·rcases Int.lt_or_eq_of_le h with h|h
    ·have:=bl_asym x y ((jp6 x y).1 h);rw [this] at e;cases e
    ·rw [(qq8 x y).1 h,qu7] at e;cases e
  have e:=bl_ntrans d b a (hle b d h2) (hle a b h1)
  cases e2:Op.bytesLess a d
  ·have:=(qq8 a d).2 (bl_tri a d e2 e);omega
  ·have:=(jp6 a d).2 e2;omega
theorem cmpS_eq(a b:List UInt8):(cmpS a b<0↔Lib.compareBytes a b<0)∧(cmpS a b=0↔Lib.compareBytes a b=0):=by
 have h1:=jp6 a b
 have h2:=qq8 a b
 unfold cmpS
 rw[h1,h2]
 cases e:Op.bytesLess a b
 ·simp only[Bool.false_eq_true,if_false]
  split <;> simp_all
 ·have:¬ a=b:=fun h=>by rw [h,qu7] at e;cases e
  simp[this]
theorem cw_S:Cw (fun _=>True) cmpS:=cw_bytes.sgn fun a b _ _=>cmpS_eq a b
theorem cmpS_zero{a b:List UInt8}(h:cmpS a b=0):a=b:=(qq8 a b).1 ((cmpS_eq a b).2.1 h)
theorem jg2:∀ l m:List (List UInt8),qg1 l m<0↔0<qg1 m l
 |[],[]=>by simp[qg1]
 |[],_ :: _=>by simp[qg1]
 |_ :: _,[]=>by simp[qg1]
 |a :: l,b :: m=>by
  have ih:=jg2 l m
  have h1:=cw_S.anti a b trivial trivial
  have h2:=cw_S.anti b a trivial trivial
  simp only[qg1]
  split <;> split <;> omega
theorem jp7:∀ l m n:List (List UInt8),qg1 l m≤0→qg1 m n≤0→qg1 l n≤0
 |[],_,[]=>by simp[qg1]
 |[],_,_ :: _=>by simp[qg1]
 |_ :: _,[],_=>by simp[qg1]
 |_ :: _,_ :: _,[]=>by simp[qg1]
 |a :: l,b :: m,c :: n=>by
  have ih:=jp7 l m n
  have t1:=cw_S.trans a b c trivial trivial trivial
  have t3:=@Cw.lt_le _ _ _ cw_S a b c trivial trivial trivial
  have t4:=@Cw.le_lt _ _ _ cw_S a b c trivial trivial trivial
  simp only[qg1]
  split <;> split <;> split <;> omega
theorem jv8:∀ {l m:List (List UInt8)},qg1 l m=0→l=m
 |[],[],_=>rfl
 |[],_ :: _,h=>by simp [qg1] at h
 |_ :: _,[],h=>by simp [qg1] at h
 |a :: l,b :: m,h=>by
  simp only [qg1] at h
  split at h
  ·omega
  ·rename_i h1
   rw[cmpS_zero (a:=a) (b:=b) (by omega),jv8 h]
theorem cmpLL_refl(l:List (List UInt8)):qg1 l l=0:=by
 have:=jg2 l l
 omega
theorem cw_LL:Cw (fun _=>True) qg1:=⟨fun a b _ _=>jg2 a b,fun a b d _ _ _=>jp7 a b d⟩
def jf3(r:RR):Prop:=qb2 r.nm
def cN(a b:RR):Int:=if fold a.nm≠fold b.nm then (if qj0 (fold a.nm) (fold b.nm) then -1 else 1) else 0
theorem cN_eq(a b:RR)(ha:jf3 a)(hb:jf3 b):(cN a b<0↔qg1 (qj6 (fold a.nm)) (qj6 (fold b.nm))<0)∧(cN a b=0↔qg1 (qj6 (fold a.nm)) (qj6 (fold b.nm))=0):=by
 have ha':qb2 (fold a.nm):=qj9 ha
 have hb':qb2 (fold b.nm):=qj9 hb
 have hw:qj0 (fold a.nm) (fold b.nm)=decide (qg1 (qj6 (fold a.nm)) (qj6 (fold b.nm))<0):=by
  unfold qj0
  rw[decide_eq_true ha',decide_eq_true hb']
  rfl
 unfold cN
 by_cases e:fold a.nm=fold b.nm
 ·rw[if_neg (fun h=>h e),e,cmpLL_refl]
  simp
 ·rw[if_pos e,hw]
  have:qg1 (qj6 (fold a.nm)) (qj6 (fold b.nm))≠0:=fun h=>e (by
   have h2:=jv8 h
   have e1:fl (fold a.nm)=fl (fold b.nm):=by
    have:=congrArg List.reverse h2
    unfold qj6 at this
    rwa [List.reverse_reverse,List.reverse_reverse] at this
   obtain⟨_,_,a3⟩:=qo8 ha'
   obtain⟨_,_,b3⟩:=qo8 hb'
   have e2:fold (fold a.nm)=fold (fold b.nm):=(fold_eq_fl ha' hb').2 e1
   rwa [jo6,jo6] at e2)
  by_cases h:qg1 (qj6 (fold a.nm)) (qj6 (fold b.nm))<0
  ·rw[decide_eq_true h,if_pos rfl]
   omega
  ·rw[decide_eq_false h,if_neg (by decide)]
   omega
theorem cw_N:Cw jf3 cN:=((cw_LL.map (fun r:RR=>qj6 (fold r.nm)) (fun _ _=>trivial)):Cw jf3 _).sgn cN_eq
def ord7(a b:RR):Int:=lx (cN a b) (lx (cmpI a.ty b.ty) (lx (cmpI a.cl b.cl) (lx (Lib.compareBytes (qi4 a.ty a.d) (qi4 b.ty b.d)) (lx (Lib.compareBytes a.nm b.nm) (lx (Lib.compareBytes a.d b.d) (cmpI a.ttl b.ttl))))))
theorem cw_7:Cw jf3 ord7 :=
 cw_N.lex ((cw_int.map (fun r:RR=>r.ty) (fun _ _=>trivial)).lex ((cw_int.map (fun r:RR=>r.cl) (fun _ _=>trivial)).lex ((cw_bytes.map (fun r:RR=>qi4 r.ty r.d) (fun _ _=>trivial)).lex ((cw_bytes.map (fun r:RR=>r.nm) (fun _ _=>trivial)).lex ((cw_bytes.map (fun r:RR=>r.d) (fun _ _=>trivial)).lex (cw_int.map (fun r:RR=>r.ttl) (fun _ _=>trivial)))))))
theorem jp8(x:Int):cmpI x x=0:=by simp[cmpI]
theorem cmpB_self(x:List UInt8):Lib.compareBytes x x=0:=(qq8 x x).2 rfl
theorem jn5(y:Int):lx 0 y=y:=rfl
theorem jf4{x y:Int}(h:x≠0):lx x y=x:=if_pos h
theorem lx_eq{x y:Int}(h:lx x y=0):x=0∧y=0:=by
 unfold lx at h
 split at h <;> omega
theorem ord_7(a b:RR):ordR a b=ord7 a b:=by
 unfold ordR ord7 cN
 cases hs:a.same b with
 |true =>
  unfold RR.same at hs
  obtain⟨h1,h2,h3,h4⟩:=of_decide_eq_true hs
  rw[if_pos rfl,if_neg (fun h=>h h1),h2,h3,jp8,jp8]
  rw [h2] at h4
  rw[h4,cmpB_self]
  rfl
 |false =>
  rw[if_neg (by decide)]
  by_cases hn:fold a.nm=fold b.nm
  ·rw[if_neg (fun h=>h hn),if_neg (fun h=>h hn),jn5,or3_lx]
   by_cases h2:cmpI a.ty b.ty=0
   ·rw[h2,jn5,jn5]
    by_cases h3:cmpI a.cl b.cl=0
    ·rw[h3,jn5,jn5]
     have h4:Lib.compareBytes (qi4 a.ty a.d) (qi4 b.ty b.d)≠0:=fun h4=>by
      unfold RR.same at hs
      exact of_decide_eq_false hs ⟨hn,qs4 h2,qs4 h3,(qq8 _ _).1 h4⟩
     rw[jf4 h4]
    ·rw[jf4 h3,jf4 h3]
   ·rw[jf4 h2,jf4 h2]
  ·rw[if_pos hn,if_pos hn,jf4]
   split <;> decide
theorem cw_ord:Cw jf3 ordR:=cw_7.sgn fun a b _ _=>by rw[ord_7];exact⟨Iff.rfl,Iff.rfl⟩
theorem ord_zero{a b:RR}(h:ordR a b=0):a=b:=by
 rw [ord_7] at h
 unfold ord7 at h
 obtain⟨_,h⟩:=lx_eq h
 obtain⟨h1,h⟩:=lx_eq h
 obtain⟨h2,h⟩:=lx_eq h
 obtain⟨_,h⟩:=lx_eq h
 obtain⟨h3,h⟩:=lx_eq h
 obtain⟨h4,h5⟩:=lx_eq h
 obtain⟨n,y,c,t,d⟩:=a
 obtain⟨n',y',c',t',d'⟩:=b
 have:=qs4 h1
 have:=qs4 h2
 have:=qs4 h5
 have:=(qq8 _ _).1 h3
 have:=(qq8 _ _).1 h4
 simp_all
theorem weak_ord(l:List RR):Weak (l.filter RR.check).length (ltC (cR (l.filter RR.check))):=by
 have hP:∀ i,i<(l.filter RR.check).length→jf3 ((l.filter RR.check).getD i default):=fun i hi=>by
  rw[List.getD_eq_getElem?_getD,List.getElem?_eq_getElem hi]
  exact qg4 (List.mem_filter.1 (List.getElem_mem hi)).2
 generalize l.filter RR.check=L at hP ⊢
 unfold ltC cR
 refine⟨fun i j hi hj h=>?_,fun i j k hi hj hk h1 h2=>?_,fun i j k hi hj hk h1 h2=>?_⟩
 ·have a1:=cw_ord.anti _ _ (hP i hi) (hP j hj)
  have:=of_decide_eq_true h
  exact decide_eq_false (by omega)
 ·have a1:=@Cw.lt_le _ _ _ cw_ord _ _ _ (hP i hi) (hP j hj) (hP k hk)
  have h1:=of_decide_eq_true h1
  have h2:=of_decide_eq_true h2
  exact decide_eq_true (a1 (by omega) h2)
 ·have a1:=cw_ord.anti _ _ (hP i hi) (hP j hj)
  have a2:=cw_ord.anti _ _ (hP j hj) (hP k hk)
  have a3:=cw_ord.anti _ _ (hP i hi) (hP k hk)
  have b1:=cw_ord.anti _ _ (hP j hj) (hP i hi)
  have b2:=cw_ord.anti _ _ (hP k hk) (hP j hj)
  have b3:=cw_ord.anti _ _ (hP k hk) (hP i hi)
  have a4:=cw_ord.trans _ _ _ (hP k hk) (hP j hj) (hP i hi)
  have h1:=of_decide_eq_false h1
  have h2:=of_decide_eq_false h2
  exact decide_eq_false (by omega)
def jd1(r:RR):List RR→List RR
 |[]=>[r]
 |x :: l=>if ordR r x<0 then r :: x :: l else x :: jd1 r l
def qh3(l:List RR):List RR:=(l.filter RR.check).foldl (fun o r=>jd1 r o) []
def qk2(l:List RR):Prop:=l.Pairwise fun a b=>ordR a b≤0
theorem jz8(r:RR):∀ l:List RR,(jd1 r l).Perm (r :: l)
 |[]=>.refl _
 |x :: l=>by
  unfold jd1
  split
  ·exact .refl _
  ·exact((jz8 r l).cons x).trans (.swap r x l)
theorem ju7{r:RR}(hr:jf3 r):∀ {l:List RR},(∀ x ∈ l,jf3 x)→qk2 l→qk2 (jd1 r l)
 |[],_,_=>by simp[jd1,qk2]
 |x :: l,hl,hs=>by
  have hx:=hl x (by simp)
  have hl':=fun y (hy:y ∈ l)=>hl y (by simp[hy])
  unfold qk2 at hs
  rw [List.pairwise_cons] at hs
  unfold jd1
  split
  ·rename_i h
   unfold qk2
   rw[List.pairwise_cons,List.pairwise_cons]
   refine⟨fun y hy=>?_,hs⟩
   rcases List.mem_cons.1 hy with rfl|hy
   ·omega
   ·exact cw_ord.trans r x y hr hx (hl' y hy) (by omega) (hs.1 y hy)
  ·rename_i h
   unfold qk2
   rw[List.pairwise_cons]
   refine⟨fun y hy=>?_,ju7 hr hl' hs.2⟩
   rcases List.mem_cons.1 ((jz8 r l).mem_iff.1 hy) with rfl|hy
   ·have:=cw_ord.anti y x hr hx
    have:=cw_ord.anti x y hx hr
    omega
   ·exact hs.1 y hy
theorem fold_ins:∀ (l o:List RR),(∀ x ∈ l,jf3 x)→(∀ x ∈ o,jf3 x)→qk2 o→qk2 (l.foldl (fun o r=>jd1 r o) o)∧(l.foldl (fun o r=>jd1 r o) o).Perm (o++l)
 |[],o,_,_,hs=>⟨hs,by simp⟩
 |r :: l,o,hl,ho,hs=>by
  have hr:=hl r (by simp)
  have hp:=jz8 r o
  obtain⟨h1,h2⟩:=fold_ins l (jd1 r o) (fun x hx=>hl x (by simp[hx])) (fun x hx=>by
   rcases List.mem_cons.1 (hp.mem_iff.1 hx) with rfl|hx
   ·exact hr
   ·exact ho x hx) (ju7 hr ho hs)
  refine⟨h1,h2.trans ?_⟩
  refine(hp.append_right l).trans ?_
  rw[List.cons_append]
  exact List.perm_middle.symm
theorem jl5(l:List RR):qk2 (qh3 l)∧(qh3 l).Perm (l.filter RR.check):=by
 have:=fold_ins (l.filter RR.check) [] (fun x hx=>qg4 (List.mem_filter.1 hx).2) (fun x hx=>by cases hx) (by simp[qk2])
 rw [List.nil_append] at this
 exact this
theorem js7:∀ {l m:List RR},(∀ x ∈ l,jf3 x)→l.Perm m→qk2 l→qk2 m→l=m
 |[],m,_,hp,_,_=>by rw[List.nil_perm.1 hp]
 |a :: l,[],_,hp,_,_=>by have:=hp.length_eq;simp at this
 |a :: l,b :: m,hn,hp,h1,h2=>by
  have hab:a=b:=by
   unfold qk2 at h1 h2
   rw [List.pairwise_cons] at h1 h2
   have ha:a ∈ b :: m:=hp.mem_iff.1 (by simp)
   have hb:b ∈ a :: l:=hp.mem_iff.2 (by simp)
   rcases List.mem_cons.1 ha with e|ha
   ·exact e
   rcases List.mem_cons.1 hb with e|hb
   ·exact e.symm
   have x1:=h2.1 a ha
   have x2:=h1.1 b hb
   have:=cw_ord.anti a b (hn a (by simp)) (hn b (by simp[hb]))
   have:=cw_ord.anti b a (hn b (by simp[hb])) (hn a (by simp))
   exact ord_zero (by omega)
  subst hab
  unfold qk2 at h1 h2
  rw [List.pairwise_cons] at h1 h2
  rw[js7 (fun x hx=>hn x (by simp[hx])) hp.cons_inv h1.2 h2.2]
theorem jt7{α:Type}[DecidableEq α]:∀ {l m:List α},l.Nodup→m.Nodup→(∀ x,x ∈ l↔x ∈ m)→l.Perm m
 |[],m,_,_,h=>by
  have:m=[]:=List.eq_nil_iff_forall_not_mem.2 fun x hx=>by have:=(h x).2 hx;cases this
  rw[this]
 |a :: l,m,h1,h2,h=>by
  rw [List.nodup_cons] at h1
  have ha:a ∈ m:=(h a).1 (by simp)
  refine .trans (.cons a ?_) (List.perm_cons_erase ha).symm
  refine jt7 h1.2 (h2.erase a) fun x=>?_
  rw[h2.mem_erase_iff]
  constructor
  ·intro hx
   exact⟨fun e=>h1.1 (e ▸ hx),(h x).1 (by simp[hx])⟩
  ·rintro ⟨hx1,hx2⟩
   rcases List.mem_cons.1 ((h x).2 hx2) with e|hx
   ·exact absurd e hx1
   ·exact hx
theorem inj_perm{n:Nat}{q:Nat→Nat}(hq:Inj n q):((List.range n).map q).Perm (List.range n):=by
 refine jt7 ?_ List.nodup_range fun x=>?_
 ·unfold List.Nodup
  rw[List.pairwise_map]
  refine(List.nodup_range (n:=n)).imp_of_mem fun {a b} ha hb hab e=>?_
  exact hab (hq.un a b (List.mem_range.1 ha) (List.mem_range.1 hb) e)
 ·rw[List.mem_map,List.mem_range]
  constructor
  ·rintro ⟨i,hi,rfl⟩
   exact hq.lt i (List.mem_range.1 hi)
  ·intro hx
   obtain⟨i,hi,e⟩:=hq.surj x hx
   exact⟨i,List.mem_range.2 hi,e⟩
theorem sorted_q(l:List RR)(q:Nat→Nat)(hq:Inj (l.filter RR.check).length q)(hr:Rise (LL (ltC (cR (l.filter RR.check)))) q 0 (l.filter RR.check).length) :
 ((List.range (l.filter RR.check).length).map fun i=>(l.filter RR.check).getD (q i) default)=qh3 l:=by
 obtain⟨s1,s2⟩:=jl5 l
 have hP:∀ i,i<(l.filter RR.check).length→jf3 ((l.filter RR.check).getD i default):=fun i hi=>by
  rw[List.getD_eq_getElem?_getD,List.getElem?_eq_getElem hi]
  exact qg4 (List.mem_filter.1 (List.getElem_mem hi)).2
 generalize l.filter RR.check=L at hq hr hP s2 ⊢
 have hp:((List.range L.length).map fun i=>L.getD (q i) default).Perm L:=by
  have h1:=(inj_perm hq).map fun i=>L.getD i default
  rw [List.map_map] at h1
  refine h1.trans ?_
  have:(List.range L.length).map (fun i=>L.getD i default)=L:=by
   apply List.ext_getElem?
   intro i
   rw[List.getElem?_map]
   by_cases hi:i<L.length
   ·rw[List.getElem?_range hi,Option.map_some,List.getElem?_eq_getElem hi,List.getD_eq_getElem?_getD,List.getElem?_eq_getElem hi]
    rfl
   ·rw[List.getElem?_eq_none (by simp;omega),List.getElem?_eq_none (by omega)]
    rfl
  rw[this]
 refine js7 (fun x hx=>?_) (hp.trans s2.symm) ?_ s1
 ·obtain⟨i,hi,rfl⟩:=List.mem_map.1 hx
  exact hP _ (hq.lt i (List.mem_range.1 hi))
 ·unfold qk2
  rw[List.pairwise_map,List.pairwise_iff_getElem]
  intro i j hi hj hij
  rw[List.getElem_range,List.getElem_range]
  simp only [List.length_range] at hi hj
  have a1:=cw_ord.anti _ _ (hP _ (hq.lt i hi)) (hP _ (hq.lt j hj))
  have a2:=cw_ord.anti _ _ (hP _ (hq.lt j hj)) (hP _ (hq.lt i hi))
  rcases hr i j (Nat.zero_le _) hij hj with h|⟨h,_⟩
  ·have h:ordR (L.getD (q i) default) (L.getD (q j) default)<0:=of_decide_eq_true h
   omega
  ·have h:¬ ordR (L.getD (q j) default) (L.getD (q i) default)<0:=of_decide_eq_false h
   omega
theorem rsorts_ok(z:Bool)(l:List RR)(hn:l.length≤100000):FnNew Tryz.prog 23 [.d (rrsD z l)] (.d (rrsD false (qh3 l))) :=
 rsort_new z l (qh3 l) hn (weak_ord l) (fun q hq hr=>sorted_q l q hq hr)
end Go.Proofs.YtdfdlbnojmlpiaaGreatDoor
