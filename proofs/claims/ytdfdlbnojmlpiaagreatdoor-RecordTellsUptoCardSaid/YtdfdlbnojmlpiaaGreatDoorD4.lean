/-
  hardtackref05.SameList, pack.Reader.Left, hardtacklaw05.lives. Conditions: the listed variables (VOk). Two names are one. hardtackref01.Split, Make, Check. No conditions. hardtackref01.Fold, Same. Conditions: lengths. hardtackref02.Less. Conditions: texts no longer than 2000000 bytes. hardtackref04: Parts, first, split, texts, Check. Conditions: data of no more than 2000000 bytes. hardtackref04.Names, Fold. Conditions: data no longer than 2000000. hardtackref05.Check, hardtackref06.Check. Conditions: data of no more than 2000000 bytes. hardtackref05.Same, Less. Conditions: names and data no longer than 2000000 bytes. hardtackref05.Sort. Conditions: no more than 100000 records, of data no longer than 2000000 bytes. hardtacklaw05.RecordTells. Conditions: the listed variables (VOk); data no longer than 2000000 bytes.
-/
import Derived.Test.YtdfdlbnojmlpiaaGreatDoorD2
import Derived.Test.YtdfdlbnojmlpiaaGreatDoorD1
import Derived.Test.YtdfdlbnojmlpiaaGreatDoorD3
set_option linter.unusedVariables false
set_option linter.unusedSimpArgs false
namespace Go.Proofs.YtdfdlbnojmlpiaaGreatDoor
open Go Go.Eng
set_option maxRecDepth 100000
def eqR(a b:RR):Bool:=a.nm == b.nm && (a.ty == b.ty && (a.cl == b.cl && (a.ttl == b.ttl && (a.d == b.d && true))))
theorem eqR_eq(a b:RR):eqR a b=decide (a=b):=by
 obtain⟨n,y,c,t,d⟩:=a
 obtain⟨n',y',c',t',d'⟩:=b
 unfold eqR
 rw[Bool.eq_iff_iff]
 simp
set_option maxHeartbeats 4000000 in
theorem samel_ok(y z:Bool)(l m:List RR)(hl:l.length≤1000000):FnOk Tryz.prog 22 [.d (rrsD y l),.d (rrsD z m)] (.d (.bool (decide (l=m)))):=by
 refine qa3 (TT:=TT) (IN:=qc2 []) qc5 qa1 mixed 1000 Tryz.func22 rfl (qa8 Tryz.func22 (by kernel_rfl) rfl) rfl 24 (by kernel_rfl) ?_
 conv=>whnf
 by_cases hlen:l.length=m.length
 case neg =>
  rw[decide_eq_false (fun h:l=m=>hlen (by rw[h]))]
  refine brT (by rw[bne_iff_ne];omega) ?_
  conv=>whnf
  repeat'(first|exact ⟨⟩|exact rfl|exact fun _=>Iff.rfl|exact fun _ _=>rfl|exact renM_ent rfl _|apply And.intro)
 refine brF (by rw[bne_eq_false_iff_eq];omega) ?_
 conv=>whnf
 refine .inv Nat (fun i=>i≤l.length∧∀ j,j<i→l.getD j default=m.getD j default) (fun i=>[(13,iV i)]) (fun _=>[]) (fun i=>l.length - i) ⟨0,[],⟨Nat.zero_le _,fun j hj=>absurd hj (Nat.not_lt_zero _)⟩,?_⟩ ?_
 ·conv=>whnf
  repeat'(first|exact ⟨⟩|exact rfl|exact fun _=>Iff.rfl|exact fun _ _=>rfl|exact renM_ent rfl _|apply And.intro)
 intro i hi
 obtain⟨hi,hj⟩:=hi
 conv=>whnf
 refine⟨fun h1=>?_,fun h1=>?_⟩
 ·have h1:i<l.length:=by
   have h:(i:Int)<l.length:=of_decide_eq_true h1
   omega
  have hw1:IntKind.i64.wrap ((i:Int)+1)=((i+1:Nat):Int):=by rw[qa4 _ (by omega)];omega
  conv=>whnf
  refine⟨by omega,?_⟩
  conv=>whnf
  refine⟨by omega,?_⟩
  conv=>whnf
  rw[Int.toNat_natCast]
  have hq:=eqR_eq (l.getD i default) (m.getD i default)
  by_cases he:l.getD i default=m.getD i default
  ·rw [decide_eq_true he] at hq
   refine brF (by show(!eqR _ _)=false;rw[hq];rfl) ?_
   conv=>whnf
   rw[hw1]
   refine⟨i+1,[],⟨h1,fun j hj'=>?_⟩,by omega,?_⟩
   ·rcases Nat.lt_or_ge j i with h|h
    ·exact hj j h
    ·rw[show j=i by omega];exact he
   conv=>whnf
   repeat'(first|exact ⟨⟩|exact rfl|exact fun _=>Iff.rfl|exact fun _ _=>rfl|exact renM_ent rfl _|apply And.intro)
  ·rw [decide_eq_false he] at hq
   rw[decide_eq_false (fun h:l=m=>he (by rw[h]))]
   refine brT (by show(!eqR _ _)=true;rw[hq];rfl) ?_
   conv=>whnf
   repeat'(first|exact ⟨⟩|exact rfl|exact fun _=>Iff.rfl|exact fun _ _=>rfl|exact renM_ent rfl _|apply And.intro)
 ·have h1:i=l.length:=by
   have h:¬ (i:Int)<l.length:=of_decide_eq_false h1
   omega
  have he:l=m:=by
   apply List.ext_getElem hlen
   intro j h2 h3
   have:=hj j (by omega)
   rwa [List.getD_eq_getElem?_getD,List.getD_eq_getElem?_getD,List.getElem?_eq_getElem h2,List.getElem?_eq_getElem h3] at this
  rw[decide_eq_true he]
  conv=>whnf
  repeat'(first|exact ⟨⟩|exact rfl|exact fun _=>Iff.rfl|exact fun _ _=>rfl|exact renM_ent rfl _|apply And.intro)
def lvA:RR:=⟨[1,97,0],2,1,60,[1,66,1,65,0]⟩
def lvB:RR:=⟨[1,65,0],2,1,61,[1,98,1,97,0]⟩
def lvS:List UInt8:=[1,97,0,0,2,0,1,0,0,0,60,0,5,1,66,1,65,0]
def lvT:List UInt8:=[97,46,32,54,48,32,49,32,50,32,48,49,52,50,48,49,52,49,48,48]
def lvU:List UInt8:=[97,46,32,48,54,48,32,49,32,50,32,48,48]
theorem lv_write:((Wr.mk [] 100 false []).record lvA).2=true∧((Wr.mk [] 100 false []).record lvA).1.full=false∧((Wr.mk [] 100 false []).record lvA).1.buf=lvS:=⟨by kernel_rfl,by kernel_rfl,by kernel_rfl⟩
theorem lv_read:(Rdr.mk lvS 0 false).recd.2=(lvA,0):=by kernel_rfl
theorem lvA_check:lvA.check=true:=by kernel_rfl
theorem lvA_in:lvA.In:=⟨by decide,by decide,by decide⟩
theorem lv_line:lvA.line=lvT:=by
 unfold RR.line
 rw[show lvA.ttl.toNat=60 from rfl,show lvA.cl.toNat=1 from rfl,show lvA.ty.toNat=2 from rfl,qw4 (by decide),qw4 (by decide),qw4 (by decide)]
 kernel_rfl
theorem lv_parse:qo5 lvT=some lvA:=by rw[←lv_line];exact parse_line lvA_check lvA_in (by decide)
theorem lv_none:qo5 lvU=none:=by
 have h:candR (cutN 5 lvU)=some ⟨[1,97,0],2,1,60,[0]⟩:=by kernel_rfl
 unfold qo5
 rw[h]
 simp only
 rw[if_neg]
 rintro ⟨_,h⟩
 unfold RR.line at h
 rw [show (RR.mk [1,97,0] 2 1 60 [0]).ttl.toNat=60 from rfl,show (RR.mk [1,97,0] 2 1 60 [0]).cl.toNat=1 from rfl,show (RR.mk [1,97,0] 2 1 60 [0]).ty.toNat=2 from rfl,qw4 (by decide),qw4 (by decide),qw4 (by decide)] at h
 exact absurd h (by decide +kernel)
theorem lv_same:qz2 lvA lvB=true∧qu8 lvA lvB=false∧qu8 lvB lvA=true∧(RR.mk [] 0 0 0 []).check=false:=⟨by kernel_rfl,by kernel_rfl,by kernel_rfl,by kernel_rfl⟩
theorem lv_sort:qh3 [lvA,⟨[],0,0,0,[]⟩,lvB]=[lvB,lvA]:=by kernel_rfl
theorem wr100:(Wr.mk [] 100 false []).Ok:=⟨by decide,by decide,.inl rfl,fun e he=>by cases he⟩
set_option maxHeartbeats 16000000 in
theorem rlives_ok:FnOk Tryz.prog 15 [] (.d (.bool true)):=by
 refine qa3 (TT:=TT) (IN:=qc2 []) qc5 qa1 mixed 1000 Tryz.func15 rfl (qa8 Tryz.func15 (by kernel_rfl) rfl) rfl 124 (by kernel_rfl) ?_
 conv=>whnf
 refine .rel _ (new_among (fun _=>rfl) (wnew_ok 100) [_,_] (fun _=>rfl)) (fun x ks' hR=>?_)
 obtain⟨rfl,rfl⟩:=hR
 conv=>whnf
 repeat(first|(refine brF rfl ?_;conv=>whnf)|(refine brT rfl ?_;conv=>whnf))
 have hrec:=wrec_ok ⟨[],100,false,[]⟩ wr100 lvA (by decide) (by decide) (by decide)
 have hok1:=wr100.record lvA
 obtain⟨f1,f2,f3⟩:=lv_write
 generalize (Wr.mk [] 100 false []).record lvA=W at hrec hok1 f1 f2 f3
 rw [f1] at hrec
 refine .rel _ (COk.thing Wr.fl hrec [_,_] [] _ rfl rfl) (fun x ks' hR=>?_)
 obtain⟨_,_,⟨rfl,rfl⟩,rfl,rfl⟩:=hR
 conv=>whnf
 have ho:=out_ok W.1
 rw [if_neg (by rw [f2];decide),f3] at ho
 refine .rel _ (COk.thing Wr.fl ho [_,_] [] _ rfl rfl) (fun x ks' hR=>?_)
 obtain⟨_,_,⟨rfl,rfl⟩,rfl,rfl⟩:=hR
 conv=>whnf
 refine .rel _ (new_among (fun _=>rfl) (open_ok lvS) [_,_,_] (fun _=>rfl)) (fun x ks' hR=>?_)
 obtain⟨rfl,rfl⟩:=hR
 conv=>whnf
 repeat(first|(refine brF rfl ?_;conv=>whnf)|(refine brT rfl ?_;conv=>whnf))
 have hrd:=rrec_ok ⟨lvS,0,false⟩ ⟨by decide,by decide⟩ (by decide)
 rw [lv_read] at hrd
 refine .rel _ (qi2 hrd [_,_,_] [] _ rfl rfl) (fun x ks' hR=>?_)
 obtain⟨_,_,⟨rfl,rfl⟩,rfl,rfl⟩:=hR
 conv=>whnf
 refine .one (.data _ (line_ok lvA lvA_in) rfl rfl ?_)
 rw[show lvA.lineV=(lvT,0) by unfold RR.lineV;rw[lvA_check,lv_line];rfl]
 conv=>whnf
 refine .one (.data _ (rparse_ok lvT (by decide)) rfl (by rw[lv_parse];rfl) ?_)
 rw[lv_parse]
 conv=>whnf
 refine .one (.data _ (rparse_ok lvU (by decide)) rfl (by rw[lv_none];rfl) ?_)
 rw[lv_none]
 conv=>whnf
 obtain⟨s1,s2,s3,s4⟩:=lv_same
 repeat(first|(refine brF rfl ?_;conv=>whnf)|(refine brT rfl ?_;conv=>whnf))
 refine .data _ (rsame_ok lvA lvB) rfl rfl ?_
 rw[s1]
 conv=>whnf
 repeat(first|(refine brF rfl ?_;conv=>whnf)|(refine brT rfl ?_;conv=>whnf))
 refine .data _ (jx8 lvA lvB) rfl rfl ?_
 rw[s2]
 conv=>whnf
 repeat(first|(refine brF rfl ?_;conv=>whnf)|(refine brT rfl ?_;conv=>whnf))
 refine .data _ (jx8 lvB lvA) rfl rfl ?_
 rw[s3]
 conv=>whnf
 repeat(first|(refine brF rfl ?_;conv=>whnf)|(refine brT rfl ?_;conv=>whnf))
 refine .data _ (qh6 ⟨[],0,0,0,[]⟩) rfl rfl ?_
 rw[s4]
 conv=>whnf
 repeat(first|(refine brF rfl ?_;conv=>whnf)|(refine brT rfl ?_;conv=>whnf))
 refine .fresh (r:=.d (rrsD false (qh3 [lvA,⟨[],0,0,0,[]⟩,lvB]))) (as':=[.d (.sl false 3 5 (qh1 (lvA.enc++((RR.mk [] 0 0 0 []).enc++lvB.enc)) 5))]) (fr:=[7]) ((rsorts_ok false [lvA,⟨[],0,0,0,[]⟩,lvB] (by decide)).conv ⟨DS.rows fun i hi=>(match i,hi with
  |0,_=>DSL.refl _
  |1,_=>DSL.refl _
  |2,_=>DSL.refl _),trivial⟩) ?_ rfl rfl ?_
 ·conv=>whnf
  exact⟨rfl,rfl⟩
 rw[lv_sort]
 conv=>whnf
 refine .look (r:=.d (.bool true)) ?_ rfl ?_
 ·conv=>whnf
  have:=samel_ok false false [lvB,lvA] [lvB,lvA] (by decide)
  rw [decide_eq_true rfl] at this
  exact⟨this.conv ⟨DS.refl _,DS.rows fun i hi=>(match i,hi with
  |0,_=>DSL.refl _
  |1,_=>DSL.refl _),trivial⟩,rfl⟩
 conv=>whnf
 repeat'(first|exact ⟨⟩|exact rfl|exact fun _=>Iff.rfl|exact fun _ _=>rfl|exact renM_ent rfl _|apply And.intro)
end Go.Proofs.YtdfdlbnojmlpiaaGreatDoor
namespace Go.Proofs.YtdfdlbnojmlpiaaGreatDoor
open Go Go.Eng
def jx5(a b:List UInt8):Bool:=decide (qb2 a) && (decide (qb2 b) && fold a == fold b)
theorem fold_len(s:List UInt8):(fold s).length=s.length:=by simp[fold]
theorem jh3{s:List UInt8}(h:qb2 s):s.length<9223372036854775808:=by have:=h.2.1;omega
end Go.Proofs.YtdfdlbnojmlpiaaGreatDoor
namespace Go.Proofs.YtdfdlbnojmlpiaaGreatDoor
open Go Go.Eng
def splitR:Option (List (List UInt8))→SV
 |none=>.tup [.any,.d .ff]
 |some l=>.tup [.d (.sl false l.length 1 (strs l)),.d .tt]
structure SpSt where
 at_:Nat
 l:List (List UInt8)
 m:Nat
set_option maxRecDepth 100000 in
set_option maxHeartbeats 4000000 in
theorem qx6(s:List UInt8):FnOk Tryz.prog 112 [.d (.str s)] (splitR (qd8 s)):=by
 refine qa3 (TT:=TT) (IN:=qc2 []) qc5 qa1 mixed 1000 Tryz.func112 rfl (qa8 Tryz.func112 (by kernel_rfl) rfl) rfl 52 (by kernel_rfl) ?_
 conv=>whnf
 refine⟨fun h1=>?_,fun h1=>?_⟩
 ·have h1:(s.length:Int) > 255:=of_decide_eq_true h1
  have e:qd8 s=none:=by unfold qd8;rw[if_pos (by omega)]
  rw[e]
  conv=>whnf
  repeat'(first|exact ⟨⟩|exact rfl|exact⟨rfl,rfl,.inr rfl,fun _ _=>rfl⟩|exact⟨rfl,rfl,.inl rfl,fun i hi=>absurd hi (Nat.not_lt_zero _)⟩|apply And.intro)
 have h1:¬ (s.length:Int) > 255:=of_decide_eq_false h1
 have e:qd8 s=qy3 (s.length+1) s:=by unfold qd8;rw[if_neg (by omega)]
 have hw:∀ n:Int,-9223372036854775808≤n∧n≤9223372036854775807→IntKind.i64.wrap n=n:=fun n h=>qa4 n h
 conv=>whnf
 refine .csT 4 0 9 1 (fun _=>[]) rfl rfl ?_
 refine .inv SpSt (fun x=>x.at_≤s.length∧s.length<x.at_+x.m∧x.l.length≤x.at_∧(qy3 x.m (s.drop x.at_)).map (x.l ++ ·)=qy3 (s.length+1) s) (fun x=>[(4,.all 1),(5,.d (.int .i64 x.at_))]) (fun x=>[(1,.row 9 1 x.l.length .no (strs x.l))]) (fun x=>s.length - x.at_) ⟨⟨0,[],s.length+1⟩,[0,1],⟨Nat.zero_le _,by show s.length<0+(s.length+1);omega,Nat.zero_le _,by simp⟩,?_⟩ ?_
 ·conv=>whnf
  repeat'(first|exact ⟨⟩|exact rfl|(intro i hi;exact absurd hi (Nat.not_lt_zero _))|exact fun _ _=>rfl|apply And.intro)
 intro x hx
 obtain⟨hk,hm,hll,hrest⟩:=hx
 conv=>whnf
 generalize x.at_=k at hk hm hll hrest ⊢
 generalize x.l=l at hll hrest ⊢
 generalize x.m=m at hm hrest ⊢
 have hdl:(s.drop k).length=s.length - k:=by simp
 have hd0:bt (s.drop k) 0=bt s k:=by rw[qw6];rfl
 have hbl:=ji4 s k
 obtain⟨m',rfl⟩:∃ m',m=m'+1:=⟨m - 1,by omega⟩
 conv at hrest=>lhs;unfold qy3
 rw [hdl,hd0] at hrest
 refine⟨fun c0=>?_,fun c0=>?_⟩
 ·have c0':k<s.length:=(by have h:(k:Int)<s.length:=of_decide_eq_true c0;omega)
  rw [if_neg (by omega)] at hrest
  conv=>whnf
  refine⟨by omega,?_⟩
  conv=>whnf
  rw[ql7,hw _ (by omega)]
  refine⟨fun c1=>?_,fun c1=>?_⟩
  ·have c1:bt s k=0:=by
    have h:(bt s k:Int)=0:=by simpa using c1
    omega
   rw [if_pos c1] at hrest
   conv=>whnf
   rw[hw ((s.length:Int) - 1) (by omega)]
   by_cases hz:s.length - k=1
   ·rw [if_pos hz] at hrest
    rw[e,←hrest]
    conv=>whnf
    refine⟨?_,?_,True.intro⟩
    ·exact⟨rfl,by simp,.inr rfl,fun i hi=>by simp⟩
    ·show((k:Int) == (s.length:Int) - 1)=true
     simp
     omega
   ·rw [if_neg hz] at hrest
    rw[e,←hrest]
    conv=>whnf
    refine⟨True.intro,?_,True.intro⟩
    show((k:Int) == (s.length:Int) - 1)=false
    simp
    omega
  have c1:bt s k≠0:=by
   have h:(bt s k:Int)≠0:=by simpa using c1
   omega
  rw [if_neg c1] at hrest
  conv=>whnf
  refine⟨fun c2=>?_,fun c2=>?_⟩
  ·have c2:(bt s k:Int) > 63:=of_decide_eq_true c2
   rw [if_pos (.inl (by omega))] at hrest
   rw[e,←hrest]
   conv=>whnf
   exact⟨True.intro,rfl,True.intro⟩
  have c2:¬ (bt s k:Int) > 63:=of_decide_eq_false c2
  conv=>whnf
  rw[hw ((k:Int)+1) (by omega),hw ((k:Int)+1+bt s k) (by omega)]
  refine⟨fun c3=>?_,fun c3=>?_⟩
  ·have c3:(k:Int)+1+bt s k > s.length:=of_decide_eq_true c3
   rw [if_pos (.inr (by omega))] at hrest
   rw[e,←hrest]
   conv=>whnf
   exact⟨True.intro,rfl,True.intro⟩
  have c3:¬ (k:Int)+1+bt s k > s.length:=of_decide_eq_false c3
  rw [if_neg (by omega)] at hrest
  conv=>whnf
  rw[hw ((k:Int)+1) (by omega),hw ((k:Int)+1+bt s k) (by omega)]
  refine⟨by omega,?_⟩
  conv=>whnf
  refine⟨by omega,?_⟩
  conv=>whnf
  rw[hw (1+(bt s k:Int)) (by omega),hw ((k:Int)+(1+bt s k)) (by omega),show(k:Int)+(1+(bt s k:Int))=((k+(1+bt s k):Nat):Int) by omega]
  refine⟨⟨k+(1+bt s k),l++[(s.drop (k+1)).take (bt s k)],m'⟩,[0,3],⟨by show k+(1+bt s k)≤_;omega,by show s.length<k+(1+bt s k)+m';omega,by show(l++[_]).length≤k+(1+bt s k);rw[List.length_append];show l.length+1≤_;omega,?_⟩,by show s.length - (k+(1+bt s k))<s.length - k;omega,?_⟩
  ·rw[←hrest,List.drop_drop,List.drop_drop]
   simp[Function.comp_def]
  conv=>whnf
  repeat'(first|exact ⟨⟩|exact rfl|apply And.intro)
  ·simp
  ·refine ql8 _ _ _ ?_
   show[DV.str _]=[DV.str _]
   congr 2
   unfold sub
   rw[show((k:Int)+1+(bt s k:Int)).toNat - ((k:Int)+1).toNat=bt s k by omega,show((k:Int)+1).toNat=k+1 by omega]
 ·have c0':k=s.length:=(by have h:¬ (k:Int)<s.length:=of_decide_eq_false c0;omega)
  rw [if_pos (by omega)] at hrest
  rw[e,←hrest]
  conv=>whnf
  exact⟨True.intro,rfl,True.intro⟩
set_option maxRecDepth 100000 in
theorem qn6(s:List UInt8):FnOk Tryz.prog 53 [.d (.str s)] (.d (.int .i64 (if qb2 s then 0 else 2))):=by
 refine qa3 (TT:=TT) (IN:=qc2 []) qc5 qa1 mixed 1000 Tryz.func53 rfl (qa8 Tryz.func53 (by kernel_rfl) rfl) rfl 11 (by kernel_rfl) ?_
 conv=>whnf
 refine .one (.data _ (qx6 s) rfl (by cases qd8 s <;> rfl) ?_)
 have hn:=qu0 s
 cases hl:qd8 s with
 |none =>
  have:¬ qb2 s:=fun h=>by rw [hn,hl] at h;cases h
  rw[if_neg this]
  conv=>whnf
  try exact rfl
 |some ls =>
  have:qb2 s:=hn.2 (by rw[hl];rfl)
  rw[if_pos this]
  conv=>whnf
  try exact rfl
end Go.Proofs.YtdfdlbnojmlpiaaGreatDoor
namespace Go.Proofs.YtdfdlbnojmlpiaaGreatDoor
open Go Go.Eng
set_option maxRecDepth 100000
set_option maxHeartbeats 2000000 in
theorem qr4(s:List UInt8)(hs:s.length<9223372036854775808):FnOk Tryz.prog 118 [.d (.str s)] (.d (.str (fold s))):=by
 refine qa3 (TT:=TT) (IN:=qc2 []) qc5 qa1 mixed 1000 Tryz.func118 rfl (qa8 Tryz.func118 (by kernel_rfl) rfl) rfl 28 (by kernel_rfl) ?_
 conv=>whnf
 refine .inv Nat (fun k=>k≤s.length) (fun k=>[(10,.d (.int .i64 k))]) (fun k=>[(0,.row 5 1 s.length .no (fun j=>[.int .u8 (mix s k j)]))]) (fun k=>s.length - k) ⟨0,[0],by omega,?_⟩ ?_
 ·conv=>whnf
  repeat'(first|exact ⟨⟩|exact rfl|apply And.intro)
  intro i hi
  simp[mix,ql7]
 intro k hk
 have hk1:k<s.length→IntKind.i64.wrap ((k:Int)+1)=((k+1:Nat):Int):=fun _=>by rw[qa4 _ (by omega)];omega
 conv=>whnf
 refine⟨fun hlt=>?_,fun hge=>?_⟩
 ·have hlt':k<s.length:=by simpa using hlt
  conv=>whnf
  refine⟨by simp;omega,?_⟩
  have hmk:mix s k (Int.toNat (k:Int))=(bt s k:Int):=by simp[mix]
  have hb:=ji4 s k
  conv=>whnf
  have stay:¬ (65≤bt s k∧bt s k≤90)→∀ i,i<s.length→[DV.int IntKind.u8 (mix s k i)]=[DV.int IntKind.u8 (mix s (k+1) i)]:=fun hn i hi=>by
   unfold mix
   by_cases e:i=k
   ·subst e
    rw [if_neg (by omega),if_pos (by omega),qt8,if_neg (by unfold bt at hn;exact hn)]
    rfl
   ·by_cases e2:i<k
    ·rw[if_pos e2,if_pos (by omega)]
    ·rw[if_neg e2,if_neg (by omega)]
  rw[hmk]
  refine⟨fun h1=>?_,fun h1=>?_⟩
  ·conv=>whnf
   refine⟨fun h2=>?_,fun h2=>?_⟩
   ·conv=>whnf
    refine⟨by simp;omega,?_⟩
    conv=>whnf
    refine⟨k+1,[0],by omega,by show s.length - (k+1)<s.length - k;omega,?_⟩
    conv=>whnf
    repeat'(first|exact ⟨⟩|exact rfl|apply And.intro)
    all_goals first
     |exact congrArg SV.d (congrArg (DV.int _) (hk1 hlt'))
     |exact stay (by simp at h1 h2;omega)
     |(
      intro i hi
      show oneF _ _ _ _ i=_
      unfold oneF mix
      simp at h1 h2
      by_cases e:i=k
      ·subst e
       simp only[Int.toNat_natCast,if_true,putD,List.set_cons_zero]
       rw [if_pos (by omega),qt8,if_pos (by unfold bt at h1 h2;omega),IntKind.wrap_u8]
       unfold bt at *
       congr 2
       omega
      ·rw[if_neg (by simpa using e)]
       show[DV.int _ _]=[DV.int _ _]
       by_cases e2:i<k
       ·rw[if_pos e2,if_pos (by omega)]
       ·rw[if_neg e2,if_neg (by omega)])
   ·conv=>whnf
    refine⟨k+1,[0],by omega,by show s.length - (k+1)<s.length - k;omega,?_⟩
    conv=>whnf
    repeat'(first|exact ⟨⟩|exact rfl|apply And.intro)
    all_goals first
     |exact congrArg SV.d (congrArg (DV.int _) (hk1 hlt'))
     |exact stay (by simp at h1 h2;omega)
     |(
      intro i hi
      show oneF _ _ _ _ i=_
      unfold oneF mix
      simp at h1 h2
      by_cases e:i=k
      ·subst e
       simp only[Int.toNat_natCast,if_true,putD,List.set_cons_zero]
       rw [if_pos (by omega),qt8,if_pos (by unfold bt at h1 h2;omega),IntKind.wrap_u8]
       unfold bt at *
       congr 2
       omega
      ·rw[if_neg (by simpa using e)]
       show[DV.int _ _]=[DV.int _ _]
       by_cases e2:i<k
       ·rw[if_pos e2,if_pos (by omega)]
       ·rw[if_neg e2,if_neg (by omega)])
  ·conv=>whnf
   refine⟨k+1,[0],by omega,by show s.length - (k+1)<s.length - k;omega,?_⟩
   conv=>whnf
   repeat'(first|exact ⟨⟩|exact rfl|apply And.intro)
   all_goals first
    |exact congrArg SV.d (congrArg (DV.int _) (hk1 hlt'))
    |exact stay (by simp at h1;omega)
    |(
     intro i hi
     show oneF _ _ _ _ i=_
     unfold oneF mix
     simp at h1
     by_cases e:i=k
     ·subst e
      simp only[Int.toNat_natCast,if_true,putD,List.set_cons_zero]
      rw [if_pos (by omega),qt8,if_pos (by unfold bt at h1;omega),IntKind.wrap_u8]
      unfold bt at *
      congr 2
      omega
     ·rw[if_neg (by simpa using e)]
      show[DV.int _ _]=[DV.int _ _]
      by_cases e2:i<k
      ·rw[if_pos e2,if_pos (by omega)]
      ·rw[if_neg e2,if_neg (by omega)])
 ·have hke:k=s.length:=by simp at hge;omega
  subst hke
  conv=>whnf
  refine⟨fun i _=>⟨_,rfl⟩,?_⟩
  conv=>whnf
  refine congrArg DV.str ?_
  unfold qe3 fold
  apply List.ext_getElem?
  intro i
  rw[List.getElem?_map,List.getElem?_map]
  by_cases hi:i<s.length
  ·rw[List.getElem?_range hi,List.getElem?_eq_getElem hi]
   simp[mix,hi]
  ·rw[List.getElem?_eq_none (by simp;omega),List.getElem?_eq_none (by omega)]
   rfl
set_option maxHeartbeats 4000000 in
theorem r1same_ok(a b:List UInt8):FnOk Tryz.prog 56 [.d (.str a),.d (.str b)] (.d (.bool (jx5 a b))):=by
 refine qa3 (TT:=TT) (IN:=qc2 []) qc5 qa1 mixed 1000 Tryz.func56 rfl (qa8 Tryz.func56 (by kernel_rfl) rfl) rfl 18 (by kernel_rfl) ?_
 conv=>whnf
 refine .one (.data _ (qn6 a) rfl rfl ?_)
 by_cases ha:qb2 a
 ·rw[if_pos ha]
  conv=>whnf
  refine brT rfl ?_
  conv=>whnf
  refine .one (.data _ (qn6 b) rfl rfl ?_)
  by_cases hb:qb2 b
  ·rw[if_pos hb]
   conv=>whnf
   refine brT rfl ?_
   conv=>whnf
   refine .one (.data _ (qr4 a (jh3 ha)) rfl rfl ?_)
   conv=>whnf
   refine .one (.data _ (qr4 b (jh3 hb)) rfl rfl ?_)
   rw[show jx5 a b=(fold a == fold b) by unfold jx5;rw[decide_eq_true ha,decide_eq_true hb];rfl]
   conv=>whnf
   try exact rfl
  ·rw[if_neg hb,show jx5 a b=false by unfold jx5;rw[decide_eq_false hb,Bool.false_and,Bool.and_false]]
   conv=>whnf
   refine brF rfl ?_
   conv=>whnf
   repeat(first|(refine brF rfl ?_;conv=>whnf))
   try exact rfl
 ·rw[if_neg ha,show jx5 a b=false by unfold jx5;rw[decide_eq_false ha,Bool.false_and]]
  conv=>whnf
  refine brF rfl ?_
  conv=>whnf
  repeat(first|(refine brF rfl ?_;conv=>whnf))
  try exact rfl
end Go.Proofs.YtdfdlbnojmlpiaaGreatDoor
namespace Go.Proofs.YtdfdlbnojmlpiaaGreatDoor
open Go Go.Eng
set_option maxRecDepth 100000
theorem labN_eq0{n:List UInt8}{l:List (List UInt8)}(h:qd8 n=some l):labN n=l:=by unfold labN;rw[h];rfl
theorem js6{a:List UInt8}(h:qb2 a):qd8 (fold a)=some (fl a):=by
 have h2:=qj9 h
 obtain⟨l,hl⟩:=Option.isSome_iff_exists.1 ((qu0 _).1 h2)
 have:=labN_eq0 hl
 rw [jn8 h] at this
 rw[hl,this]
theorem ji5{a b:List UInt8}(h:¬ (qb2 a∧qb2 b)):qj0 a b=false:=by
 unfold qj0
 by_cases ha:qb2 a
 ·rw[decide_eq_false (fun hb=>h ⟨ha,hb⟩),Bool.false_and,Bool.and_false]
 ·rw[decide_eq_false ha,Bool.false_and]
set_option maxHeartbeats 8000000 in
theorem r2less_ok(a b:List UInt8)(ha0:a.length≤2000000)(hb0:b.length≤2000000):FnOk Tryz.prog 59 [.d (.str a),.d (.str b)] (.d (.bool (qj0 a b))):=by
 refine qa3 (TT:=TT) (IN:=qc2 []) qc5 qa1 mixed 1000 Tryz.func59 rfl (qa8 Tryz.func59 (by kernel_rfl) rfl) rfl 75 (by kernel_rfl) ?_
 conv=>whnf
 refine .one (.data _ (qr4 a (by omega)) rfl rfl ?_)
 conv=>whnf
 refine .one (.data _ (qx6 (fold a)) (by cases qd8 (fold a) <;> rfl) (by cases qd8 (fold a) <;> rfl) ?_)
 have hcA:=qn6 a
 have hcB:=qn6 b
 have hsA:qb2 a→qd8 (fold a)=some (fl a):=js6
 have hsB:qb2 b→qd8 (fold b)=some (fl b):=js6
 cases hA:qd8 (fold a) with
 |none =>
  rw [ji5 (fun h=>by rw [hsA h.1] at hA;cases hA)]
  conv=>whnf
  refine .one (.data _ (qr4 b (by omega)) rfl rfl ?_)
  conv=>whnf
  refine .one (.data _ (qx6 (fold b)) (by cases qd8 (fold b) <;> rfl) (by cases qd8 (fold b) <;> rfl) ?_)
  cases hB:qd8 (fold b) <;> (conv=>whnf)
  all_goals
   repeat(first|(refine brF rfl ?_;conv=>whnf)|(refine brT rfl ?_;conv=>whnf))
   try exact rfl
 |some la =>
  conv=>whnf
  refine .one (.data _ (qr4 b (by omega)) rfl rfl ?_)
  conv=>whnf
  refine .one (.data _ (qx6 (fold b)) (by cases qd8 (fold b) <;> rfl) (by cases qd8 (fold b) <;> rfl) ?_)
  cases hB:qd8 (fold b) with
  |none =>
   rw [ji5 (fun h=>by rw [hsB h.2] at hB;cases hB)]
   conv=>whnf
   repeat(first|(refine brF rfl ?_;conv=>whnf)|(refine brT rfl ?_;conv=>whnf))
   repeat'(first|exact ⟨⟩|exact rfl|exact fun _=>Iff.rfl|exact fun _ _=>rfl|exact renM_ent rfl _|apply And.intro)
  |some lb =>
   conv=>whnf
   repeat(first|(refine brF rfl ?_;conv=>whnf)|(refine brT rfl ?_;conv=>whnf))
   refine .one (.data _ hcA rfl rfl ?_)
   by_cases ha:qb2 a
   case neg =>
    rw[if_neg ha,ji5 (fun h=>ha h.1)]
    conv=>whnf
    repeat(first|(refine brF rfl ?_;conv=>whnf)|(refine brT rfl ?_;conv=>whnf))
    repeat'(first|exact ⟨⟩|exact rfl|exact fun _=>Iff.rfl|exact fun _ _=>rfl|exact renM_ent rfl _|apply And.intro)
   rw[if_pos ha]
   conv=>whnf
   repeat(first|(refine brF rfl ?_;conv=>whnf)|(refine brT rfl ?_;conv=>whnf))
   refine .one (.data _ hcB rfl rfl ?_)
   by_cases hb:qb2 b
   case neg =>
    rw[if_neg hb,ji5 (fun h=>hb h.2)]
    conv=>whnf
    repeat(first|(refine brF rfl ?_;conv=>whnf)|(refine brT rfl ?_;conv=>whnf))
    repeat'(first|exact ⟨⟩|exact rfl|exact fun _=>Iff.rfl|exact fun _ _=>rfl|exact renM_ent rfl _|apply And.intro)
   rw[if_pos hb,show qj0 a b=decide (qg1 la.reverse lb.reverse<0) by
    unfold qj0 qj6
    rw[decide_eq_true ha,decide_eq_true hb,←Option.some.inj ((hsA ha).symm.trans hA),←Option.some.inj ((hsB hb).symm.trans hB)];rfl]
   have hla:la.length≤255:=by
    have:=ji7 ha
    unfold qj6 at this
    rwa [List.length_reverse,Option.some.inj ((hsA ha).symm.trans hA)] at this
   have hlb:lb.length≤255:=by
    have:=ji7 hb
    unfold qj6 at this
    rwa [List.length_reverse,Option.some.inj ((hsB hb).symm.trans hB)] at this
   clear hsA hsB hcA hcB hA hB ha hb
   conv=>whnf
   repeat(first|(refine brF rfl ?_;conv=>whnf)|(refine brT rfl ?_;conv=>whnf))
   refine .inv Nat (fun i=>i≤la.length∧i≤lb.length∧qg1 (la.reverse.drop i) (lb.reverse.drop i)=qg1 la.reverse lb.reverse) (fun i=>[(9,iV (i+1))]) (fun _=>[]) (fun i=>la.length - i) ⟨0,[],⟨Nat.zero_le _,Nat.zero_le _,rfl⟩,?_⟩ ?_
   ·conv=>whnf
    repeat'(first|exact ⟨⟩|exact rfl|exact fun _=>Iff.rfl|exact fun _ _=>rfl|exact renM_ent rfl _|apply And.intro)
   intro i hi
   obtain⟨hi1,hi2,hi3⟩:=hi
   generalize qg1 la.reverse lb.reverse=Y at hi3 ⊢
   have hw1:IntKind.i64.wrap (((i+1:Nat):Int)+1)=((i+1+1:Nat):Int):=by rw[qa4 _ (by omega)];omega
   conv=>whnf
   refine⟨fun c0=>?_,fun c0=>?_⟩
   ·have c0':i<la.length:=(by have h:((i+1:Nat):Int)≤la.length:=of_decide_eq_true c0;omega)
    have cr:i<la.reverse.length:=by rw[List.length_reverse];exact c0'
    have hq1:IntKind.i64.wrap ((la.length:Int) - ((i+1:Nat):Int))=((la.length - (i+1):Nat):Int):=by rw[qa4 _ (by omega)];omega
    rw [List.drop_eq_getElem_cons cr] at hi3
    conv=>whnf
    by_cases hlt:i<lb.length
    case neg =>
     rw [show lb.reverse.drop i=[] from List.drop_eq_nil_of_le (by rw [List.length_reverse];omega)] at hi3
     simp only [qg1] at hi3
     rw[←hi3]
     refine brF (decide_eq_false (by omega)) ?_
     conv=>whnf
     rw[decide_eq_false (by omega)]
     try exact rfl
    have dr:i<lb.reverse.length:=by rw[List.length_reverse];exact hlt
    have hq2:IntKind.i64.wrap ((lb.length:Int) - ((i+1:Nat):Int))=((lb.length - (i+1):Nat):Int):=by rw[qa4 _ (by omega)];omega
    rw [List.drop_eq_getElem_cons dr] at hi3
    simp only [qg1] at hi3
    have e1:la.reverse[i]=la[la.length - (i+1)]?.getD []:=by
     rw[List.getElem_reverse,List.getElem?_eq_getElem (by omega)]
     show _=la[la.length - (i+1)]
     congr 1;omega
    have e2:lb.reverse[i]=lb[lb.length - (i+1)]?.getD []:=by
     rw[List.getElem_reverse,List.getElem?_eq_getElem (by omega)]
     show _=lb[lb.length - (i+1)]
     congr 1;omega
    rw [e1,e2] at hi3
    refine brT (decide_eq_true (by omega)) ?_
    conv=>whnf
    rw[hq1]
    refine⟨by omega,?_⟩
    conv=>whnf
    rw[hq2]
    refine⟨by omega,?_⟩
    conv=>whnf
    rw[Int.toNat_natCast,Int.toNat_natCast]
    generalize la[la.length - (i+1)]?.getD []=x at hi3 ⊢
    generalize lb[lb.length - (i+1)]?.getD []=y at hi3 ⊢
    by_cases hc:x=y
    ·subst hc
     rw [if_neg (by unfold cmpS;simp [qu7])] at hi3
     refine brF (by simp) ?_
     conv=>whnf
     rw[hw1]
     refine⟨i+1,[],⟨c0',hlt,hi3⟩,by omega,?_⟩
     conv=>whnf
     repeat'(first|exact ⟨⟩|exact rfl|exact fun _=>Iff.rfl|exact fun _ _=>rfl|exact renM_ent rfl _|apply And.intro)
    ·have hz:cmpS x y≠0:=fun h=>hc (cmpS_zero h)
     rw [if_pos hz] at hi3
     rw[←hi3]
     refine brT (by simp[hc]) ?_
     conv=>whnf
     have hl:decide (cmpS x y<0)=Op.bytesLess x y:=by
      unfold cmpS
      cases Op.bytesLess x y
      ·rw[if_neg (by decide),if_neg hc];rfl
      ·rfl
     rw[hl]
     try exact rfl
   ·have c0':i=la.length:=(by have h:¬ ((i+1:Nat):Int)≤la.length:=of_decide_eq_false c0;omega)
    rw [show la.reverse.drop i=[] from List.drop_eq_nil_of_le (by rw [List.length_reverse];omega)] at hi3
    conv=>whnf
    by_cases hlt:i<lb.length
    ·have dr:i<lb.reverse.length:=by rw[List.length_reverse];exact hlt
     rw [List.drop_eq_getElem_cons dr] at hi3
     simp only [qg1] at hi3
     rw[←hi3,decide_eq_true (show(la.length:Int)<lb.length by omega)]
     try exact rfl
    ·rw [List.drop_eq_nil_of_le (by rw [List.length_reverse];omega)] at hi3
     simp only [qg1] at hi3
     rw[←hi3,decide_eq_false (show ¬ (la.length:Int)<lb.length by omega)]
     try exact rfl
end Go.Proofs.YtdfdlbnojmlpiaaGreatDoor
namespace Go.Proofs.YtdfdlbnojmlpiaaGreatDoor
open Go Go.Eng
theorem firstF_at(s t:List UInt8):∀ (ls pre:List (List UInt8)) (m:Nat),(∀ l ∈ pre,okL l)→(∀ l ∈ ls,okL l)→s=labs pre++(mk ls++t)→(labs pre++mk ls).length≤255→256≤m+(labs pre).length →
 qp1 s m (labs pre).length=(labs pre++mk ls).length
 |[],pre,m,hp,_,hs,hl,hm=>by
  cases m with
  |zero=>rw [List.length_append] at hl;omega
  |succ m =>
   have hl1:(labs pre++mk []).length=(labs pre).length+1:=by rw[List.length_append];rfl
   have hb:bt s (labs pre).length=0:=by
    rw[hs]
    unfold bt
    rw[List.getElem?_append_right (Nat.le_refl _),Nat.sub_self]
    rfl
   have hsl:(labs pre).length<s.length:=by rw[hs,List.length_append];have:=jc5 [];rw[List.length_append];omega
   have htk:s.take ((labs pre).length+1)=mk pre:=by
    have:labs pre++(mk []++t)=(labs pre++[0])++t:=by simp[mk]
    rw[hs,this,List.take_left' (by simp)]
    exact qz6 pre
   unfold qp1
   rw[if_pos ⟨hsl,by omega⟩,if_pos hb,htk,if_pos ((qn7 _).2 ⟨by rw[←qz6];simpa[mk] using hl,pre,hp,rfl⟩),hl1]
 |l :: ls,pre,m,hp,hls,hs,hl,hm=>by
  have hol:=hls l (List.mem_cons_self ..)
  have h1:=hol.1
  have hml:=qv8 l ls
  have hmp:=jc5 ls
  have hll:(labs (pre++[l])).length=(labs pre).length+1+l.length:=by rw[qr7,List.length_append,qj8];omega
  rw [List.length_append] at hl
  cases m with
  |zero=>omega
  |succ m =>
   have hb:bt s (labs pre).length=l.length:=by
    have:=qw6 s (labs pre).length 0
    rw [Nat.add_zero] at this
    rw[←this,hs,List.drop_left]
    show bt (lab l++mk ls++t) 0=_
    rw[List.append_assoc]
    exact qw5 l _ hol
   have hsl:(labs pre).length<s.length:=by rw[hs,List.length_append,List.length_append];omega
   have hcat:labs (pre++[l])++mk ls=labs pre++mk (l :: ls):=by rw[qr7,List.append_assoc];rfl
   unfold qp1
   rw[if_pos ⟨hsl,by omega⟩,if_neg (by rw[hb];omega),hb,←hll]
   rw[firstF_at s t ls (pre++[l]) m (fun x hx=>by
    rcases List.mem_append.1 hx with hx|hx
    ·exact hp x hx
    ·rw[List.mem_singleton.1 hx];exact hol) (fun x hx=>hls x (List.mem_cons_of_mem _ hx)) (by
    rw[hs,←List.append_assoc,←List.append_assoc,hcat]) (by rw[hcat,List.length_append];exact hl) (by omega),hcat]
theorem firstN_of{s:List UInt8}{k:Nat}(hk:k≤s.length)(h:qb2 (s.take k)):qf0 s=k:=by
 obtain⟨h1,ls,h2,h3⟩:=(qn7 _).1 h
 have hlen:(mk ls).length=k:=by rw[←h3,List.length_take];omega
 have h1:(mk ls).length≤255:=by rw[←h3];exact h1
 have:=firstF_at s (s.drop k) ls [] 256 (fun l hl=>by cases hl) h2 (by show s=[]++(mk ls++s.drop k);rw[←h3];simp) (by show([]++mk ls).length≤255;simp;omega) (by omega)
 unfold qf0
 have e:([]++mk ls:List UInt8).length=k:=by simpa using hlen
 exact this.trans e
theorem firstN_none{s:List UInt8}(h:∀ k,k≤s.length→k≤255→¬ qb2 (s.take k)):qf0 s=0:=by
 have hl:=jd7 s
 cases hf:qf0 s with
 |zero=>rfl
 |succ n =>
  have:=firstF_name s 256 0 (by show qf0 s≠0;omega)
  exact absurd this (h _ hl.1 hl.2)
def partsR:Option (Nat × Nat × Nat)→SV
 |some p=>.tup [.d (.int .i64 (2 * p.1:Nat)),.d (.int .i64 p.2.1),.d (.int .i64 (4 * p.2.2:Nat)),.d .tt]
 |none=>.tup [.d (.int .i64 0),.d (.int .i64 0),.d (.int .i64 0),.d .ff]
set_option maxHeartbeats 4000000 in
theorem je8(t:Int):FnOk Tryz.prog 114 [.d (.int .u16 t)] (partsR (qd7 t)):=by
 refine qa3 (TT:=TT) (IN:=qc2 []) qc5 qa1 mixed 1000 Tryz.func114 rfl (qa8 Tryz.func114 (by kernel_rfl) rfl) rfl 16 (by kernel_rfl) ?_
 have fin1:t=2∨t=5∨t=12→qd7 t=some (0,1,0):=fun h=>by unfold qd7;rw[if_pos h]
 conv=>whnf
 refine⟨fun h1=>?_,fun h1=>?_⟩
 ·rw[fin1 (.inl (by simpa using h1))]
  conv=>whnf
  try (refine brT h1 ?_;conv=>whnf)
  repeat'(first|exact ⟨⟩|exact rfl|exact⟨rfl,rfl,.inr rfl,fun _ _=>rfl⟩|exact⟨rfl,rfl,.inl rfl,fun i hi=>absurd hi (Nat.not_lt_zero _)⟩|apply And.intro)
 simp only [beq_eq_false_iff_ne,ne_eq] at h1
 conv=>whnf
 refine⟨fun h2=>?_,fun h2=>?_⟩
 ·rw[fin1 (.inr (.inl (by simpa using h2)))]
  conv=>whnf
  try (refine brT h2 ?_;conv=>whnf)
  repeat'(first|exact ⟨⟩|exact rfl|exact⟨rfl,rfl,.inr rfl,fun _ _=>rfl⟩|exact⟨rfl,rfl,.inl rfl,fun i hi=>absurd hi (Nat.not_lt_zero _)⟩|apply And.intro)
 simp only [beq_eq_false_iff_ne,ne_eq] at h2
 conv=>whnf
 refine⟨fun h3=>?_,fun h3=>?_⟩
 ·rw[fin1 (.inr (.inr (by simpa using h3)))]
  conv=>whnf
  try (refine brT h3 ?_;conv=>whnf)
  repeat'(first|exact ⟨⟩|exact rfl|exact⟨rfl,rfl,.inr rfl,fun _ _=>rfl⟩|exact⟨rfl,rfl,.inl rfl,fun i hi=>absurd hi (Nat.not_lt_zero _)⟩|apply And.intro)
 simp only [beq_eq_false_iff_ne,ne_eq] at h3
 conv=>whnf
 refine⟨fun h4=>?_,fun h4=>?_⟩
 ·have:qd7 t=some (1,1,0):=by unfold qd7;simp at h4;simp [h4]
  rw[this]
  conv=>whnf
  repeat'(first|exact ⟨⟩|exact rfl|exact⟨rfl,rfl,.inr rfl,fun _ _=>rfl⟩|exact⟨rfl,rfl,.inl rfl,fun i hi=>absurd hi (Nat.not_lt_zero _)⟩|apply And.intro)
 simp only [beq_eq_false_iff_ne,ne_eq] at h4
 conv=>whnf
 refine⟨fun h5=>?_,fun h5=>?_⟩
 ·have:qd7 t=some (3,1,0):=by unfold qd7;simp at h5;simp [h5]
  rw[this]
  conv=>whnf
  repeat'(first|exact ⟨⟩|exact rfl|exact⟨rfl,rfl,.inr rfl,fun _ _=>rfl⟩|exact⟨rfl,rfl,.inl rfl,fun i hi=>absurd hi (Nat.not_lt_zero _)⟩|apply And.intro)
 simp only [beq_eq_false_iff_ne,ne_eq] at h5
 conv=>whnf
 refine⟨fun h6=>?_,fun h6=>?_⟩
 ·have:qd7 t=some (0,2,5):=by unfold qd7;simp at h6;simp [h6]
  rw[this]
  conv=>whnf
  repeat'(first|exact ⟨⟩|exact rfl|exact⟨rfl,rfl,.inr rfl,fun _ _=>rfl⟩|exact⟨rfl,rfl,.inl rfl,fun i hi=>absurd hi (Nat.not_lt_zero _)⟩|apply And.intro)
 simp only [beq_eq_false_iff_ne,ne_eq] at h6
 have:qd7 t=none:=by unfold qd7;simp[h1,h2,h3,h4,h5,h6]
 rw[this]
 conv=>whnf
 repeat'(first|exact ⟨⟩|exact rfl|exact⟨rfl,rfl,.inr rfl,fun _ _=>rfl⟩|exact⟨rfl,rfl,.inl rfl,fun i hi=>absurd hi (Nat.not_lt_zero _)⟩|apply And.intro)
def jd6(s:List UInt8):SV:=if qf0 s=0 then .tup [.any,.d .ff] else .tup [.d (.str (s.take (qf0 s))),.d .tt]
set_option maxRecDepth 100000 in
set_option maxHeartbeats 4000000 in
theorem r4first_ok(s:List UInt8)(_hs:s.length≤2000000):FnOk Tryz.prog 160 [.d (.str s)] (jd6 s):=by
 refine qa3 (TT:=TT) (IN:=qc2 []) qc5 qa1 mixed 1000 Tryz.func160 rfl (qa8 Tryz.func160 (by kernel_rfl) rfl) rfl 22 (by kernel_rfl) ?_
 conv=>whnf
 refine .inv Nat (fun i=>1≤i∧i≤256∧∀ j,j<i→j≤s.length→¬ qb2 (s.take j)) (fun i=>[(4,.d (.int .i64 i))]) (fun _=>[]) (fun i=>256 - i) ⟨1,[],⟨Nat.le_refl _,by omega,fun j hj _ h=>?_⟩,?_⟩ ?_
 ·have:j=0:=by omega
  subst this
  have:=h.1
  simp at this
 ·conv=>whnf
  repeat'(first|exact ⟨⟩|exact rfl|exact fun _=>Iff.rfl|exact fun _ _=>rfl|exact renM_ent rfl _|apply And.intro)
 intro i hi
 obtain⟨h1,h2,h3⟩:=hi
 conv=>whnf
 have done_:(s.length<i∨255<i)→jd6 s = .tup [.any,.d .ff]:=fun hc=>by
  unfold jd6
  rw[if_pos (firstN_none fun k hk hk2=>h3 k (by omega) hk)]
 refine⟨fun c1=>?_,fun c1=>?_⟩
 ·have c1:(i:Int)≤s.length:=of_decide_eq_true c1
  conv=>whnf
  refine⟨fun c2=>?_,fun c2=>?_⟩
  ·have c2:(i:Int)≤255:=of_decide_eq_true c2
   conv=>whnf
   refine⟨by omega,?_⟩
   have hsub:sub s 0 (i:Int)=s.take i:=by unfold sub;simp
   rw[hsub]
   conv=>whnf
   refine .one (.data _ (qn6 (s.take i)) rfl rfl ?_)
   by_cases hn:qb2 (s.take i)
   ·have e:jd6 s = .tup [.d (.str (s.take i)),.d .tt]:=by
     unfold jd6
     rw[firstN_of (by omega) hn,if_neg (by omega)]
    rw[if_pos hn,e]
    conv=>whnf
    refine brT rfl ?_
    conv=>whnf
    refine⟨by omega,?_⟩
    rw[hsub]
    conv=>whnf
    repeat'(first|exact ⟨⟩|exact rfl|exact⟨rfl,rfl,.inr rfl,fun _ _=>rfl⟩|exact⟨rfl,rfl,.inl rfl,fun i hi=>absurd hi (Nat.not_lt_zero _)⟩|apply And.intro)
   ·rw[if_neg hn]
    conv=>whnf
    refine brF rfl ?_
    conv=>whnf
    have hw1:IntKind.i64.wrap ((i:Int)+1)=((i+1:Nat):Int):=by rw[qa4 _ (by omega)];omega
    refine⟨i+1,[],⟨by omega,by omega,fun j hj hjl=>?_⟩,by omega,?_⟩
    ·by_cases hji:j=i
     ·rw[hji];exact hn
     ·exact h3 j (by omega) hjl
    conv=>whnf
    rw[hw1]
    repeat'(first|exact ⟨⟩|exact rfl|exact fun _=>Iff.rfl|exact fun _ _=>rfl|exact renM_ent rfl _|apply And.intro)
  ·have c2:¬ (i:Int)≤255:=of_decide_eq_false c2
   rw[done_ (.inr (by omega))]
   conv=>whnf
   repeat'(first|exact ⟨⟩|exact rfl|exact⟨rfl,rfl,.inr rfl,fun _ _=>rfl⟩|exact⟨rfl,rfl,.inl rfl,fun i hi=>absurd hi (Nat.not_lt_zero _)⟩|apply And.intro)
 ·have c1:¬ (i:Int)≤s.length:=of_decide_eq_false c1
  rw[done_ (.inl (by omega))]
  conv=>whnf
  repeat'(first|exact ⟨⟩|exact rfl|exact⟨rfl,rfl,.inr rfl,fun _ _=>rfl⟩|exact⟨rfl,rfl,.inl rfl,fun i hi=>absurd hi (Nat.not_lt_zero _)⟩|apply And.intro)
def splitP:Option (List UInt8 × List (List UInt8) × List UInt8)→SV
 |none=>.tup [.any,.any,.any,.d .ff]
 |some (x,l,r)=>.tup [.d (.str x),.d (.sl (Nat.beq l.length 0) l.length 1 (strs l)),.d (.str r),.d .tt]
structure R4St where
 i:Nat
 l:List (List UInt8)
 r:List UInt8
set_option maxRecDepth 100000 in
set_option maxHeartbeats 4000000 in
theorem je7(t:Int)(p:Nat × Nat × Nat)(hp:qd7 t=some p)(s:List UInt8)(hs:s.length≤2000000):FnOk Tryz.prog 115 [.d (.int .u16 t),.d (.str s)] (splitP (cutF p.1 p.2.1 p.2.2 s)):=by
 refine qa3 (TT:=TT) (IN:=qc2 []) qc5 qa1 mixed 1000 Tryz.func115 rfl (qa8 Tryz.func115 (by kernel_rfl) rfl) rfl 58 (by kernel_rfl) ?_
 obtain⟨p1,p2,p3⟩:=qm2 hp
 have hpt:=je8 t
 rw [hp] at hpt
 conv=>whnf
 refine .one (.data _ hpt rfl rfl ?_)
 conv=>whnf
 refine⟨fun h1=>?_,fun h1=>?_⟩
 ·have h1:(s.length:Int)<(2 * p.1:Nat):=of_decide_eq_true h1
  have e:cutF p.1 p.2.1 p.2.2 s=none:=by unfold cutF;rw[if_pos (by omega)]
  rw[e]
  conv=>whnf
  repeat'(first|exact ⟨⟩|exact rfl|exact⟨rfl,rfl,.inr rfl,fun _ _=>rfl⟩|exact⟨rfl,rfl,.inl rfl,fun i hi=>absurd hi (Nat.not_lt_zero _)⟩|apply And.intro)
 have h1:¬ (s.length:Int)<(2 * p.1:Nat):=of_decide_eq_false h1
 have hcut:cutF p.1 p.2.1 p.2.2 s=(qm6 p.2.1 (s.drop (2 * p.1))).bind fun q=>if q.2.length=4 * p.2.2 then some (s.take (2 * p.1),q.1,q.2) else none:=by unfold cutF;rw[if_neg (by omega)]
 have hsub0:sub s ((2 * p.1:Nat):Int) (s.length:Int)=s.drop (2 * p.1):=by
  unfold sub
  rw[Int.toNat_natCast,Int.toNat_natCast,List.take_of_length_le (by rw[List.length_drop];omega)]
 conv=>whnf
 refine⟨by omega,?_⟩
 rw[hsub0]
 conv=>whnf
 refine .nilT 13 9 1 (fun _=>[]) _ _ rfl ?_
 refine .inv R4St (fun x=>NAt p.2.1 (s.drop (2 * p.1)) x.i x.l x.r) (fun x=>[(12,.d (.str x.r)),(13,.all 0),(14,.d (.int .i64 x.i))]) (fun x=>[(0,.row 9 1 x.l.length .iff (strs x.l))]) (fun x=>p.2.1 - x.i) ⟨⟨0,[],s.drop (2 * p.1)⟩,[0],NAt.zero _ _,?_⟩ ?_
 ·conv=>whnf
  repeat'(first|exact ⟨⟩|exact rfl|(intro i hi;exact absurd hi (Nat.not_lt_zero _))|exact fun _ _=>rfl|apply And.intro)
 intro x hN
 conv=>whnf
 generalize x.i=i at hN ⊢
 generalize x.l=l at hN ⊢
 generalize x.r=r at hN ⊢
 have hlen:=hN.len
 have hile:=hN.le
 have hsh:=hN.short
 rw [List.length_drop] at hsh
 refine⟨fun c1=>?_,fun c1=>?_⟩
 ·have c1:(i:Int)<p.2.1:=of_decide_eq_true c1
  obtain⟨s1,s2⟩:=hN.step (by omega)
  have hf:=r4first_ok r (by omega)
  have hfl:=jd7 r
  conv=>whnf
  by_cases h0:qf0 r=0
  ·have e:cutF p.1 p.2.1 p.2.2 s=none:=by rw[hcut,s1 h0];rfl
   have ef:jd6 r = .tup [.any,.d .ff]:=by unfold jd6;rw[if_pos h0]
   rw [ef] at hf
   refine .one (.data _ hf rfl rfl ?_)
   rw[e]
   conv=>whnf
   repeat'(first|exact ⟨⟩|exact rfl|exact⟨rfl,rfl,.inr rfl,fun _ _=>rfl⟩|exact⟨rfl,rfl,.inl rfl,fun i hi=>absurd hi (Nat.not_lt_zero _)⟩|apply And.intro)
  ·have ef:jd6 r = .tup [.d (.str (r.take (qf0 r))),.d .tt]:=by unfold jd6;rw[if_neg h0]
   rw [ef] at hf
   have htl:(r.take (qf0 r)).length=qf0 r:=by rw[List.length_take];omega
   have hsub1:sub r ((qf0 r:Nat):Int) (r.length:Int)=r.drop (qf0 r):=by
    unfold sub
    rw[Int.toNat_natCast,Int.toNat_natCast,List.take_of_length_le (by rw[List.length_drop];omega)]
   refine .one (.data _ hf rfl rfl ?_)
   conv=>whnf
   refine⟨by omega,?_⟩
   conv=>whnf
   rw[htl]
   refine⟨by omega,?_⟩
   rw[hsub1]
   have hw1:IntKind.i64.wrap ((i:Int)+1)=((i+1:Nat):Int):=by rw[qa4 _ (by omega)];omega
   conv=>whnf
   refine⟨⟨i+1,l++[r.take (qf0 r)],r.drop (qf0 r)⟩,[2],s2 h0,by show p.2.1 - (i+1)<p.2.1 - i;omega,?_⟩
   conv=>whnf
   rw[hw1]
   repeat'(first|exact ⟨⟩|exact rfl|apply And.intro)
   ·simp
   ·exact ql8 _ _ _ rfl
 ·have c1:¬ (i:Int)<p.2.1:=of_decide_eq_false c1
  have hi:i=p.2.1:=by omega
  subst hi
  have hl:=hN.last
  have hsub2:sub s 0 ((2 * p.1:Nat):Int)=s.take (2 * p.1):=by unfold sub;rw[Int.toNat_natCast];simp
  conv=>whnf
  refine⟨by omega,?_⟩
  rw[hsub2]
  conv=>whnf
  by_cases hr:r.length=4 * p.2.2
  ·have e:cutF p.1 p.2.1 p.2.2 s=some (s.take (2 * p.1),l,r):=by rw[hcut,hl];show(if r.length=4 * p.2.2 then _ else _)=_;rw[if_pos hr]
   rw[e]
   conv=>whnf
   refine⟨rfl,⟨rfl,rfl,.inr rfl,fun _ _=>rfl⟩,rfl,?_,True.intro⟩
   show((r.length:Int) == ((4 * p.2.2:Nat):Int))=true
   simp
   omega
  ·have e:cutF p.1 p.2.1 p.2.2 s=none:=by rw[hcut,hl];show(if r.length=4 * p.2.2 then _ else _)=_;rw[if_neg hr]
   rw[e]
   conv=>whnf
   refine⟨True.intro,True.intro,True.intro,?_,True.intro⟩
   show((r.length:Int) == ((4 * p.2.2:Nat):Int))=false
   simp
   omega
set_option maxRecDepth 100000 in
set_option maxHeartbeats 4000000 in
theorem r4texts_ok(s:List UInt8)(hs:s.length≤2000000):FnOk Tryz.prog 113 [.d (.str s)] (.tup [.any,.d (.bool (ql0 s))]):=by
 refine qa3 (TT:=TT) (IN:=qc2 []) qc5 qa1 mixed 1000 Tryz.func113 rfl (qa8 Tryz.func113 (by kernel_rfl) rfl) rfl 30 (by kernel_rfl) ?_
 conv=>whnf
 refine .nilT 4 9 1 (fun _=>[]) _ _ rfl ?_
 conv=>whnf
 refine .inv (Nat × List (List UInt8)) (fun p=>TAt s p.1 p.2) (fun p=>[(0,.d (.str (s.drop p.1))),(4,.all 0)]) (fun p=>[(0,.row 9 1 p.2.length .iff (strs p.2))]) (fun p=>s.length - p.1) ⟨(0,[]),[0],TAt.zero s,?_⟩ ?_
 ·conv=>whnf
  repeat'(first|exact ⟨⟩|exact rfl|apply And.intro)
  intro i hi
  exact absurd hi (by simp)
 intro p hk
 have hk0:p.1≤s.length:=hk.1
 have hk2:p.2.length≤p.1:=hk.2.1
 have hby:=ji4 s p.1
 have hlen:(s.drop p.1).length=s.length - p.1:=by simp
 conv=>whnf
 refine⟨fun hne=>?_,fun heq=>?_⟩
 ·have hlt:p.1<s.length:=by
   rcases Nat.lt_or_ge p.1 s.length with e|e
   ·exact e
   ·rw [List.drop_eq_nil_of_le e] at hne;simp at hne
  obtain⟨e1,e2⟩:=TAt.step hk hlt
  have hb0:qc9 (s.drop p.1) 0=(bt s p.1:Int):=by
   rw[show(0:Int)=((0:Nat):Int) from rfl,ql7]
   simp[bt]
  conv=>whnf
  refine⟨by omega,?_⟩
  have hsz:IntKind.i64.wrap (1+IntKind.i64.wrap (qc9 (s.drop p.1) 0))=((1+bt s p.1:Nat):Int):=by rw[hb0];simp(disch:=omega) only[qa4];omega
  conv=>whnf
  rw[hsz]
  refine⟨fun hgt=>?_,fun hle=>?_⟩
  ·conv=>whnf
   refine⟨True.intro,?_,True.intro⟩
   have:ql0 s=false:=by unfold ql0;rw [e1 (by simp at hgt;omega)]
   rw[this]
   exact rfl
  ·have hle':p.1+1+bt s p.1≤s.length:=by simp at hle;omega
   conv=>whnf
   refine⟨by omega,?_⟩
   conv=>whnf
   refine⟨by omega,?_⟩
   conv=>whnf
   refine⟨by omega,?_⟩
   conv=>whnf
   refine⟨(p.1+1+bt s p.1,p.2++[(s.drop (p.1+1)).take (bt s p.1)]),[2],e2 hle',by show s.length - (p.1+1+bt s p.1)<s.length - p.1;omega,?_⟩
   conv=>whnf
   repeat'(first|exact ⟨⟩|exact rfl|apply And.intro)
   ·refine congrArg SV.d (congrArg DV.str ?_)
    show sub (s.drop p.1) _ _=s.drop (p.1+1+bt s p.1)
    simp only[sub,Int.toNat_natCast,List.drop_drop]
    rw[List.take_of_length_le (by simp;omega)]
    congr 1
    omega
   ·simp
   ·refine ql8 _ _ _ ?_
    show[DV.str _]=[DV.str _]
    congr 2
    simp only[sub,Int.toNat_natCast,List.drop_drop]
    rw[show(1:Int).toNat=1 from rfl]
    congr 1
    omega
 ·have hke:p.1=s.length:=by
   simp at heq
   omega
  conv=>whnf
  refine⟨True.intro,?_,True.intro⟩
  have:ql0 s=decide (0<p.2.length):=by unfold ql0;rw[TAt.last hk hke]
  rw[this]
  refine congrArg DV.bool ?_
  simp
set_option maxRecDepth 100000 in
set_option maxHeartbeats 4000000 in
theorem jt3(t:Int)(s:List UInt8)(hs:s.length≤2000000):FnOk Tryz.prog 54 [.d (.int .u16 t),.d (.str s)] (.d (.int .i64 (ya9 (qc8 t s)))):=by
 refine qa3 (TT:=TT) (IN:=qc2 []) qc5 qa1 mixed 1000 Tryz.func54 rfl (qa8 Tryz.func54 (by kernel_rfl) rfl) rfl 49 (by kernel_rfl) ?_
 conv=>whnf
 refine⟨fun h1=>?_,fun h1=>?_⟩
 ·have h1:t=1:=by simpa using h1
  have hg:qi8 t s=((s.length:Int) == ((4:Nat):Int)):=by unfold qi8;rw[if_pos h1,lenEq]
  conv=>whnf
  refine⟨fun k1=>?_,fun k1=>?_⟩
  ·have hgood:qi8 t s=false:=by rw[hg];simpa using k1
   have e:qc8 t s=false:=by unfold qc8;rw[hgood,Bool.and_false]
   rw[e]
   conv=>whnf
   exact rfl
  have hgood:qi8 t s=true:=by rw[hg];simpa using k1
  conv=>whnf
  refine⟨fun k2=>?_,fun k2=>?_⟩
  ·have k2:(s.length:Int) > 4096:=of_decide_eq_true k2
   have e:qc8 t s=false:=by unfold qc8;rw[decide_eq_false (by omega)];rfl
   rw[e]
   conv=>whnf
   exact rfl
  ·have k2:¬ (s.length:Int) > 4096:=of_decide_eq_false k2
   have e:qc8 t s=true:=by unfold qc8;rw[decide_eq_true (by omega),hgood];rfl
   rw[e]
   conv=>whnf
   exact rfl
 have h1:¬ t=1:=by simpa using h1
 conv=>whnf
 refine⟨fun h2=>?_,fun h2=>?_⟩
 ·have h2:t=28:=by simpa using h2
  have hg:qi8 t s=((s.length:Int) == ((16:Nat):Int)):=by unfold qi8;rw[if_neg h1,if_pos h2,lenEq]
  conv=>whnf
  refine⟨fun k1=>?_,fun k1=>?_⟩
  ·have hgood:qi8 t s=false:=by rw[hg];simpa using k1
   have e:qc8 t s=false:=by unfold qc8;rw[hgood,Bool.and_false]
   rw[e]
   conv=>whnf
   exact rfl
  have hgood:qi8 t s=true:=by rw[hg];simpa using k1
  conv=>whnf
  refine⟨fun k2=>?_,fun k2=>?_⟩
  ·have k2:(s.length:Int) > 4096:=of_decide_eq_true k2
   have e:qc8 t s=false:=by unfold qc8;rw[decide_eq_false (by omega)];rfl
   rw[e]
   conv=>whnf
   exact rfl
  ·have k2:¬ (s.length:Int) > 4096:=of_decide_eq_false k2
   have e:qc8 t s=true:=by unfold qc8;rw[decide_eq_true (by omega),hgood];rfl
   rw[e]
   conv=>whnf
   exact rfl
 have h2:¬ t=28:=by simpa using h2
 conv=>whnf
 refine⟨fun h3=>?_,fun h3=>?_⟩
 ·have h3:t=16:=by simpa using h3
  have hg:qi8 t s=ql0 s:=by unfold qi8;rw[if_neg h1,if_neg h2,if_pos h3]
  conv=>whnf
  refine .one (.data _ (r4texts_ok s hs) rfl rfl ?_)
  conv=>whnf
  refine⟨fun k1=>?_,fun k1=>?_⟩
  ·have hgood:qi8 t s=false:=by rw[hg];simpa using k1
   have e:qc8 t s=false:=by unfold qc8;rw[hgood,Bool.and_false]
   rw[e]
   conv=>whnf
   exact rfl
  have hgood:qi8 t s=true:=by rw[hg];simpa using k1
  conv=>whnf
  refine⟨fun k2=>?_,fun k2=>?_⟩
  ·have k2:(s.length:Int) > 4096:=of_decide_eq_true k2
   have e:qc8 t s=false:=by unfold qc8;rw[decide_eq_false (by omega)];rfl
   rw[e]
   conv=>whnf
   exact rfl
  ·have k2:¬ (s.length:Int) > 4096:=of_decide_eq_false k2
   have e:qc8 t s=true:=by unfold qc8;rw[decide_eq_true (by omega),hgood];rfl
   rw[e]
   conv=>whnf
   exact rfl
 have h3:¬ t=16:=by simpa using h3
 conv=>whnf
 have hpt:=je8 t
 cases hf:qd7 t with
 |none =>
  have hgood:qi8 t s=true:=by unfold qi8;rw[if_neg h1,if_neg h2,if_neg h3,hf]
  rw [hf] at hpt
  refine .one (.data _ hpt rfl rfl ?_)
  conv=>whnf
  refine⟨fun k2=>?_,fun k2=>?_⟩
  ·have k2:(s.length:Int) > 4096:=of_decide_eq_true k2
   have e:qc8 t s=false:=by unfold qc8;rw[decide_eq_false (by omega)];rfl
   rw[e]
   conv=>whnf
   exact rfl
  ·have k2:¬ (s.length:Int) > 4096:=of_decide_eq_false k2
   have e:qc8 t s=true:=by unfold qc8;rw[decide_eq_true (by omega),hgood];rfl
   rw[e]
   conv=>whnf
   exact rfl
 |some p =>
  rw [hf] at hpt
  have hsp:=je7 t p hf s hs
  refine .one (.data _ hpt rfl rfl ?_)
  conv=>whnf
  cases hc:cutF p.1 p.2.1 p.2.2 s with
  |none =>
   have hgood:qi8 t s=false:=by unfold qi8;rw[if_neg h1,if_neg h2,if_neg h3,hf];show(cutF p.1 p.2.1 p.2.2 s).isSome=false;rw[hc];rfl
   have e:qc8 t s=false:=by unfold qc8;rw[hgood,Bool.and_false]
   rw [hc] at hsp
   refine .one (.data _ hsp rfl rfl ?_)
   rw[e]
   conv=>whnf
   repeat(first|(refine brF rfl ?_;conv=>whnf)|(refine brT rfl ?_;conv=>whnf))
   try exact rfl
  |some q =>
   obtain⟨x,l,r⟩:=q
   have hgood:qi8 t s=true:=by unfold qi8;rw[if_neg h1,if_neg h2,if_neg h3,hf];show(cutF p.1 p.2.1 p.2.2 s).isSome=true;rw[hc];rfl
   rw [hc] at hsp
   refine .one (.data _ hsp rfl rfl ?_)
   conv=>whnf
   refine⟨fun k2=>?_,fun k2=>?_⟩
   ·have k2:(s.length:Int) > 4096:=of_decide_eq_true k2
    have e:qc8 t s=false:=by unfold qc8;rw[decide_eq_false (by omega)];rfl
    rw[e]
    conv=>whnf
    exact rfl
   ·have k2:¬ (s.length:Int) > 4096:=of_decide_eq_false k2
    have e:qc8 t s=true:=by unfold qc8;rw[decide_eq_true (by omega),hgood];rfl
    rw[e]
    conv=>whnf
    exact rfl
end Go.Proofs.YtdfdlbnojmlpiaaGreatDoor
namespace Go.Proofs.YtdfdlbnojmlpiaaGreatDoor
open Go Go.Eng
theorem formOf_pos{t:Int}{p:Nat × Nat × Nat}(h:qd7 t=some p):0<p.2.1:=by
 unfold qd7 at h
 repeat'(split at h)
 all_goals first|(cases h;decide)|cases h
theorem ju9{t:Int}{p:Nat × Nat × Nat}(h:qd7 t=some p):t≠1∧t≠28∧t≠16:=by
 refine⟨?_,?_,?_⟩ <;> (rintro rfl;cases h)
def namesR:Option (List UInt8 × List (List UInt8) × List UInt8)→SV
 |none=>nilS
 |some (_,l,_)=>.d (.sl (Nat.beq l.length 0) l.length 1 (strs l))
def jc7(t:Int)(s:List UInt8):Option (List UInt8 × List (List UInt8) × List UInt8):=(qn0 t s).map (·.2)
theorem ju5{t:Int}{s:List UInt8}{p:Nat × Nat × Nat}(hf:qd7 t=some p)(hr:qc8 t s=true):∃ q,cutF p.1 p.2.1 p.2.2 s=some q∧jc7 t s=some q:=by
 obtain⟨n1,n2,n3⟩:=ju9 hf
 unfold qc8 qi8 at hr
 rw [if_neg n1,if_neg n2,if_neg n3,hf] at hr
 simp only [Bool.and_eq_true,decide_eq_true_eq] at hr
 obtain⟨q,hq⟩:=Option.isSome_iff_exists.1 hr.2
 refine⟨q,hq,?_⟩
 unfold jc7 qn0
 rw[if_pos hr.1,hf]
 show Option.map _ ((cutF p.1 p.2.1 p.2.2 s).map _)=_
 rw[hq];rfl
theorem lookP_bad{t:Int}{s:List UInt8}{p:Nat × Nat × Nat}(hf:qd7 t=some p)(hr:qc8 t s=false):jc7 t s=none:=by
 obtain⟨n1,n2,n3⟩:=ju9 hf
 unfold qc8 qi8 at hr
 rw [if_neg n1,if_neg n2,if_neg n3,hf] at hr
 unfold jc7 qn0
 split
 ·rename_i h
  rw [decide_eq_true h,Bool.true_and] at hr
  have:cutF p.1 p.2.1 p.2.2 s=none:=by
   have hr:(cutF p.1 p.2.1 p.2.2 s).isSome=false:=hr
   cases e:cutF p.1 p.2.1 p.2.2 s
   ·rfl
   ·rw [e] at hr;cases hr
  rw[hf]
  show Option.map _ ((cutF p.1 p.2.1 p.2.2 s).map _)=_
  rw[this];rfl
 ·rfl
theorem ju6{t:Int}{s:List UInt8}(hf:qd7 t=none):jc7 t s=none:=by
 unfold jc7 qn0
 rw[hf];split <;> rfl
set_option maxRecDepth 100000
set_option maxHeartbeats 4000000 in
theorem r4names_ok(t:Int)(s:List UInt8)(hs:s.length≤2000000):FnOk Tryz.prog 119 [.d (.int .u16 t),.d (.str s)] (namesR (jc7 t s)):=by
 refine qa3 (TT:=TT) (IN:=qc2 []) qc5 qa1 mixed 1000 Tryz.func119 rfl (qa8 Tryz.func119 (by kernel_rfl) rfl) rfl 35 (by kernel_rfl) ?_
 have hpt:=je8 t
 cases hf:qd7 t with
 |none =>
  rw [hf] at hpt
  rw[ju6 hf]
  conv=>whnf
  refine .one (.data _ hpt rfl rfl ?_)
  conv=>whnf
  repeat(first|(refine brT rfl ?_;conv=>whnf))
  try exact rfl
  try repeat'(first|exact ⟨⟩|exact rfl|exact⟨rfl,rfl,.inr rfl,fun _ _=>rfl⟩|exact⟨rfl,rfl,.inl rfl,fun i hi=>absurd hi (Nat.not_lt_zero _)⟩|apply And.intro)
 |some p =>
  rw [hf] at hpt
  conv=>whnf
  refine .one (.data _ hpt rfl rfl ?_)
  conv=>whnf
  refine .one (.data _ (jt3 t s hs) rfl rfl ?_)
  cases hr:qc8 t s with
  |false =>
   rw[lookP_bad hf hr]
   conv=>whnf
   repeat(first|(refine brT rfl ?_;conv=>whnf))
   try exact rfl
   try repeat'(first|exact ⟨⟩|exact rfl|exact⟨rfl,rfl,.inr rfl,fun _ _=>rfl⟩|exact⟨rfl,rfl,.inl rfl,fun i hi=>absurd hi (Nat.not_lt_zero _)⟩|apply And.intro)
  |true =>
   obtain⟨q,hq,hl⟩:=ju5 hf hr
   rw[hl]
   conv=>whnf
   refine brF rfl ?_
   conv=>whnf
   have hsp:=je7 t p hf s hs
   rw [hq] at hsp
   refine .one (.data _ hsp rfl rfl ?_)
   conv=>whnf
   exact⟨rfl,rfl,.inr rfl,fun _ _=>rfl⟩
theorem rfold_none{t:Int}{s:List UInt8}(h:jc7 t s=none):qi4 t s=s:=by
 unfold jc7 at h
 unfold qi4
 cases e:qn0 t s with
 |none=>rfl
 |some q=>rw [e] at h;cases h
theorem rfold_some{t:Int}{s x r:List UInt8}{l:List (List UInt8)}(h:jc7 t s=some (x,l,r)):qi4 t s=x++fold l.flatten++r:=by
 unfold jc7 at h
 unfold qi4
 cases e:qn0 t s with
 |none=>rw [e] at h;cases h
 |some q =>
  rw [e] at h
  obtain⟨q1,q2⟩:=q
  have h:q2=(x,l,r):=Option.some.inj h
  subst h
  show x++fold (Lib.join l [])++r=_
  rw[jj3]
set_option maxHeartbeats 4000000 in
theorem jb9(t:Int)(s:List UInt8)(hs:s.length≤2000000):FnOk Tryz.prog 57 [.d (.int .u16 t),.d (.str s)] (.d (.str (qi4 t s))):=by
 refine qa3 (TT:=TT) (IN:=qc2 []) qc5 qa1 mixed 1000 Tryz.func57 rfl (qa8 Tryz.func57 (by kernel_rfl) rfl) rfl 39 (by kernel_rfl) ?_
 conv=>whnf
 refine .one (.data _ (r4names_ok t s hs) (by cases jc7 t s <;> rfl) (by cases jc7 t s <;> rfl) ?_)
 cases hl:jc7 t s with
 |none =>
  rw[rfold_none hl]
  conv=>whnf
  refine brT rfl ?_
  conv=>whnf
  try exact rfl
 |some q =>
  obtain⟨x,l,r⟩:=q
  have hft:∃ p,qd7 t=some p:=by
   cases e:qd7 t with
   |none=>rw [ju6 e] at hl;cases hl
   |some p=>exact⟨p,rfl⟩
  obtain⟨p,hf⟩:=hft
  have hr:qc8 t s=true:=by
   cases e:qc8 t s
   ·rw [lookP_bad hf e] at hl;cases hl
   ·rfl
  obtain⟨q,hq,hl2⟩:=ju5 hf hr
  rw [hl] at hl2
  have hqe:=Option.some.inj hl2
  subst hqe
  have hcat:l.length=p.2.1∧x.length+(l.flatten.length+r.length)≤2000000:=by
   unfold cutF at hq
   split at hq
   ·cases hq
   ·rename_i h2
    cases e:qm6 p.2.1 (s.drop (2 * p.1)) with
    |none=>rw [e] at hq;cases hq
    |some w =>
     rw [e] at hq
     simp only [Option.bind_some] at hq
     split at hq
     ·simp only [Option.some.injEq,Prod.mk.injEq] at hq
      obtain⟨rfl,rfl,rfl⟩:=hq
      obtain⟨e1,e2⟩:=jf2 _ _ w.1 w.2 e
      refine⟨e1,?_⟩
      rw[e2]
      simp;omega
     ·cases hq
  have hpos:=formOf_pos hf
  have hle100:=(qm2 hf).2.1
  have hfol:∀ z:List UInt8,(fold z).length=z.length:=fold_len
  rw[rfold_some hl]
  conv=>whnf
  refine brF (by cases l with|nil=>simp at hcat;omega|cons a l=>simp;omega) ?_
  conv=>whnf
  have hsp:=je7 t p hf s hs
  rw [hq] at hsp
  refine .one (.data _ hsp rfl rfl ?_)
  conv=>whnf
  refine .inv Nat (fun i=>i≤l.length) (fun i=>[(29,iV i),(6,.d (.str (x++fold (l.take i).flatten)))]) (fun _=>[]) (fun i=>l.length - i) ⟨0,[],Nat.zero_le _,?_⟩ ?_
  ·conv=>whnf
   rw[show x++fold (l.take 0).flatten=x by simp[fold]]
   repeat'(first|exact ⟨⟩|exact rfl|exact fun _=>Iff.rfl|exact fun _ _=>rfl|exact renM_ent rfl _|apply And.intro)
  intro i hi
  conv=>whnf
  refine⟨fun c5=>?_,fun c5=>?_⟩
  ·have c5':i<l.length:=(by have h:(i:Int)<l.length:=of_decide_eq_true c5;omega)
   have hw1:IntKind.i64.wrap ((i:Int)+1)=((i+1:Nat):Int):=by rw[qa4 _ (by omega)];omega
   obtain⟨y,hy⟩:∃ y,l[i]?.getD []=y:=⟨_,rfl⟩
   have hly:l[i]=y:=by rw[←hy,List.getElem?_eq_getElem c5'];rfl
   have htk:(l.take (i+1)).flatten=(l.take i).flatten++y:=by
    rw[List.take_add_one,List.getElem?_eq_getElem c5',hly];simp
   have hle:(l.take i).flatten.length+y.length≤2000000:=by
    have h1:l.flatten=(l.take (i+1)).flatten++(l.drop (i+1)).flatten:=by rw[←List.flatten_append,List.take_append_drop]
    have h2:=congrArg List.length h1
    rw [htk] at h2
    simp only [List.length_append] at h2
    omega
   conv=>whnf
   refine⟨by omega,?_⟩
   conv=>whnf
   rw[Int.toNat_natCast,hy]
   refine .one (.data _ (qr4 y (by omega)) rfl rfl ?_)
   conv=>whnf
   refine⟨by rw[List.length_append,hfol,hfol];omega,?_⟩
   conv=>whnf
   rw[hw1]
   refine⟨i+1,[],c5',by omega,?_⟩
   rw[htk,show x++fold ((l.take i).flatten++y)=(x++fold (l.take i).flatten)++fold y by unfold fold;rw[List.map_append,List.append_assoc]]
   conv=>whnf
   repeat'(first|exact ⟨⟩|exact rfl|exact fun _=>Iff.rfl|exact fun _ _=>rfl|exact renM_ent rfl _|apply And.intro)
  ·have hia:i=l.length:=(by have h:¬ (i:Int)<l.length:=of_decide_eq_false c5;omega)
   subst hia
   rw[List.take_length]
   conv=>whnf
   refine⟨by rw[List.length_append,hfol];omega,?_⟩
   conv=>whnf
   try exact rfl
end Go.Proofs.YtdfdlbnojmlpiaaGreatDoor
namespace Go.Proofs.YtdfdlbnojmlpiaaGreatDoor
open Go Go.Eng
set_option maxRecDepth 100000
set_option maxHeartbeats 4000000 in
theorem qn5(r:RR)(hd:r.d.length≤2000000):FnOk Tryz.prog 17 [r.V] (.d (.int .i64 (ya9 r.check))):=by
 refine qa3 (TT:=TT) (IN:=qc2 []) qc5 qa1 mixed 1000 Tryz.func17 rfl (qa8 Tryz.func17 (by kernel_rfl) rfl) rfl 24 (by kernel_rfl) ?_
 conv=>whnf
 refine .one (.data _ (qn6 r.nm) rfl rfl ?_)
 by_cases hn:qb2 r.nm
 ·rw[if_pos hn]
  conv=>whnf
  refine brF rfl ?_
  conv=>whnf
  refine .one (.data _ (jt3 r.ty r.d hd) rfl rfl ?_)
  cases hc:qc8 r.ty r.d
  ·have e:r.check=false:=by simp[RR.check,hc]
   rw[e]
   conv=>whnf
   repeat(first|(refine brF rfl ?_;conv=>whnf)|(refine brT rfl ?_;conv=>whnf))
   try exact rfl
  ·conv=>whnf
   refine brF rfl ?_
   conv=>whnf
   refine⟨fun c1=>?_,fun c1=>?_⟩
   ·have c1':¬ r.ty=41:=by simpa using c1
    conv=>whnf
    refine⟨fun c2=>?_,fun c2=>?_⟩
    ·have c2':¬ r.ttl≤2147483647:=by
      have:r.ttl > 2147483647:=of_decide_eq_true c2
      omega
     have e:r.check=false:=by simp[RR.check,c1',c2']
     rw[e]
     conv=>whnf
     exact rfl
    ·have c2':r.ttl≤2147483647:=by
      have:¬ r.ttl > 2147483647:=of_decide_eq_false c2
      omega
     have e:r.check=true:=by simp[RR.check,hn,hc,c2']
     rw[e]
     conv=>whnf
     exact rfl
   ·have c1':r.ty=41:=by simpa using c1
    have e:r.check=true:=by
     simp only[RR.check,hn,hc,decide_true,Bool.true_and,Bool.or_eq_true,beq_iff_eq]
     exact .inr c1'
    rw[e]
    conv=>whnf
    exact rfl
 ·rw[if_neg hn]
  have e:r.check=false:=by simp[RR.check,hn]
  rw[e]
  conv=>whnf
  repeat(first|(refine brF rfl ?_;conv=>whnf)|(refine brT rfl ?_;conv=>whnf))
  try exact rfl
end Go.Proofs.YtdfdlbnojmlpiaaGreatDoor
namespace Go.Proofs.YtdfdlbnojmlpiaaGreatDoor
open Go Go.Eng
set_option maxRecDepth 100000
theorem same_chk{a b:List UInt8}(ha:qb2 a)(hb:qb2 b):jx5 a b=(fold a == fold b):=by unfold jx5;rw[decide_eq_true ha,decide_eq_true hb];rfl
set_option maxHeartbeats 4000000 in
theorem r5same_ok(a b:RR)(hda:a.d.length≤2000000)(hdb:b.d.length≤2000000):FnOk Tryz.prog 19 [a.V,b.V] (.d (.bool (qz2 a b))):=by
 refine qa3 (TT:=TT) (IN:=qc2 []) qc5 qa1 mixed 1000 Tryz.func19 rfl (qa8 Tryz.func19 (by kernel_rfl) rfl) rfl 45 (by kernel_rfl) ?_
 conv=>whnf
 refine .data _ (qn5 a hda) rfl rfl ?_
 cases ha:a.check with
 |false =>
  rw[show qz2 a b=false by unfold qz2;rw[ha];rfl]
  conv=>whnf
  repeat(first|(refine brF rfl ?_;conv=>whnf)|(refine brT rfl ?_;conv=>whnf))
  repeat'(first|exact ⟨⟩|exact rfl|exact fun _=>Iff.rfl|exact fun _ _=>rfl|exact renM_ent rfl _|apply And.intro)
 |true =>
  conv=>whnf
  repeat(first|(refine brF rfl ?_;conv=>whnf)|(refine brT rfl ?_;conv=>whnf))
  refine .data _ (qn5 b hdb) rfl rfl ?_
  cases hb:b.check with
  |false =>
   rw[show qz2 a b=false by unfold qz2;rw[ha,hb];rfl]
   conv=>whnf
   repeat(first|(refine brF rfl ?_;conv=>whnf)|(refine brT rfl ?_;conv=>whnf))
   repeat'(first|exact ⟨⟩|exact rfl|exact fun _=>Iff.rfl|exact fun _ _=>rfl|exact renM_ent rfl _|apply And.intro)
  |true =>
   have e:qz2 a b=(fold a.nm == fold b.nm && (a.ty == b.ty && (a.cl == b.cl && (qi4 a.ty a.d == qi4 b.ty b.d && true)))):=by
    rw[same_eq];unfold qz2;rw[ha,hb];rfl
   rw[e]
   conv=>whnf
   repeat(first|(refine brF rfl ?_;conv=>whnf)|(refine brT rfl ?_;conv=>whnf))
   refine .data _ (r1same_ok a.nm b.nm) rfl rfl ?_
   rw[same_chk (qg4 ha) (qg4 hb)]
   by_cases h1:fold a.nm=fold b.nm
   case neg =>
    rw[show(fold a.nm == fold b.nm)=false by simp[h1]]
    conv=>whnf
    repeat(first|(refine brF rfl ?_;conv=>whnf)|(refine brT rfl ?_;conv=>whnf))
    repeat'(first|exact ⟨⟩|exact rfl|exact fun _=>Iff.rfl|exact fun _ _=>rfl|exact renM_ent rfl _|apply And.intro)
   rw[show(fold a.nm == fold b.nm)=true by simp[h1],Bool.true_and]
   conv=>whnf
   repeat(first|(refine brF rfl ?_;conv=>whnf)|(refine brT rfl ?_;conv=>whnf))
   by_cases h2:a.ty=b.ty
   case neg =>
    rw[show(a.ty == b.ty)=false by simp[h2]]
    conv=>whnf
    repeat(first|(refine brF rfl ?_;conv=>whnf)|(refine brT rfl ?_;conv=>whnf))
    repeat'(first|exact ⟨⟩|exact rfl|exact fun _=>Iff.rfl|exact fun _ _=>rfl|exact renM_ent rfl _|apply And.intro)
   rw[show(a.ty == b.ty)=true by simp[h2],Bool.true_and]
   conv=>whnf
   repeat(first|(refine brF rfl ?_;conv=>whnf)|(refine brT rfl ?_;conv=>whnf))
   by_cases h3:a.cl=b.cl
   case neg =>
    rw[show(a.cl == b.cl)=false by simp[h3]]
    conv=>whnf
    repeat(first|(refine brF rfl ?_;conv=>whnf)|(refine brT rfl ?_;conv=>whnf))
    repeat'(first|exact ⟨⟩|exact rfl|exact fun _=>Iff.rfl|exact fun _ _=>rfl|exact renM_ent rfl _|apply And.intro)
   rw[show(a.cl == b.cl)=true by simp[h3],Bool.true_and]
   conv=>whnf
   repeat(first|(refine brF rfl ?_;conv=>whnf)|(refine brT rfl ?_;conv=>whnf))
   refine .data _ (jb9 a.ty a.d hda) rfl rfl ?_
   conv=>whnf
   refine .data _ (jb9 b.ty b.d hdb) rfl rfl ?_
   conv=>whnf
   rw[Bool.and_true]
   repeat'(first|exact ⟨⟩|exact rfl|exact fun _=>Iff.rfl|exact fun _ _=>rfl|exact renM_ent rfl _|apply And.intro)
def lessE(a b:RR):Bool :=
 if fold a.nm≠fold b.nm then qj0 a.nm b.nm else if a.ty≠b.ty then decide (a.ty<b.ty) else if a.cl≠b.cl then decide (a.cl<b.cl)
 else if qi4 a.ty a.d≠qi4 b.ty b.d then Op.bytesLess (qi4 a.ty a.d) (qi4 b.ty b.d) else if a.nm≠b.nm then Op.bytesLess a.nm b.nm
 else if a.d≠b.d then Op.bytesLess a.d b.d else decide (a.ttl<b.ttl)
theorem jg9{n:List UInt8}(h:qb2 n):qj6 (fold n)=qj6 n:=by
 unfold qj6
 rw[show fl (fold n)=fl n by
  have h1:fl (fold n)=(labN (fold n)).map fold:=rfl
  rw[h1,jn8 h]
  unfold fl
  rw[List.map_map]
  congr 1
  funext x
  exact jo6 x]
theorem wless_fold{a b:List UInt8}(ha:qb2 a)(hb:qb2 b):qj0 (fold a) (fold b)=qj0 a b:=by
 unfold qj0
 rw[jg9 ha,jg9 hb,decide_eq_true ha,decide_eq_true hb,decide_eq_true (qj9 ha),decide_eq_true (qj9 hb)]
theorem lx_lt{x y:Int}:decide (lx x y<0)=if x≠0 then decide (x<0) else decide (y<0):=by
 unfold lx
 split <;> rfl
theorem cmpI_lt{x y:Int}:decide (cmpI x y<0)=decide (x<y):=by
 unfold cmpI
 by_cases h:x<y
 ·rw[if_pos h];simp[h]
 ·rw[if_neg h]
  split <;> simp[h]
theorem cmpI_ne{x y:Int}:cmpI x y≠0↔x≠y:=⟨fun h e=>h (by rw[e];exact jp8 y),fun h e=>h (qs4 e)⟩
theorem cmpB_ne{x y:List UInt8}:Lib.compareBytes x y≠0↔x≠y:=not_congr (qq8 x y)
theorem cmpB_lt{x y:List UInt8}:decide (Lib.compareBytes x y<0)=Op.bytesLess x y:=by
 rw[Bool.eq_iff_iff,decide_eq_true_iff];exact jp6 x y
theorem less_e{a b:RR}(ha:a.check=true)(hb:b.check=true):qu8 a b=lessE a b:=by
 unfold qu8
 rw[ha,hb,ord_7]
 show decide (ord7 a b<0)=_
 unfold ord7 lessE
 simp only[lx_lt,cmpI_lt,cmpI_ne,cmpB_ne,cmpB_lt]
 have hc:cN a b≠0↔fold a.nm≠fold b.nm:=by
  unfold cN
  by_cases e:fold a.nm=fold b.nm
  ·rw[if_neg (fun h=>h e)];simp[e]
  ·rw[if_pos e]
   refine⟨fun _=>e,fun _=>?_⟩
   split <;> decide
 by_cases e:fold a.nm=fold b.nm
 ·rw[if_neg (show ¬ (cN a b≠0) from fun h=>hc.1 h e),if_neg (show ¬ (fold a.nm≠fold b.nm) from fun h=>h e)]
 ·rw[if_pos (hc.2 e),if_pos e]
  unfold cN
  rw[if_pos e,wless_fold (qg4 ha) (qg4 hb)]
  cases qj0 a.nm b.nm <;> decide
set_option maxHeartbeats 8000000 in
theorem r5less_ok(a b:RR)(hda:a.d.length≤2000000)(hdb:b.d.length≤2000000):FnOk Tryz.prog 21 [a.V,b.V] (.d (.bool (qu8 a b))):=by
 refine qa3 (TT:=TT) (IN:=qc2 []) qc5 qa1 mixed 1000 Tryz.func21 rfl (qa8 Tryz.func21 (by kernel_rfl) rfl) rfl 85 (by kernel_rfl) ?_
 conv=>whnf
 refine .one (.data _ (qn5 a hda) rfl rfl ?_)
 cases ha:a.check with
 |false =>
  rw[show qu8 a b=false by unfold qu8;rw[ha];rfl]
  conv=>whnf
  repeat(first|(refine brF rfl ?_;conv=>whnf)|(refine brT rfl ?_;conv=>whnf))
  repeat'(first|exact ⟨⟩|exact rfl|exact fun _=>Iff.rfl|exact fun _ _=>rfl|exact renM_ent rfl _|apply And.intro)
 |true =>
  conv=>whnf
  repeat(first|(refine brF rfl ?_;conv=>whnf)|(refine brT rfl ?_;conv=>whnf))
  refine .one (.data _ (qn5 b hdb) rfl rfl ?_)
  cases hb:b.check with
  |false =>
   rw[show qu8 a b=false by unfold qu8;rw[ha,hb];rfl]
   conv=>whnf
   repeat(first|(refine brF rfl ?_;conv=>whnf)|(refine brT rfl ?_;conv=>whnf))
   repeat'(first|exact ⟨⟩|exact rfl|exact fun _=>Iff.rfl|exact fun _ _=>rfl|exact renM_ent rfl _|apply And.intro)
  |true =>
   rw[less_e ha hb]
   unfold lessE
   have na:=qg4 ha
   have nb:=qg4 hb
   conv=>whnf
   repeat(first|(refine brF rfl ?_;conv=>whnf)|(refine brT rfl ?_;conv=>whnf))
   refine .one (.data _ (r1same_ok a.nm b.nm) rfl rfl ?_)
   rw[same_chk na nb]
   by_cases h1:fold a.nm=fold b.nm
   case neg =>
    rw[show(fold a.nm == fold b.nm)=false by simp[h1],if_pos h1]
    conv=>whnf
    repeat(first|(refine brF rfl ?_;conv=>whnf)|(refine brT rfl ?_;conv=>whnf))
    refine .one (.data _ (r2less_ok a.nm b.nm (by have:=jn3 ha;omega) (by have:=jn3 hb;omega)) rfl rfl ?_)
    conv=>whnf
    repeat'(first|exact ⟨⟩|exact rfl|exact fun _=>Iff.rfl|exact fun _ _=>rfl|exact renM_ent rfl _|apply And.intro)
   rw[show(fold a.nm == fold b.nm)=true by simp[h1],if_neg (fun h=>h h1)]
   conv=>whnf
   repeat(first|(refine brF rfl ?_;conv=>whnf)|(refine brT rfl ?_;conv=>whnf))
   by_cases h2:a.ty=b.ty
   case neg =>
    rw[if_pos h2]
    refine brT (by simp[h2]) ?_
    conv=>whnf
    repeat'(first|exact ⟨⟩|exact rfl|exact fun _=>Iff.rfl|exact fun _ _=>rfl|exact renM_ent rfl _|apply And.intro)
   rw[if_neg (fun h=>h h2)]
   refine brF (by simp[h2]) ?_
   conv=>whnf
   by_cases h3:a.cl=b.cl
   case neg =>
    rw[if_pos h3]
    refine brT (by simp[h3]) ?_
    conv=>whnf
    repeat'(first|exact ⟨⟩|exact rfl|exact fun _=>Iff.rfl|exact fun _ _=>rfl|exact renM_ent rfl _|apply And.intro)
   rw[if_neg (fun h=>h h3)]
   refine brF (by simp[h3]) ?_
   conv=>whnf
   refine .data _ (jb9 a.ty a.d hda) rfl rfl ?_
   conv=>whnf
   refine .data _ (jb9 b.ty b.d hdb) rfl rfl ?_
   conv=>whnf
   by_cases h4:qi4 a.ty a.d=qi4 b.ty b.d
   case neg =>
    rw[if_pos h4]
    refine brT (by simp[h4]) ?_
    conv=>whnf
    repeat'(first|exact ⟨⟩|exact rfl|exact fun _=>Iff.rfl|exact fun _ _=>rfl|exact renM_ent rfl _|apply And.intro)
   rw[if_neg (fun h=>h h4)]
   refine brF (by simp[h4]) ?_
   conv=>whnf
   by_cases h5:a.nm=b.nm
   case neg =>
    rw[if_pos h5]
    refine brT (by simp[h5]) ?_
    conv=>whnf
    repeat'(first|exact ⟨⟩|exact rfl|exact fun _=>Iff.rfl|exact fun _ _=>rfl|exact renM_ent rfl _|apply And.intro)
   rw[if_neg (fun h=>h h5)]
   refine brF (by simp[h5]) ?_
   conv=>whnf
   by_cases h6:a.d=b.d
   case neg =>
    rw[if_pos h6]
    refine brT (by simp[h6]) ?_
    conv=>whnf
    repeat'(first|exact ⟨⟩|exact rfl|exact fun _=>Iff.rfl|exact fun _ _=>rfl|exact renM_ent rfl _|apply And.intro)
   rw[if_neg (fun h=>h h6)]
   refine brF (by simp[h6]) ?_
   conv=>whnf
   repeat'(first|exact ⟨⟩|exact rfl|exact fun _=>Iff.rfl|exact fun _ _=>rfl|exact renM_ent rfl _|apply And.intro)
end Go.Proofs.YtdfdlbnojmlpiaaGreatDoor
namespace Go.Proofs.YtdfdlbnojmlpiaaGreatDoor
open Go Go.Eng
set_option maxRecDepth 100000
theorem jz9(r:RR):∀ (D:List RR) (k:Nat),k≤D.length→(∀ i,i<k→¬ ordR r (D.getD i default)<0)→(k=D.length∨ordR r (D.getD k default)<0)→jd1 r D=D.take k++r :: D.drop k
 |[],k=>fun h _ _=>by
  have:k=0:=by simpa using h
  subst this
  rfl
 |d :: D,0=>fun _ _ h=>by
  have h:ordR r d<0:=h.resolve_left (by simp)
  unfold jd1
  rw[if_pos h];rfl
 |d :: D,k+1=>fun h1 h2 h3=>by
  have h0:¬ ordR r d<0:=h2 0 (by omega)
  have ih:=jz9 r D k (by simpa using h1) (fun i hi=>h2 (i+1) (by omega)) (by
   rcases h3 with h|h
   ·left;simpa using h
   ·right;exact h)
  unfold jd1
  rw[if_neg h0,ih];rfl
theorem sortRR_next(l:List RR)(r:RR):qh3 (l++[r])=if r.check then jd1 r (qh3 l) else qh3 l:=by
 unfold qh3
 rw[List.filter_append,List.foldl_append]
 cases h:r.check <;> simp[h]
theorem js9(l:List RR):(qh3 l).length≤l.length:=by
 rw[(jl5 l).2.length_eq];exact List.length_filter_le _ _
theorem js8{l:List RR}{r:RR}(h:r ∈ qh3 l):r ∈ l∧r.check=true:=List.mem_filter.1 ((jl5 l).2.mem_iff.1 h)
theorem rrs_at(l:List RR)(i:Nat):rrs l i=(l[i]?.getD default).enc:=by unfold rrs;rw[List.getD_eq_getElem?_getD]
theorem insR_row(D:List RR)(x:RR)(k:Nat)(hk:k≤D.length)(i:Nat):catF (0+((k:Int) - 0).toNat+1) (catF (0+((k:Int) - 0).toNat) (catF 0 (qh1 [] 5) fun j=>rrs D (Int.toNat 0+j)) (qh1 x.enc 5)) (fun j=>rrs D ((k:Int).toNat+j)) i=rrs (D.take k++x :: D.drop k) i:=by
 rw[show 0+((k:Int) - 0).toNat=k by omega,Int.toNat_natCast]
 rw[rrs_at]
 unfold catF
 rcases Nat.lt_trichotomy i k with h|h|h
 ·rw[if_pos (by omega),if_pos h,if_neg (by omega)]
  rw[List.getElem?_append_left (by simp;omega),List.getElem?_take_of_lt h]
  show rrs D (Int.toNat 0+(i - 0))=_
  rw[rrs_at]
  simp
 ·subst h
  rw[if_pos (by omega),if_neg (by omega),Nat.sub_self]
  rw[List.getElem?_append_right (by simp;omega)]
  rw[show i - (D.take i).length=0 by simp;omega]
  rfl
 ·rw[if_neg (by omega)]
  rw[List.getElem?_append_right (by simp;omega)]
  rw[show i - (D.take k).length=(i - k - 1)+1 by simp;omega]
  rw[List.getElem?_cons_succ,List.getElem?_drop]
  show rrs D (k+(i - (k+1)))=_
  rw[rrs_at,show i - (k+1)=i - k - 1 by omega]
def zz:List RR→Z
 |[]=>.iff
 |_ :: _=>.no
theorem zz_ins(l m:List RR)(x:RR):zz (l++x :: m) = .no:=by cases l <;> rfl
set_option maxHeartbeats 8000000 in
theorem r5sort_ok(z:Bool)(l:List RR)(hn:l.length≤100000)(hl:∀ r ∈ l,r.d.length≤2000000):FnOk Tryz.prog 24 [.d (rrsD z l)] (.d (rrsD (qh3 l).isEmpty (qh3 l))):=by
 refine qa3 (TT:=TT) (IN:=qc2 []) qc5 qa1 mixed 1000 Tryz.func24 rfl (qa8 Tryz.func24 (by kernel_rfl) rfl) rfl 47 (by kernel_rfl) ?_
 conv=>whnf
 refine .nilT 3 44 5 (rrs []) _ _ rfl ?_
 conv=>whnf
 refine .inv Nat (fun i=>i≤l.length) (fun i=>[(10,iV i),(3,.all 0)]) (fun i=>[(0,.row 44 5 (qh3 (l.take i)).length (zz (qh3 (l.take i))) (rrs (qh3 (l.take i))))]) (fun i=>l.length - i) ⟨0,[0],Nat.zero_le _,?_⟩ ?_
 ·conv=>whnf
  repeat'(first|exact ⟨⟩|exact rfl|exact qa2 _|exact Or.inr rfl|exact fun _ _=>rfl|exact fun _ h=>absurd h (Nat.not_lt_zero _)|apply And.intro)
 intro i hi
 conv=>whnf
 refine⟨fun h1=>?_,fun h1=>?_⟩
 ·have h1:i<l.length:=by
   have h:(i:Int)<l.length:=of_decide_eq_true h1
   omega
  obtain⟨r,hr⟩:∃ r,l.getD i default=r:=⟨_,rfl⟩
  have hrl:l[i]? = some r:=by rw[←hr,List.getD,List.getElem?_eq_getElem h1];rfl
  have hrd:=hl r (List.mem_of_getElem? hrl)
  have htk:l.take (i+1)=l.take i++[r]:=by rw[List.take_add_one,hrl];rfl
  have hw1:IntKind.i64.wrap ((i:Int)+1)=((i+1:Nat):Int):=by rw[qa4 _ (by omega)];omega
  have hnx:=sortRR_next (l.take i) r
  rw [←htk] at hnx
  have hDm:∀ x ∈ qh3 (l.take i),x.d.length≤2000000∧x.check=true:=fun x hx=>⟨hl x (List.mem_of_mem_take (js8 hx).1),(js8 hx).2⟩
  have hDl:(qh3 (l.take i)).length≤i:=Nat.le_trans (js9 _) (by rw[List.length_take];omega)
  conv=>whnf
  refine⟨by omega,?_⟩
  conv=>whnf
  rw[Int.toNat_natCast,hr]
  refine .one (.data _ (qn5 r hrd) rfl rfl ?_)
  cases hck:r.check with
  |false =>
   rw [hck,if_neg (by decide)] at hnx
   conv=>whnf
   repeat(first|(refine brF rfl ?_;conv=>whnf)|(refine brT rfl ?_;conv=>whnf))
   rw[hw1]
   refine⟨i+1,[0],h1,by omega,?_⟩
   rw[hnx]
   conv=>whnf
   repeat'(first|exact ⟨⟩|exact rfl|exact qa2 _|exact Or.inr rfl|exact fun _ _=>rfl|exact fun _ h=>absurd h (Nat.not_lt_zero _)|apply And.intro)
  |true =>
   rw [hck,if_pos rfl] at hnx
   conv=>whnf
   repeat(first|(refine brF rfl ?_;conv=>whnf)|(refine brT rfl ?_;conv=>whnf))
   generalize qh3 (l.take i)=D at hnx hDm hDl ⊢
   refine .inv Nat (fun k=>k≤D.length∧∀ i,i<k→¬ ordR r (D.getD i default)<0) (fun k=>[(6,iV k)]) (fun _=>[(0,.row 44 5 D.length .may (rrs D))]) (fun k=>D.length - k) ⟨0,[0,1],⟨Nat.zero_le _,fun i hi=>absurd hi (Nat.not_lt_zero _)⟩,?_⟩ ?_
   ·conv=>whnf
    repeat'(first|exact ⟨⟩|exact rfl|exact qa2 _|exact Or.inr rfl|exact fun _ _=>rfl|exact fun _ h=>absurd h (Nat.not_lt_zero _)|apply And.intro)
   intro k hk
   obtain⟨k1,k2⟩:=hk
   have hkw:IntKind.i64.wrap ((k:Int)+1)=((k+1:Nat):Int):=by rw[qa4 _ (by omega)];omega
   conv=>whnf
   by_cases h6:k<D.length
   ·refine brT (decide_eq_true (by omega)) ?_
    obtain⟨hDk1,hDk2⟩:=hDm (D.getD k default) (by rw[List.getD_eq_getElem?_getD,List.getElem?_eq_getElem h6];exact List.getElem_mem h6)
    conv=>whnf
    refine⟨by omega,?_⟩
    conv=>whnf
    rw[Int.toNat_natCast]
    refine .data _ (r5less_ok r (D.getD k default) hrd hDk1) rfl rfl ?_
    have hls:qu8 r (D.getD k default)=decide (ordR r (D.getD k default)<0):=by unfold qu8;rw[hck,hDk2];rfl
    rw[hls]
    by_cases h7:ordR r (D.getD k default)<0
    ·rw[decide_eq_true h7]
     have hins:=jz9 r D k k1 k2 (.inr h7)
     conv=>whnf
     repeat(first|(refine brF rfl ?_;conv=>whnf)|(refine brT rfl ?_;conv=>whnf))
     refine⟨by omega,?_⟩
     conv=>whnf
     refine⟨by omega,?_⟩
     conv=>whnf
     refine⟨by omega,?_⟩
     conv=>whnf
     refine⟨by omega,?_⟩
     conv=>whnf
     refine⟨by omega,?_⟩
     conv=>whnf
     refine⟨by omega,?_⟩
     conv=>whnf
     refine⟨by omega,?_⟩
     conv=>whnf
     rw[hw1]
     refine⟨i+1,[6],h1,by omega,?_⟩
     rw[hnx,hins]
     conv=>whnf
     repeat'(first|exact ⟨⟩|exact rfl|exact qa2 _|exact Or.inr rfl|exact fun _ _=>rfl|exact fun _ h=>absurd h (Nat.not_lt_zero _)|apply And.intro)
     ·simp only[List.length_append,List.length_take,List.length_cons,List.length_drop];omega
     ·rw[zz_ins];exact True.intro
     ·exact fun x hx=>insR_row D r k k1 x
    ·rw[decide_eq_false h7]
     conv=>whnf
     repeat(first|(refine brF rfl ?_;conv=>whnf)|(refine brT rfl ?_;conv=>whnf))
     rw[hkw]
     refine⟨k+1,[0,1],⟨h6,fun i hi=>?_⟩,by omega,?_⟩
     ·rcases Nat.lt_or_ge i k with x|x
      ·exact k2 i x
      ·rw[show i=k by omega];exact h7
     conv=>whnf
     repeat'(first|exact ⟨⟩|exact rfl|exact qa2 _|exact Or.inr rfl|exact fun _ _=>rfl|exact fun _ h=>absurd h (Nat.not_lt_zero _)|apply And.intro)
   ·have h6':k=D.length:=by omega
    have hins:=jz9 r D k k1 k2 (.inl h6')
    refine brF (decide_eq_false (by omega)) ?_
    conv=>whnf
    repeat(first|(refine brF rfl ?_;conv=>whnf)|(refine brT rfl ?_;conv=>whnf))
    refine⟨by omega,?_⟩
    conv=>whnf
    refine⟨by omega,?_⟩
    conv=>whnf
    refine⟨by omega,?_⟩
    conv=>whnf
    refine⟨by omega,?_⟩
    conv=>whnf
    refine⟨by omega,?_⟩
    conv=>whnf
    refine⟨by omega,?_⟩
    conv=>whnf
    refine⟨by omega,?_⟩
    conv=>whnf
    rw[hw1]
    refine⟨i+1,[6],h1,by omega,?_⟩
    rw[hnx,hins]
    conv=>whnf
    repeat'(first|exact ⟨⟩|exact rfl|exact qa2 _|exact Or.inr rfl|exact fun _ _=>rfl|exact fun _ h=>absurd h (Nat.not_lt_zero _)|apply And.intro)
    ·simp only[List.length_append,List.length_take,List.length_cons,List.length_drop];omega
    ·rw[zz_ins];exact True.intro
    ·exact fun x hx=>insR_row D r k k1 x
 ·have h1:i=l.length:=by
   have h:¬ (i:Int)<l.length:=of_decide_eq_false h1
   omega
  subst h1
  rw[List.take_length]
  generalize qh3 l=D
  cases D <;> (conv=>whnf) <;> repeat'(first|exact ⟨⟩|exact rfl|exact fun _ _=>rfl|exact .inr rfl|apply And.intro)
end Go.Proofs.YtdfdlbnojmlpiaaGreatDoor
namespace Go.Proofs.YtdfdlbnojmlpiaaGreatDoor
open Go Go.Eng
set_option maxRecDepth 100000
set_option maxHeartbeats 16000000 in
theorem rtells_ok(x y:RR)(z:Bool)(l:List RR)(hx:x.d.length≤2000000)(hy:y.d.length≤2000000)(hl:∀ r ∈ l,r.d.length≤2000000):FnOk Tryz.prog 4 [x.V,y.V,.d (rrsD z l)] (.d (.bool true)):=by
 refine qa3 (TT:=TT) (IN:=qc2 []) qc5 qa1 mixed 1000 Tryz.func4 rfl (qa8 Tryz.func4 (by kernel_rfl) rfl) rfl 41 (by kernel_rfl) ?_
 conv=>whnf
 by_cases h1:l.length > 40
 ·refine brT (decide_eq_true (by omega)) ?_
  conv=>whnf
  repeat(first|(refine brF rfl ?_;conv=>whnf)|(refine brT rfl ?_;conv=>whnf))
  refine .one (.data _ rlives_ok rfl rfl ?_)
  conv=>whnf
  repeat'(first|exact ⟨⟩|exact rfl|exact fun _=>Iff.rfl|exact fun _ _=>rfl|exact renM_ent rfl _|apply And.intro)
 refine brF (decide_eq_false (by omega)) ?_
 conv=>whnf
 refine .data _ rlives_ok rfl rfl ?_
 conv=>whnf
 repeat(first|(refine brF rfl ?_;conv=>whnf)|(refine brT rfl ?_;conv=>whnf))
 refine .data _ (qh6 x) rfl rfl ?_
 conv=>whnf
 refine .data _ (qn5 x hx) rfl rfl ?_
 conv=>whnf
 rw[show((ya9 x.check:Int) == ya9 x.check)=true from beq_self_eq_true _]
 repeat(first|(refine brF rfl ?_;conv=>whnf)|(refine brT rfl ?_;conv=>whnf))
 refine .data _ (rsame_ok x y) rfl rfl ?_
 conv=>whnf
 refine .data _ (r5same_ok x y hx hy) rfl rfl ?_
 conv=>whnf
 refine brT (beq_self_eq_true _) ?_
 conv=>whnf
 refine .data _ (jx8 x y) rfl rfl ?_
 conv=>whnf
 refine .data _ (r5less_ok x y hx hy) rfl rfl ?_
 conv=>whnf
 refine brT (beq_self_eq_true _) ?_
 conv=>whnf
 have hb:∃ b:Bool,b=(qh3 l).isEmpty:=⟨_,rfl⟩
 obtain⟨b,hb⟩:=hb
 have h5:=r5sort_ok z l (by omega) hl
 rw [←hb] at h5
 have hlen:(qh3 l).length≤1000000:=Nat.le_trans (js9 l) (by omega)
 refine .data _ (rsorts_ok z l (by omega)).ok rfl rfl ?_
 conv=>whnf
 refine .data _ h5 rfl rfl ?_
 have hs:=samel_ok false b (qh3 l) (qh3 l) hlen
 rw [decide_eq_true rfl] at hs
 conv=>whnf
 refine .data _ hs rfl rfl ?_
 conv=>whnf
 repeat'(first|exact ⟨⟩|exact rfl|exact fun _=>Iff.rfl|exact fun _ _=>rfl|exact renM_ent rfl _|apply And.intro)
end Go.Proofs.YtdfdlbnojmlpiaaGreatDoor
