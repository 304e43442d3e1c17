/-
  hardtackref05.SameList, pack.Reader.Left, hardtacklaw05.lives. Conditions: the listed variables (VOk). hardtackref01.Split, Make, Check. No conditions. hardtackref04: Parts, first, split, texts, Check. Conditions: data of no more than 2000000 bytes. hardtackref05.Check, hardtackref06.Check. Conditions: data of no more than 2000000 bytes. hardtackref05.Number, Hex, half, Unhex, Value, Words. Conditions: lengths. hardtackref01.Print, escape, Parse. Conditions: length. hardtackref01.Parse. No conditions. hardtackref05.Line, Parse. Conditions: lengths; numbers within their types. hardtacklaw05.RecordTexts. Conditions: the listed variables (VOk); numbers within their types.
-/
import Derived.Test.YtdfdlbnojmlpiaaGreatDoorB2
import Derived.Test.YtdfdlbnojmlpiaaGreatDoorB1
import Derived.Test.YtdfdlbnojmlpiaaGreatDoorB3
set_option linter.unusedVariables false
set_option linter.unusedSimpArgs false
namespace Go.Proofs.YtdfdlbnojmlpiaaGreatDoor
open Go Go.Eng
set_option maxRecDepth 100000
def eqR(a b:RR):Bool:=a.nm == b.nm && (a.ty == b.ty && (a.cl == b.cl && (a.ttl == b.ttl && (a.d == b.d && true))))
theorem eqR_eq(a b:RR):eqR a b=decide (a=b):=by
 obtain⟨n,y,c,t,d⟩:=a
 obtain⟨n',y',c',t',d'⟩:=b
 unfold eqR
 rw[Bool.eq_iff_iff]
 simp
set_option maxHeartbeats 4000000 in
theorem samel_ok(y z:Bool)(l m:List RR)(hl:l.length≤1000000):FnOk Tryz.prog 22 [.d (rrsD y l),.d (rrsD z m)] (.d (.bool (decide (l=m)))):=by
 refine qa4 (TT:=TT) (IN:=qc0 []) qc6 qa3 mixed 1000 Tryz.func22 rfl (qa7 Tryz.func22 (by kernel_rfl) rfl) rfl 24 (by kernel_rfl) ?_
 conv=>whnf
 by_cases hlen:l.length=m.length
 case neg =>
  rw[decide_eq_false (fun h:l=m=>hlen (by rw[h]))]
  refine brT (by rw[bne_iff_ne];omega) ?_
  conv=>whnf
  repeat'(first|exact ⟨⟩|exact rfl|exact fun _=>Iff.rfl|exact fun _ _=>rfl|exact renM_ent rfl _|apply And.intro)
 refine brF (by rw[bne_eq_false_iff_eq];omega) ?_
 conv=>whnf
 refine .inv Nat (fun i=>i≤l.length∧∀ j,j<i→l.getD j default=m.getD j default) (fun i=>[(13,iV i)]) (fun _=>[]) (fun i=>l.length - i) ⟨0,[],⟨Nat.zero_le _,fun j hj=>absurd hj (Nat.not_lt_zero _)⟩,?_⟩ ?_
 ·conv=>whnf
  repeat'(first|exact ⟨⟩|exact rfl|exact fun _=>Iff.rfl|exact fun _ _=>rfl|exact renM_ent rfl _|apply And.intro)
 intro i hi
 obtain⟨hi,hj⟩:=hi
 conv=>whnf
 refine⟨fun h1=>?_,fun h1=>?_⟩
 ·have h1:i<l.length:=by
   have h:(i:Int)<l.length:=of_decide_eq_true h1
   omega
  have hw1:IntKind.i64.wrap ((i:Int)+1)=((i+1:Nat):Int):=by rw[qa1 _ (by omega)];omega
  conv=>whnf
  refine⟨by omega,?_⟩
  conv=>whnf
  refine⟨by omega,?_⟩
  conv=>whnf
  rw[Int.toNat_natCast]
  have hq:=eqR_eq (l.getD i default) (m.getD i default)
  by_cases he:l.getD i default=m.getD i default
  ·rw [decide_eq_true he] at hq
   refine brF (by show(!eqR _ _)=false;rw[hq];rfl) ?_
   conv=>whnf
   rw[hw1]
   refine⟨i+1,[],⟨h1,fun j hj'=>?_⟩,by omega,?_⟩
   ·rcases Nat.lt_or_ge j i with h|h
    ·exact hj j h
    ·rw[show j=i by omega];exact he
   conv=>whnf
   repeat'(first|exact ⟨⟩|exact rfl|exact fun _=>Iff.rfl|exact fun _ _=>rfl|exact renM_ent rfl _|apply And.intro)
  ·rw [decide_eq_false he] at hq
   rw[decide_eq_false (fun h:l=m=>he (by rw[h]))]
   refine brT (by show(!eqR _ _)=true;rw[hq];rfl) ?_
   conv=>whnf
   repeat'(first|exact ⟨⟩|exact rfl|exact fun _=>Iff.rfl|exact fun _ _=>rfl|exact renM_ent rfl _|apply And.intro)
 ·have h1:i=l.length:=by
   have h:¬ (i:Int)<l.length:=of_decide_eq_false h1
   omega
  have he:l=m:=by
   apply List.ext_getElem hlen
   intro j h2 h3
   have:=hj j (by omega)
   rwa [List.getD_eq_getElem?_getD,List.getD_eq_getElem?_getD,List.getElem?_eq_getElem h2,List.getElem?_eq_getElem h3] at this
  rw[decide_eq_true he]
  conv=>whnf
  repeat'(first|exact ⟨⟩|exact rfl|exact fun _=>Iff.rfl|exact fun _ _=>rfl|exact renM_ent rfl _|apply And.intro)
def lvA:RR:=⟨[1,97,0],2,1,60,[1,66,1,65,0]⟩
def lvB:RR:=⟨[1,65,0],2,1,61,[1,98,1,97,0]⟩
def lvS:List UInt8:=[1,97,0,0,2,0,1,0,0,0,60,0,5,1,66,1,65,0]
def lvT:List UInt8:=[97,46,32,54,48,32,49,32,50,32,48,49,52,50,48,49,52,49,48,48]
def lvU:List UInt8:=[97,46,32,48,54,48,32,49,32,50,32,48,48]
theorem lv_write:((Wr.mk [] 100 false []).record lvA).2=true∧((Wr.mk [] 100 false []).record lvA).1.full=false∧((Wr.mk [] 100 false []).record lvA).1.buf=lvS:=⟨by kernel_rfl,by kernel_rfl,by kernel_rfl⟩
theorem lv_read:(Rdr.mk lvS 0 false).recd.2=(lvA,0):=by kernel_rfl
theorem yg0:lvA.check=true:=by kernel_rfl
theorem lvA_in:lvA.In:=⟨by decide,by decide,by decide⟩
theorem lv_line:lvA.line=lvT:=by
 unfold RR.line
 rw[show lvA.ttl.toNat=60 from rfl,show lvA.cl.toNat=1 from rfl,show lvA.ty.toNat=2 from rfl,qw5 (by decide),qw5 (by decide),qw5 (by decide)]
 kernel_rfl
theorem ys7:qi8 lvT=some lvA:=by rw[←lv_line];exact jt5 yg0 lvA_in (by decide)
theorem lv_none:qi8 lvU=none:=by
 have h:jr6 (cutN 5 lvU)=some ⟨[1,97,0],2,1,60,[0]⟩:=by kernel_rfl
 unfold qi8
 rw[h]
 simp only
 rw[if_neg]
 rintro ⟨_,h⟩
 unfold RR.line at h
 rw [show (RR.mk [1,97,0] 2 1 60 [0]).ttl.toNat=60 from rfl,show (RR.mk [1,97,0] 2 1 60 [0]).cl.toNat=1 from rfl,show (RR.mk [1,97,0] 2 1 60 [0]).ty.toNat=2 from rfl,qw5 (by decide),qw5 (by decide),qw5 (by decide)] at h
 exact absurd h (by decide +kernel)
theorem lv_same:yd3 lvA lvB=true∧jz3 lvA lvB=false∧jz3 lvB lvA=true∧(RR.mk [] 0 0 0 []).check=false:=⟨by kernel_rfl,by kernel_rfl,by kernel_rfl,by kernel_rfl⟩
theorem lv_sort:jk7 [lvA,⟨[],0,0,0,[]⟩,lvB]=[lvB,lvA]:=by kernel_rfl
theorem wr100:(Wr.mk [] 100 false []).Ok:=⟨by decide,by decide,.inl rfl,fun e he=>by cases he⟩
set_option maxHeartbeats 16000000 in
theorem jb7:FnOk Tryz.prog 15 [] (.d (.bool true)):=by
 refine qa4 (TT:=TT) (IN:=qc0 []) qc6 qa3 mixed 1000 Tryz.func15 rfl (qa7 Tryz.func15 (by kernel_rfl) rfl) rfl 124 (by kernel_rfl) ?_
 conv=>whnf
 refine .rel _ (yf5 (fun _=>rfl) (wnew_ok 100) [_,_] (fun _=>rfl)) (fun x ks' hR=>?_)
 obtain⟨rfl,rfl⟩:=hR
 conv=>whnf
 repeat(first|(refine brF rfl ?_;conv=>whnf)|(refine brT rfl ?_;conv=>whnf))
 have hrec:=wrec_ok ⟨[],100,false,[]⟩ wr100 lvA (by decide) (by decide) (by decide)
 have hok1:=wr100.record lvA
 obtain⟨f1,f2,f3⟩:=lv_write
 generalize (Wr.mk [] 100 false []).record lvA=W at hrec hok1 f1 f2 f3
 rw [f1] at hrec
 refine .rel _ (COk.thing Wr.fl hrec [_,_] [] _ rfl rfl) (fun x ks' hR=>?_)
 obtain⟨_,_,⟨rfl,rfl⟩,rfl,rfl⟩:=hR
 conv=>whnf
 have ho:=out_ok W.1
 rw [if_neg (by rw [f2];decide),f3] at ho
 refine .rel _ (COk.thing Wr.fl ho [_,_] [] _ rfl rfl) (fun x ks' hR=>?_)
 obtain⟨_,_,⟨rfl,rfl⟩,rfl,rfl⟩:=hR
 conv=>whnf
 refine .rel _ (yf5 (fun _=>rfl) (open_ok lvS) [_,_,_] (fun _=>rfl)) (fun x ks' hR=>?_)
 obtain⟨rfl,rfl⟩:=hR
 conv=>whnf
 repeat(first|(refine brF rfl ?_;conv=>whnf)|(refine brT rfl ?_;conv=>whnf))
 have hrd:=rrec_ok ⟨lvS,0,false⟩ ⟨by decide,by decide⟩ (by decide)
 rw [lv_read] at hrd
 refine .rel _ (qi1 hrd [_,_,_] [] _ rfl rfl) (fun x ks' hR=>?_)
 obtain⟨_,_,⟨rfl,rfl⟩,rfl,rfl⟩:=hR
 conv=>whnf
 refine .one (.data _ (ym6 lvA lvA_in) rfl rfl ?_)
 rw[show lvA.lineV=(lvT,0) by unfold RR.lineV;rw[yg0,lv_line];rfl]
 conv=>whnf
 refine .one (.data _ (jl5 lvT (by decide)) rfl (by rw[ys7];rfl) ?_)
 rw[ys7]
 conv=>whnf
 refine .one (.data _ (jl5 lvU (by decide)) rfl (by rw[lv_none];rfl) ?_)
 rw[lv_none]
 conv=>whnf
 obtain⟨s1,s2,s3,s4⟩:=lv_same
 repeat(first|(refine brF rfl ?_;conv=>whnf)|(refine brT rfl ?_;conv=>whnf))
 refine .data _ (rsame_ok lvA lvB) rfl rfl ?_
 rw[s1]
 conv=>whnf
 repeat(first|(refine brF rfl ?_;conv=>whnf)|(refine brT rfl ?_;conv=>whnf))
 refine .data _ (yr5 lvA lvB) rfl rfl ?_
 rw[s2]
 conv=>whnf
 repeat(first|(refine brF rfl ?_;conv=>whnf)|(refine brT rfl ?_;conv=>whnf))
 refine .data _ (yr5 lvB lvA) rfl rfl ?_
 rw[s3]
 conv=>whnf
 repeat(first|(refine brF rfl ?_;conv=>whnf)|(refine brT rfl ?_;conv=>whnf))
 refine .data _ (qi7 ⟨[],0,0,0,[]⟩) rfl rfl ?_
 rw[s4]
 conv=>whnf
 repeat(first|(refine brF rfl ?_;conv=>whnf)|(refine brT rfl ?_;conv=>whnf))
 refine .fresh (r:=.d (rrsD false (jk7 [lvA,⟨[],0,0,0,[]⟩,lvB]))) (as':=[.d (.sl false 3 5 (qg5 (lvA.enc++((RR.mk [] 0 0 0 []).enc++lvB.enc)) 5))]) (fr:=[7]) ((rsorts_ok false [lvA,⟨[],0,0,0,[]⟩,lvB] (by decide)).conv ⟨DS.rows fun i hi=>(match i,hi with
  |0,_=>DSL.refl _
  |1,_=>DSL.refl _
  |2,_=>DSL.refl _),trivial⟩) ?_ rfl rfl ?_
 ·conv=>whnf
  exact⟨rfl,rfl⟩
 rw[lv_sort]
 conv=>whnf
 refine .look (r:=.d (.bool true)) ?_ rfl ?_
 ·conv=>whnf
  have:=samel_ok false false [lvB,lvA] [lvB,lvA] (by decide)
  rw [decide_eq_true rfl] at this
  exact⟨this.conv ⟨DS.refl _,DS.rows fun i hi=>(match i,hi with
  |0,_=>DSL.refl _
  |1,_=>DSL.refl _),trivial⟩,rfl⟩
 conv=>whnf
 repeat'(first|exact ⟨⟩|exact rfl|exact fun _=>Iff.rfl|exact fun _ _=>rfl|exact renM_ent rfl _|apply And.intro)
end Go.Proofs.YtdfdlbnojmlpiaaGreatDoor
namespace Go.Proofs.YtdfdlbnojmlpiaaGreatDoor
open Go Go.Eng
def splitR:Option (List (List UInt8))→SV
 |none=>.tup [.any,.d .ff]
 |some l=>.tup [.d (.sl false l.length 1 (strs l)),.d .tt]
structure SpSt where
 at_:Nat
 l:List (List UInt8)
 m:Nat
set_option maxRecDepth 100000 in
set_option maxHeartbeats 4000000 in
theorem js8(s:List UInt8):FnOk Tryz.prog 112 [.d (.str s)] (splitR (qg2 s)):=by
 refine qa4 (TT:=TT) (IN:=qc0 []) qc6 qa3 mixed 1000 Tryz.func112 rfl (qa7 Tryz.func112 (by kernel_rfl) rfl) rfl 52 (by kernel_rfl) ?_
 conv=>whnf
 refine⟨fun h1=>?_,fun h1=>?_⟩
 ·have h1:(s.length:Int) > 255:=of_decide_eq_true h1
  have e:qg2 s=none:=by unfold qg2;rw[if_pos (by omega)]
  rw[e]
  conv=>whnf
  repeat'(first|exact ⟨⟩|exact rfl|exact⟨rfl,rfl,.inr rfl,fun _ _=>rfl⟩|exact⟨rfl,rfl,.inl rfl,fun i hi=>absurd hi (Nat.not_lt_zero _)⟩|apply And.intro)
 have h1:¬ (s.length:Int) > 255:=of_decide_eq_false h1
 have e:qg2 s=qy6 (s.length+1) s:=by unfold qg2;rw[if_neg (by omega)]
 have hw:∀ n:Int,-9223372036854775808≤n∧n≤9223372036854775807→IntKind.i64.wrap n=n:=fun n h=>qa1 n h
 conv=>whnf
 refine .csT 4 0 9 1 (fun _=>[]) rfl rfl ?_
 refine .inv SpSt (fun x=>x.at_≤s.length∧s.length<x.at_+x.m∧x.l.length≤x.at_∧(qy6 x.m (s.drop x.at_)).map (x.l ++ ·)=qy6 (s.length+1) s) (fun x=>[(4,.all 1),(5,.d (.int .i64 x.at_))]) (fun x=>[(1,.row 9 1 x.l.length .no (strs x.l))]) (fun x=>s.length - x.at_) ⟨⟨0,[],s.length+1⟩,[0,1],⟨Nat.zero_le _,by show s.length<0+(s.length+1);omega,Nat.zero_le _,by simp⟩,?_⟩ ?_
 ·conv=>whnf
  repeat'(first|exact ⟨⟩|exact rfl|(intro i hi;exact absurd hi (Nat.not_lt_zero _))|exact fun _ _=>rfl|apply And.intro)
 intro x hx
 obtain⟨hk,hm,hll,hrest⟩:=hx
 conv=>whnf
 generalize x.at_=k at hk hm hll hrest ⊢
 generalize x.l=l at hll hrest ⊢
 generalize x.m=m at hm hrest ⊢
 have hdl:(s.drop k).length=s.length - k:=by simp
 have hd0:bt (s.drop k) 0=bt s k:=by rw[qw8];rfl
 have hbl:=jp2 s k
 obtain⟨m',rfl⟩:∃ m',m=m'+1:=⟨m - 1,by omega⟩
 conv at hrest=>lhs;unfold qy6
 rw [hdl,hd0] at hrest
 refine⟨fun c0=>?_,fun c0=>?_⟩
 ·have c0':k<s.length:=(by have h:(k:Int)<s.length:=of_decide_eq_true c0;omega)
  rw [if_neg (by omega)] at hrest
  conv=>whnf
  refine⟨by omega,?_⟩
  conv=>whnf
  rw[qj0,hw _ (by omega)]
  refine⟨fun c1=>?_,fun c1=>?_⟩
  ·have c1:bt s k=0:=by
    have h:(bt s k:Int)=0:=by simpa using c1
    omega
   rw [if_pos c1] at hrest
   conv=>whnf
   rw[hw ((s.length:Int) - 1) (by omega)]
   by_cases hz:s.length - k=1
   ·rw [if_pos hz] at hrest
    rw[e,←hrest]
    conv=>whnf
    refine⟨?_,?_,True.intro⟩
    ·exact⟨rfl,by simp,.inr rfl,fun i hi=>by simp⟩
    ·show((k:Int) == (s.length:Int) - 1)=true
     simp
     omega
   ·rw [if_neg hz] at hrest
    rw[e,←hrest]
    conv=>whnf
    refine⟨True.intro,?_,True.intro⟩
    show((k:Int) == (s.length:Int) - 1)=false
    simp
    omega
  have c1:bt s k≠0:=by
   have h:(bt s k:Int)≠0:=by simpa using c1
   omega
  rw [if_neg c1] at hrest
  conv=>whnf
  refine⟨fun c2=>?_,fun c2=>?_⟩
  ·have c2:(bt s k:Int) > 63:=of_decide_eq_true c2
   rw [if_pos (.inl (by omega))] at hrest
   rw[e,←hrest]
   conv=>whnf
   exact⟨True.intro,rfl,True.intro⟩
  have c2:¬ (bt s k:Int) > 63:=of_decide_eq_false c2
  conv=>whnf
  rw[hw ((k:Int)+1) (by omega),hw ((k:Int)+1+bt s k) (by omega)]
  refine⟨fun c3=>?_,fun c3=>?_⟩
  ·have c3:(k:Int)+1+bt s k > s.length:=of_decide_eq_true c3
   rw [if_pos (.inr (by omega))] at hrest
   rw[e,←hrest]
   conv=>whnf
   exact⟨True.intro,rfl,True.intro⟩
  have c3:¬ (k:Int)+1+bt s k > s.length:=of_decide_eq_false c3
  rw [if_neg (by omega)] at hrest
  conv=>whnf
  rw[hw ((k:Int)+1) (by omega),hw ((k:Int)+1+bt s k) (by omega)]
  refine⟨by omega,?_⟩
  conv=>whnf
  refine⟨by omega,?_⟩
  conv=>whnf
  rw[hw (1+(bt s k:Int)) (by omega),hw ((k:Int)+(1+bt s k)) (by omega),show(k:Int)+(1+(bt s k:Int))=((k+(1+bt s k):Nat):Int) by omega]
  refine⟨⟨k+(1+bt s k),l++[(s.drop (k+1)).take (bt s k)],m'⟩,[0,3],⟨by show k+(1+bt s k)≤_;omega,by show s.length<k+(1+bt s k)+m';omega,by show(l++[_]).length≤k+(1+bt s k);rw[List.length_append];show l.length+1≤_;omega,?_⟩,by show s.length - (k+(1+bt s k))<s.length - k;omega,?_⟩
  ·rw[←hrest,List.drop_drop,List.drop_drop]
   simp[Function.comp_def]
  conv=>whnf
  repeat'(first|exact ⟨⟩|exact rfl|apply And.intro)
  ·simp
  ·refine qg7 _ _ _ ?_
   show[DV.str _]=[DV.str _]
   congr 2
   unfold sub
   rw[show((k:Int)+1+(bt s k:Int)).toNat - ((k:Int)+1).toNat=bt s k by omega,show((k:Int)+1).toNat=k+1 by omega]
 ·have c0':k=s.length:=(by have h:¬ (k:Int)<s.length:=of_decide_eq_false c0;omega)
  rw [if_pos (by omega)] at hrest
  rw[e,←hrest]
  conv=>whnf
  exact⟨True.intro,rfl,True.intro⟩
set_option maxRecDepth 100000 in
theorem js9(s:List UInt8):FnOk Tryz.prog 53 [.d (.str s)] (.d (.int .i64 (if qc5 s then 0 else 2))):=by
 refine qa4 (TT:=TT) (IN:=qc0 []) qc6 qa3 mixed 1000 Tryz.func53 rfl (qa7 Tryz.func53 (by kernel_rfl) rfl) rfl 11 (by kernel_rfl) ?_
 conv=>whnf
 refine .one (.data _ (js8 s) rfl (by cases qg2 s <;> rfl) ?_)
 have hn:=qu0 s
 cases hl:qg2 s with
 |none =>
  have:¬ qc5 s:=fun h=>by rw [hn,hl] at h;cases h
  rw[if_neg this]
  conv=>whnf
  try exact rfl
 |some ls =>
  have:qc5 s:=hn.2 (by rw[hl];rfl)
  rw[if_pos this]
  conv=>whnf
  try exact rfl
set_option maxRecDepth 100000 in
set_option maxHeartbeats 4000000 in
theorem len_byte{q:List UInt8}(h:q.length≤255):ql1 [IntKind.u8.wrap (q.length:Int)]=[UInt8.ofNat q.length]:=by
 show[UInt8.ofNat (IntKind.u8.wrap (q.length:Int)).toNat]=_
 have:(IntKind.u8.wrap (q.length:Int)).toNat=q.length:=by rw[IntKind.wrap_u8];omega
 rw[this]
theorem labs_all{l:List (List UInt8)}(hs:∀ x ∈ l,x.length≤255):(labs l).length≤256 * l.length:=by
 induction l with
 |nil=>exact Nat.le_refl _
 |cons a l ih =>
  have h1:=hs a (List.mem_cons_self ..)
  have h2:=ih (fun x hx=>hs x (List.mem_cons_of_mem _ hx))
  show(lab a++labs l).length≤256 * (l.length+1)
  rw[List.length_append,qj3]
  omega
theorem jc2(z:Bool)(l:List (List UInt8))(hl:l.length≤100000)(hs:∀ x ∈ l,x.length≤255):FnOk Tryz.prog 140 [.d (.sl z l.length 1 (strs l))] (.d (.str (mk l))):=by
 refine qa4 (TT:=TT) (IN:=qc0 []) qc6 qa3 mixed 1000 Tryz.func140 rfl (qa7 Tryz.func140 (by kernel_rfl) rfl) rfl 23 (by kernel_rfl) ?_
 conv=>whnf
 refine .inv Nat (fun i=>i≤l.length) (fun i=>[(3,.d (.str (labs (l.take i)))),(8,.d (.int .i64 i))]) (fun _=>[]) (fun i=>l.length - i) ⟨0,[],Nat.zero_le _,?_⟩ ?_
 ·conv=>whnf
  repeat'(first|exact ⟨⟩|exact rfl|exact fun _=>Iff.rfl|exact fun _ _=>rfl|exact renM_ent rfl _|apply And.intro)
 intro i hi
 conv=>whnf
 have hll:=labs_all (l:=l.take i) (fun x hx=>hs x (List.mem_of_mem_take hx))
 have htl:(l.take i).length≤l.length:=by rw[List.length_take];omega
 refine⟨fun c1=>?_,fun c1=>?_⟩
 ·have c1:(i:Int)<l.length:=of_decide_eq_true c1
  have hil:i<l.length:=by omega
  obtain⟨q,hq⟩:∃ q,l[i]?.getD []=q:=⟨_,rfl⟩
  have hq2:l[i]? = some q:=by rw[←hq,List.getElem?_eq_getElem hil];rfl
  have htk:l.take (i+1)=l.take i++[q]:=by rw[List.take_add_one,hq2];rfl
  have hql:=hs q (List.mem_of_getElem? hq2)
  have hw1:IntKind.i64.wrap ((i:Int)+1)=((i+1:Nat):Int):=by rw[qa1 _ (by omega)];omega
  conv=>whnf
  refine⟨by omega,?_⟩
  conv=>whnf
  rw[Int.toNat_natCast,hq,len_byte hql]
  refine⟨by simp only[List.length_cons,List.length_nil];omega,?_⟩
  conv=>whnf
  refine⟨by simp only[List.length_append,List.length_cons,List.length_nil];omega,?_⟩
  conv=>whnf
  refine⟨i+1,[],hil,by omega,?_⟩
  conv=>whnf
  rw[hw1]
  have hcat:labs (l.take i)++([UInt8.ofNat q.length]++q)=labs (l.take (i+1)):=by rw[htk,qo5];rfl
  rw[hcat]
  repeat'(first|exact ⟨⟩|exact rfl|exact fun _=>Iff.rfl|exact fun _ _=>rfl|exact renM_ent rfl _|apply And.intro)
 ·have c1:¬ (i:Int)<l.length:=of_decide_eq_false c1
  rw [List.take_of_length_le (by omega)] at hll ⊢
  conv=>whnf
  refine⟨by show(labs l).length+1≤_;omega,?_⟩
  conv=>whnf
  exact congrArg DV.str (qj8 l)
end Go.Proofs.YtdfdlbnojmlpiaaGreatDoor
namespace Go.Proofs.YtdfdlbnojmlpiaaGreatDoor
open Go Go.Eng
theorem yh3(s t:List UInt8):∀ (ls pre:List (List UInt8)) (m:Nat),(∀ l ∈ pre,okL l)→(∀ l ∈ ls,okL l)→s=labs pre++(mk ls++t)→(labs pre++mk ls).length≤255→256≤m+(labs pre).length →
 qo9 s m (labs pre).length=(labs pre++mk ls).length
 |[],pre,m,hp,_,hs,hl,hm=>by
  cases m with
  |zero=>rw [List.length_append] at hl;omega
  |succ m =>
   have hl1:(labs pre++mk []).length=(labs pre).length+1:=by rw[List.length_append];rfl
   have hb:bt s (labs pre).length=0:=by
    rw[hs]
    unfold bt
    rw[List.getElem?_append_right (Nat.le_refl _),Nat.sub_self]
    rfl
   have hsl:(labs pre).length<s.length:=by rw[hs,List.length_append];have:=jc8 [];rw[List.length_append];omega
   have htk:s.take ((labs pre).length+1)=mk pre:=by
    have:labs pre++(mk []++t)=(labs pre++[0])++t:=by simp[mk]
    rw[hs,this,List.take_left' (by simp)]
    exact qj8 pre
   unfold qo9
   rw[if_pos ⟨hsl,by omega⟩,if_pos hb,htk,if_pos ((qn3 _).2 ⟨by rw[←qj8];simpa[mk] using hl,pre,hp,rfl⟩),hl1]
 |l :: ls,pre,m,hp,hls,hs,hl,hm=>by
  have hol:=hls l (List.mem_cons_self ..)
  have h1:=hol.1
  have hml:=qw0 l ls
  have hmp:=jc8 ls
  have hll:(labs (pre++[l])).length=(labs pre).length+1+l.length:=by rw[qo5,List.length_append,qj3];omega
  rw [List.length_append] at hl
  cases m with
  |zero=>omega
  |succ m =>
   have hb:bt s (labs pre).length=l.length:=by
    have:=qw8 s (labs pre).length 0
    rw [Nat.add_zero] at this
    rw[←this,hs,List.drop_left]
    show bt (lab l++mk ls++t) 0=_
    rw[List.append_assoc]
    exact qw7 l _ hol
   have hsl:(labs pre).length<s.length:=by rw[hs,List.length_append,List.length_append];omega
   have hcat:labs (pre++[l])++mk ls=labs pre++mk (l :: ls):=by rw[qo5,List.append_assoc];rfl
   unfold qo9
   rw[if_pos ⟨hsl,by omega⟩,if_neg (by rw[hb];omega),hb,←hll]
   rw[yh3 s t ls (pre++[l]) m (fun x hx=>by
    rcases List.mem_append.1 hx with hx|hx
    ·exact hp x hx
    ·rw[List.mem_singleton.1 hx];exact hol) (fun x hx=>hls x (List.mem_cons_of_mem _ hx)) (by
    rw[hs,←List.append_assoc,←List.append_assoc,hcat]) (by rw[hcat,List.length_append];exact hl) (by omega),hcat]
theorem firstN_of{s:List UInt8}{k:Nat}(hk:k≤s.length)(h:qc5 (s.take k)):qf1 s=k:=by
 obtain⟨h1,ls,h2,h3⟩:=(qn3 _).1 h
 have hlen:(mk ls).length=k:=by rw[←h3,List.length_take];omega
 have h1:(mk ls).length≤255:=by rw[←h3];exact h1
 have:=yh3 s (s.drop k) ls [] 256 (fun l hl=>by cases hl) h2 (by show s=[]++(mk ls++s.drop k);rw[←h3];simp) (by show([]++mk ls).length≤255;simp;omega) (by omega)
 unfold qf1
 have e:([]++mk ls:List UInt8).length=k:=by simpa using hlen
 exact this.trans e
theorem yn4{s:List UInt8}(h:∀ k,k≤s.length→k≤255→¬ qc5 (s.take k)):qf1 s=0:=by
 have hl:=jd8 s
 cases hf:qf1 s with
 |zero=>rfl
 |succ n =>
  have:=yn5 s 256 0 (by show qf1 s≠0;omega)
  exact absurd this (h _ hl.1 hl.2)
def partsR:Option (Nat × Nat × Nat)→SV
 |some p=>.tup [.d (.int .i64 (2 * p.1:Nat)),.d (.int .i64 p.2.1),.d (.int .i64 (4 * p.2.2:Nat)),.d .tt]
 |none=>.tup [.d (.int .i64 0),.d (.int .i64 0),.d (.int .i64 0),.d .ff]
set_option maxHeartbeats 4000000 in
theorem js7(t:Int):FnOk Tryz.prog 114 [.d (.int .u16 t)] (partsR (qe9 t)):=by
 refine qa4 (TT:=TT) (IN:=qc0 []) qc6 qa3 mixed 1000 Tryz.func114 rfl (qa7 Tryz.func114 (by kernel_rfl) rfl) rfl 16 (by kernel_rfl) ?_
 have fin1:t=2∨t=5∨t=12→qe9 t=some (0,1,0):=fun h=>by unfold qe9;rw[if_pos h]
 conv=>whnf
 refine⟨fun h1=>?_,fun h1=>?_⟩
 ·rw[fin1 (.inl (by simpa using h1))]
  conv=>whnf
  try (refine brT h1 ?_;conv=>whnf)
  repeat'(first|exact ⟨⟩|exact rfl|exact⟨rfl,rfl,.inr rfl,fun _ _=>rfl⟩|exact⟨rfl,rfl,.inl rfl,fun i hi=>absurd hi (Nat.not_lt_zero _)⟩|apply And.intro)
 simp only [beq_eq_false_iff_ne,ne_eq] at h1
 conv=>whnf
 refine⟨fun h2=>?_,fun h2=>?_⟩
 ·rw[fin1 (.inr (.inl (by simpa using h2)))]
  conv=>whnf
  try (refine brT h2 ?_;conv=>whnf)
  repeat'(first|exact ⟨⟩|exact rfl|exact⟨rfl,rfl,.inr rfl,fun _ _=>rfl⟩|exact⟨rfl,rfl,.inl rfl,fun i hi=>absurd hi (Nat.not_lt_zero _)⟩|apply And.intro)
 simp only [beq_eq_false_iff_ne,ne_eq] at h2
 conv=>whnf
 refine⟨fun h3=>?_,fun h3=>?_⟩
 ·rw[fin1 (.inr (.inr (by simpa using h3)))]
  conv=>whnf
  try (refine brT h3 ?_;conv=>whnf)
  repeat'(first|exact ⟨⟩|exact rfl|exact⟨rfl,rfl,.inr rfl,fun _ _=>rfl⟩|exact⟨rfl,rfl,.inl rfl,fun i hi=>absurd hi (Nat.not_lt_zero _)⟩|apply And.intro)
 simp only [beq_eq_false_iff_ne,ne_eq] at h3
 conv=>whnf
 refine⟨fun h4=>?_,fun h4=>?_⟩
 ·have:qe9 t=some (1,1,0):=by unfold qe9;simp at h4;simp [h4]
  rw[this]
  conv=>whnf
  repeat'(first|exact ⟨⟩|exact rfl|exact⟨rfl,rfl,.inr rfl,fun _ _=>rfl⟩|exact⟨rfl,rfl,.inl rfl,fun i hi=>absurd hi (Nat.not_lt_zero _)⟩|apply And.intro)
 simp only [beq_eq_false_iff_ne,ne_eq] at h4
 conv=>whnf
 refine⟨fun h5=>?_,fun h5=>?_⟩
 ·have:qe9 t=some (3,1,0):=by unfold qe9;simp at h5;simp [h5]
  rw[this]
  conv=>whnf
  repeat'(first|exact ⟨⟩|exact rfl|exact⟨rfl,rfl,.inr rfl,fun _ _=>rfl⟩|exact⟨rfl,rfl,.inl rfl,fun i hi=>absurd hi (Nat.not_lt_zero _)⟩|apply And.intro)
 simp only [beq_eq_false_iff_ne,ne_eq] at h5
 conv=>whnf
 refine⟨fun h6=>?_,fun h6=>?_⟩
 ·have:qe9 t=some (0,2,5):=by unfold qe9;simp at h6;simp [h6]
  rw[this]
  conv=>whnf
  repeat'(first|exact ⟨⟩|exact rfl|exact⟨rfl,rfl,.inr rfl,fun _ _=>rfl⟩|exact⟨rfl,rfl,.inl rfl,fun i hi=>absurd hi (Nat.not_lt_zero _)⟩|apply And.intro)
 simp only [beq_eq_false_iff_ne,ne_eq] at h6
 have:qe9 t=none:=by unfold qe9;simp[h1,h2,h3,h4,h5,h6]
 rw[this]
 conv=>whnf
 repeat'(first|exact ⟨⟩|exact rfl|exact⟨rfl,rfl,.inr rfl,fun _ _=>rfl⟩|exact⟨rfl,rfl,.inl rfl,fun i hi=>absurd hi (Nat.not_lt_zero _)⟩|apply And.intro)
def jd7(s:List UInt8):SV:=if qf1 s=0 then .tup [.any,.d .ff] else .tup [.d (.str (s.take (qf1 s))),.d .tt]
set_option maxRecDepth 100000 in
set_option maxHeartbeats 4000000 in
theorem r4first_ok(s:List UInt8)(_hs:s.length≤2000000):FnOk Tryz.prog 160 [.d (.str s)] (jd7 s):=by
 refine qa4 (TT:=TT) (IN:=qc0 []) qc6 qa3 mixed 1000 Tryz.func160 rfl (qa7 Tryz.func160 (by kernel_rfl) rfl) rfl 22 (by kernel_rfl) ?_
 conv=>whnf
 refine .inv Nat (fun i=>1≤i∧i≤256∧∀ j,j<i→j≤s.length→¬ qc5 (s.take j)) (fun i=>[(4,.d (.int .i64 i))]) (fun _=>[]) (fun i=>256 - i) ⟨1,[],⟨Nat.le_refl _,by omega,fun j hj _ h=>?_⟩,?_⟩ ?_
 ·have:j=0:=by omega
  subst this
  have:=h.1
  simp at this
 ·conv=>whnf
  repeat'(first|exact ⟨⟩|exact rfl|exact fun _=>Iff.rfl|exact fun _ _=>rfl|exact renM_ent rfl _|apply And.intro)
 intro i hi
 obtain⟨h1,h2,h3⟩:=hi
 conv=>whnf
 have done_:(s.length<i∨255<i)→jd7 s = .tup [.any,.d .ff]:=fun hc=>by
  unfold jd7
  rw[if_pos (yn4 fun k hk hk2=>h3 k (by omega) hk)]
 refine⟨fun c1=>?_,fun c1=>?_⟩
 ·have c1:(i:Int)≤s.length:=of_decide_eq_true c1
  conv=>whnf
  refine⟨fun c2=>?_,fun c2=>?_⟩
  ·have c2:(i:Int)≤255:=of_decide_eq_true c2
   conv=>whnf
   refine⟨by omega,?_⟩
   have hsub:sub s 0 (i:Int)=s.take i:=by unfold sub;simp
   rw[hsub]
   conv=>whnf
   refine .one (.data _ (js9 (s.take i)) rfl rfl ?_)
   by_cases hn:qc5 (s.take i)
   ·have e:jd7 s = .tup [.d (.str (s.take i)),.d .tt]:=by
     unfold jd7
     rw[firstN_of (by omega) hn,if_neg (by omega)]
    rw[if_pos hn,e]
    conv=>whnf
    refine brT rfl ?_
    conv=>whnf
    refine⟨by omega,?_⟩
    rw[hsub]
    conv=>whnf
    repeat'(first|exact ⟨⟩|exact rfl|exact⟨rfl,rfl,.inr rfl,fun _ _=>rfl⟩|exact⟨rfl,rfl,.inl rfl,fun i hi=>absurd hi (Nat.not_lt_zero _)⟩|apply And.intro)
   ·rw[if_neg hn]
    conv=>whnf
    refine brF rfl ?_
    conv=>whnf
    have hw1:IntKind.i64.wrap ((i:Int)+1)=((i+1:Nat):Int):=by rw[qa1 _ (by omega)];omega
    refine⟨i+1,[],⟨by omega,by omega,fun j hj hjl=>?_⟩,by omega,?_⟩
    ·by_cases hji:j=i
     ·rw[hji];exact hn
     ·exact h3 j (by omega) hjl
    conv=>whnf
    rw[hw1]
    repeat'(first|exact ⟨⟩|exact rfl|exact fun _=>Iff.rfl|exact fun _ _=>rfl|exact renM_ent rfl _|apply And.intro)
  ·have c2:¬ (i:Int)≤255:=of_decide_eq_false c2
   rw[done_ (.inr (by omega))]
   conv=>whnf
   repeat'(first|exact ⟨⟩|exact rfl|exact⟨rfl,rfl,.inr rfl,fun _ _=>rfl⟩|exact⟨rfl,rfl,.inl rfl,fun i hi=>absurd hi (Nat.not_lt_zero _)⟩|apply And.intro)
 ·have c1:¬ (i:Int)≤s.length:=of_decide_eq_false c1
  rw[done_ (.inl (by omega))]
  conv=>whnf
  repeat'(first|exact ⟨⟩|exact rfl|exact⟨rfl,rfl,.inr rfl,fun _ _=>rfl⟩|exact⟨rfl,rfl,.inl rfl,fun i hi=>absurd hi (Nat.not_lt_zero _)⟩|apply And.intro)
def splitP:Option (List UInt8 × List (List UInt8) × List UInt8)→SV
 |none=>.tup [.any,.any,.any,.d .ff]
 |some (x,l,r)=>.tup [.d (.str x),.d (.sl (Nat.beq l.length 0) l.length 1 (strs l)),.d (.str r),.d .tt]
structure R4St where
 i:Nat
 l:List (List UInt8)
 r:List UInt8
set_option maxRecDepth 100000 in
set_option maxHeartbeats 4000000 in
theorem r4split_ok(t:Int)(p:Nat × Nat × Nat)(hp:qe9 t=some p)(s:List UInt8)(hs:s.length≤2000000):FnOk Tryz.prog 115 [.d (.int .u16 t),.d (.str s)] (splitP (cutF p.1 p.2.1 p.2.2 s)):=by
 refine qa4 (TT:=TT) (IN:=qc0 []) qc6 qa3 mixed 1000 Tryz.func115 rfl (qa7 Tryz.func115 (by kernel_rfl) rfl) rfl 58 (by kernel_rfl) ?_
 obtain⟨p1,p2,p3⟩:=qo8 hp
 have hpt:=js7 t
 rw [hp] at hpt
 conv=>whnf
 refine .one (.data _ hpt rfl rfl ?_)
 conv=>whnf
 refine⟨fun h1=>?_,fun h1=>?_⟩
 ·have h1:(s.length:Int)<(2 * p.1:Nat):=of_decide_eq_true h1
  have e:cutF p.1 p.2.1 p.2.2 s=none:=by unfold cutF;rw[if_pos (by omega)]
  rw[e]
  conv=>whnf
  repeat'(first|exact ⟨⟩|exact rfl|exact⟨rfl,rfl,.inr rfl,fun _ _=>rfl⟩|exact⟨rfl,rfl,.inl rfl,fun i hi=>absurd hi (Nat.not_lt_zero _)⟩|apply And.intro)
 have h1:¬ (s.length:Int)<(2 * p.1:Nat):=of_decide_eq_false h1
 have hcut:cutF p.1 p.2.1 p.2.2 s=(qo2 p.2.1 (s.drop (2 * p.1))).bind fun q=>if q.2.length=4 * p.2.2 then some (s.take (2 * p.1),q.1,q.2) else none:=by unfold cutF;rw[if_neg (by omega)]
 have hsub0:sub s ((2 * p.1:Nat):Int) (s.length:Int)=s.drop (2 * p.1):=by
  unfold sub
  rw[Int.toNat_natCast,Int.toNat_natCast,List.take_of_length_le (by rw[List.length_drop];omega)]
 conv=>whnf
 refine⟨by omega,?_⟩
 rw[hsub0]
 conv=>whnf
 refine .nilT 13 9 1 (fun _=>[]) _ _ rfl ?_
 refine .inv R4St (fun x=>NAt p.2.1 (s.drop (2 * p.1)) x.i x.l x.r) (fun x=>[(12,.d (.str x.r)),(13,.all 0),(14,.d (.int .i64 x.i))]) (fun x=>[(0,.row 9 1 x.l.length .iff (strs x.l))]) (fun x=>p.2.1 - x.i) ⟨⟨0,[],s.drop (2 * p.1)⟩,[0],NAt.zero _ _,?_⟩ ?_
 ·conv=>whnf
  repeat'(first|exact ⟨⟩|exact rfl|(intro i hi;exact absurd hi (Nat.not_lt_zero _))|exact fun _ _=>rfl|apply And.intro)
 intro x hN
 conv=>whnf
 generalize x.i=i at hN ⊢
 generalize x.l=l at hN ⊢
 generalize x.r=r at hN ⊢
 have hlen:=hN.len
 have hile:=hN.le
 have hsh:=hN.short
 rw [List.length_drop] at hsh
 refine⟨fun c1=>?_,fun c1=>?_⟩
 ·have c1:(i:Int)<p.2.1:=of_decide_eq_true c1
  obtain⟨s1,s2⟩:=hN.step (by omega)
  have hf:=r4first_ok r (by omega)
  have hfl:=jd8 r
  conv=>whnf
  by_cases h0:qf1 r=0
  ·have e:cutF p.1 p.2.1 p.2.2 s=none:=by rw[hcut,s1 h0];rfl
   have ef:jd7 r = .tup [.any,.d .ff]:=by unfold jd7;rw[if_pos h0]
   rw [ef] at hf
   refine .one (.data _ hf rfl rfl ?_)
   rw[e]
   conv=>whnf
   repeat'(first|exact ⟨⟩|exact rfl|exact⟨rfl,rfl,.inr rfl,fun _ _=>rfl⟩|exact⟨rfl,rfl,.inl rfl,fun i hi=>absurd hi (Nat.not_lt_zero _)⟩|apply And.intro)
  ·have ef:jd7 r = .tup [.d (.str (r.take (qf1 r))),.d .tt]:=by unfold jd7;rw[if_neg h0]
   rw [ef] at hf
   have htl:(r.take (qf1 r)).length=qf1 r:=by rw[List.length_take];omega
   have hsub1:sub r ((qf1 r:Nat):Int) (r.length:Int)=r.drop (qf1 r):=by
    unfold sub
    rw[Int.toNat_natCast,Int.toNat_natCast,List.take_of_length_le (by rw[List.length_drop];omega)]
   refine .one (.data _ hf rfl rfl ?_)
   conv=>whnf
   refine⟨by omega,?_⟩
   conv=>whnf
   rw[htl]
   refine⟨by omega,?_⟩
   rw[hsub1]
   have hw1:IntKind.i64.wrap ((i:Int)+1)=((i+1:Nat):Int):=by rw[qa1 _ (by omega)];omega
   conv=>whnf
   refine⟨⟨i+1,l++[r.take (qf1 r)],r.drop (qf1 r)⟩,[2],s2 h0,by show p.2.1 - (i+1)<p.2.1 - i;omega,?_⟩
   conv=>whnf
   rw[hw1]
   repeat'(first|exact ⟨⟩|exact rfl|apply And.intro)
   ·simp
   ·exact qg7 _ _ _ rfl
 ·have c1:¬ (i:Int)<p.2.1:=of_decide_eq_false c1
  have hi:i=p.2.1:=by omega
  subst hi
  have hl:=hN.last
  have hsub2:sub s 0 ((2 * p.1:Nat):Int)=s.take (2 * p.1):=by unfold sub;rw[Int.toNat_natCast];simp
  conv=>whnf
  refine⟨by omega,?_⟩
  rw[hsub2]
  conv=>whnf
  by_cases hr:r.length=4 * p.2.2
  ·have e:cutF p.1 p.2.1 p.2.2 s=some (s.take (2 * p.1),l,r):=by rw[hcut,hl];show(if r.length=4 * p.2.2 then _ else _)=_;rw[if_pos hr]
   rw[e]
   conv=>whnf
   refine⟨rfl,⟨rfl,rfl,.inr rfl,fun _ _=>rfl⟩,rfl,?_,True.intro⟩
   show((r.length:Int) == ((4 * p.2.2:Nat):Int))=true
   simp
   omega
  ·have e:cutF p.1 p.2.1 p.2.2 s=none:=by rw[hcut,hl];show(if r.length=4 * p.2.2 then _ else _)=_;rw[if_neg hr]
   rw[e]
   conv=>whnf
   refine⟨True.intro,True.intro,True.intro,?_,True.intro⟩
   show((r.length:Int) == ((4 * p.2.2:Nat):Int))=false
   simp
   omega
set_option maxRecDepth 100000 in
set_option maxHeartbeats 4000000 in
theorem r4texts_ok(s:List UInt8)(hs:s.length≤2000000):FnOk Tryz.prog 113 [.d (.str s)] (.tup [.any,.d (.bool (ql2 s))]):=by
 refine qa4 (TT:=TT) (IN:=qc0 []) qc6 qa3 mixed 1000 Tryz.func113 rfl (qa7 Tryz.func113 (by kernel_rfl) rfl) rfl 30 (by kernel_rfl) ?_
 conv=>whnf
 refine .nilT 4 9 1 (fun _=>[]) _ _ rfl ?_
 conv=>whnf
 refine .inv (Nat × List (List UInt8)) (fun p=>TAt s p.1 p.2) (fun p=>[(0,.d (.str (s.drop p.1))),(4,.all 0)]) (fun p=>[(0,.row 9 1 p.2.length .iff (strs p.2))]) (fun p=>s.length - p.1) ⟨(0,[]),[0],TAt.zero s,?_⟩ ?_
 ·conv=>whnf
  repeat'(first|exact ⟨⟩|exact rfl|apply And.intro)
  intro i hi
  exact absurd hi (by simp)
 intro p hk
 have hk0:p.1≤s.length:=hk.1
 have hk2:p.2.length≤p.1:=hk.2.1
 have hby:=jp2 s p.1
 have hlen:(s.drop p.1).length=s.length - p.1:=by simp
 conv=>whnf
 refine⟨fun hne=>?_,fun heq=>?_⟩
 ·have hlt:p.1<s.length:=by
   rcases Nat.lt_or_ge p.1 s.length with e|e
   ·exact e
   ·rw [List.drop_eq_nil_of_le e] at hne;simp at hne
  obtain⟨e1,e2⟩:=TAt.step hk hlt
  have hb0:qb8 (s.drop p.1) 0=(bt s p.1:Int):=by
   rw[show(0:Int)=((0:Nat):Int) from rfl,qj0]
   simp[bt]
  conv=>whnf
  refine⟨by omega,?_⟩
  have hsz:IntKind.i64.wrap (1+IntKind.i64.wrap (qb8 (s.drop p.1) 0))=((1+bt s p.1:Nat):Int):=by rw[hb0];simp(disch:=omega) only[qa1];omega
  conv=>whnf
  rw[hsz]
  refine⟨fun hgt=>?_,fun hle=>?_⟩
  ·conv=>whnf
   refine⟨True.intro,?_,True.intro⟩
   have:ql2 s=false:=by unfold ql2;rw [e1 (by simp at hgt;omega)]
   rw[this]
   exact rfl
  ·have hle':p.1+1+bt s p.1≤s.length:=by simp at hle;omega
   conv=>whnf
   refine⟨by omega,?_⟩
   conv=>whnf
   refine⟨by omega,?_⟩
   conv=>whnf
   refine⟨by omega,?_⟩
   conv=>whnf
   refine⟨(p.1+1+bt s p.1,p.2++[(s.drop (p.1+1)).take (bt s p.1)]),[2],e2 hle',by show s.length - (p.1+1+bt s p.1)<s.length - p.1;omega,?_⟩
   conv=>whnf
   repeat'(first|exact ⟨⟩|exact rfl|apply And.intro)
   ·refine congrArg SV.d (congrArg DV.str ?_)
    show sub (s.drop p.1) _ _=s.drop (p.1+1+bt s p.1)
    simp only[sub,Int.toNat_natCast,List.drop_drop]
    rw[List.take_of_length_le (by simp;omega)]
    congr 1
    omega
   ·simp
   ·refine qg7 _ _ _ ?_
    show[DV.str _]=[DV.str _]
    congr 2
    simp only[sub,Int.toNat_natCast,List.drop_drop]
    rw[show(1:Int).toNat=1 from rfl]
    congr 1
    omega
 ·have hke:p.1=s.length:=by
   simp at heq
   omega
  conv=>whnf
  refine⟨True.intro,?_,True.intro⟩
  have:ql2 s=decide (0<p.2.length):=by unfold ql2;rw[TAt.last hk hke]
  rw[this]
  refine congrArg DV.bool ?_
  simp
set_option maxRecDepth 100000 in
set_option maxHeartbeats 4000000 in
theorem r4check_ok(t:Int)(s:List UInt8)(hs:s.length≤2000000):FnOk Tryz.prog 54 [.d (.int .u16 t),.d (.str s)] (.d (.int .i64 (yo3 (qd8 t s)))):=by
 refine qa4 (TT:=TT) (IN:=qc0 []) qc6 qa3 mixed 1000 Tryz.func54 rfl (qa7 Tryz.func54 (by kernel_rfl) rfl) rfl 49 (by kernel_rfl) ?_
 conv=>whnf
 refine⟨fun h1=>?_,fun h1=>?_⟩
 ·have h1:t=1:=by simpa using h1
  have hg:qj1 t s=((s.length:Int) == ((4:Nat):Int)):=by unfold qj1;rw[if_pos h1,lenEq]
  conv=>whnf
  refine⟨fun k1=>?_,fun k1=>?_⟩
  ·have hgood:qj1 t s=false:=by rw[hg];simpa using k1
   have e:qd8 t s=false:=by unfold qd8;rw[hgood,Bool.and_false]
   rw[e]
   conv=>whnf
   exact rfl
  have hgood:qj1 t s=true:=by rw[hg];simpa using k1
  conv=>whnf
  refine⟨fun k2=>?_,fun k2=>?_⟩
  ·have k2:(s.length:Int) > 4096:=of_decide_eq_true k2
   have e:qd8 t s=false:=by unfold qd8;rw[decide_eq_false (by omega)];rfl
   rw[e]
   conv=>whnf
   exact rfl
  ·have k2:¬ (s.length:Int) > 4096:=of_decide_eq_false k2
   have e:qd8 t s=true:=by unfold qd8;rw[decide_eq_true (by omega),hgood];rfl
   rw[e]
   conv=>whnf
   exact rfl
 have h1:¬ t=1:=by simpa using h1
 conv=>whnf
 refine⟨fun h2=>?_,fun h2=>?_⟩
 ·have h2:t=28:=by simpa using h2
  have hg:qj1 t s=((s.length:Int) == ((16:Nat):Int)):=by unfold qj1;rw[if_neg h1,if_pos h2,lenEq]
  conv=>whnf
  refine⟨fun k1=>?_,fun k1=>?_⟩
  ·have hgood:qj1 t s=false:=by rw[hg];simpa using k1
   have e:qd8 t s=false:=by unfold qd8;rw[hgood,Bool.and_false]
   rw[e]
   conv=>whnf
   exact rfl
  have hgood:qj1 t s=true:=by rw[hg];simpa using k1
  conv=>whnf
  refine⟨fun k2=>?_,fun k2=>?_⟩
  ·have k2:(s.length:Int) > 4096:=of_decide_eq_true k2
   have e:qd8 t s=false:=by unfold qd8;rw[decide_eq_false (by omega)];rfl
   rw[e]
   conv=>whnf
   exact rfl
  ·have k2:¬ (s.length:Int) > 4096:=of_decide_eq_false k2
   have e:qd8 t s=true:=by unfold qd8;rw[decide_eq_true (by omega),hgood];rfl
   rw[e]
   conv=>whnf
   exact rfl
 have h2:¬ t=28:=by simpa using h2
 conv=>whnf
 refine⟨fun h3=>?_,fun h3=>?_⟩
 ·have h3:t=16:=by simpa using h3
  have hg:qj1 t s=ql2 s:=by unfold qj1;rw[if_neg h1,if_neg h2,if_pos h3]
  conv=>whnf
  refine .one (.data _ (r4texts_ok s hs) rfl rfl ?_)
  conv=>whnf
  refine⟨fun k1=>?_,fun k1=>?_⟩
  ·have hgood:qj1 t s=false:=by rw[hg];simpa using k1
   have e:qd8 t s=false:=by unfold qd8;rw[hgood,Bool.and_false]
   rw[e]
   conv=>whnf
   exact rfl
  have hgood:qj1 t s=true:=by rw[hg];simpa using k1
  conv=>whnf
  refine⟨fun k2=>?_,fun k2=>?_⟩
  ·have k2:(s.length:Int) > 4096:=of_decide_eq_true k2
   have e:qd8 t s=false:=by unfold qd8;rw[decide_eq_false (by omega)];rfl
   rw[e]
   conv=>whnf
   exact rfl
  ·have k2:¬ (s.length:Int) > 4096:=of_decide_eq_false k2
   have e:qd8 t s=true:=by unfold qd8;rw[decide_eq_true (by omega),hgood];rfl
   rw[e]
   conv=>whnf
   exact rfl
 have h3:¬ t=16:=by simpa using h3
 conv=>whnf
 have hpt:=js7 t
 cases hf:qe9 t with
 |none =>
  have hgood:qj1 t s=true:=by unfold qj1;rw[if_neg h1,if_neg h2,if_neg h3,hf]
  rw [hf] at hpt
  refine .one (.data _ hpt rfl rfl ?_)
  conv=>whnf
  refine⟨fun k2=>?_,fun k2=>?_⟩
  ·have k2:(s.length:Int) > 4096:=of_decide_eq_true k2
   have e:qd8 t s=false:=by unfold qd8;rw[decide_eq_false (by omega)];rfl
   rw[e]
   conv=>whnf
   exact rfl
  ·have k2:¬ (s.length:Int) > 4096:=of_decide_eq_false k2
   have e:qd8 t s=true:=by unfold qd8;rw[decide_eq_true (by omega),hgood];rfl
   rw[e]
   conv=>whnf
   exact rfl
 |some p =>
  rw [hf] at hpt
  have hsp:=r4split_ok t p hf s hs
  refine .one (.data _ hpt rfl rfl ?_)
  conv=>whnf
  cases hc:cutF p.1 p.2.1 p.2.2 s with
  |none =>
   have hgood:qj1 t s=false:=by unfold qj1;rw[if_neg h1,if_neg h2,if_neg h3,hf];show(cutF p.1 p.2.1 p.2.2 s).isSome=false;rw[hc];rfl
   have e:qd8 t s=false:=by unfold qd8;rw[hgood,Bool.and_false]
   rw [hc] at hsp
   refine .one (.data _ hsp rfl rfl ?_)
   rw[e]
   conv=>whnf
   repeat(first|(refine brF rfl ?_;conv=>whnf)|(refine brT rfl ?_;conv=>whnf))
   try exact rfl
  |some q =>
   obtain⟨x,l,r⟩:=q
   have hgood:qj1 t s=true:=by unfold qj1;rw[if_neg h1,if_neg h2,if_neg h3,hf];show(cutF p.1 p.2.1 p.2.2 s).isSome=true;rw[hc];rfl
   rw [hc] at hsp
   refine .one (.data _ hsp rfl rfl ?_)
   conv=>whnf
   refine⟨fun k2=>?_,fun k2=>?_⟩
   ·have k2:(s.length:Int) > 4096:=of_decide_eq_true k2
    have e:qd8 t s=false:=by unfold qd8;rw[decide_eq_false (by omega)];rfl
    rw[e]
    conv=>whnf
    exact rfl
   ·have k2:¬ (s.length:Int) > 4096:=of_decide_eq_false k2
    have e:qd8 t s=true:=by unfold qd8;rw[decide_eq_true (by omega),hgood];rfl
    rw[e]
    conv=>whnf
    exact rfl
end Go.Proofs.YtdfdlbnojmlpiaaGreatDoor
namespace Go.Proofs.YtdfdlbnojmlpiaaGreatDoor
open Go Go.Eng
set_option maxRecDepth 100000
set_option maxHeartbeats 4000000 in
theorem r5check_ok(r:RR)(hd:r.d.length≤2000000):FnOk Tryz.prog 17 [r.V] (.d (.int .i64 (yo3 r.check))):=by
 refine qa4 (TT:=TT) (IN:=qc0 []) qc6 qa3 mixed 1000 Tryz.func17 rfl (qa7 Tryz.func17 (by kernel_rfl) rfl) rfl 24 (by kernel_rfl) ?_
 conv=>whnf
 refine .one (.data _ (js9 r.nm) rfl rfl ?_)
 by_cases hn:qc5 r.nm
 ·rw[if_pos hn]
  conv=>whnf
  refine brF rfl ?_
  conv=>whnf
  refine .one (.data _ (r4check_ok r.ty r.d hd) rfl rfl ?_)
  cases hc:qd8 r.ty r.d
  ·have e:r.check=false:=by simp[RR.check,hc]
   rw[e]
   conv=>whnf
   repeat(first|(refine brF rfl ?_;conv=>whnf)|(refine brT rfl ?_;conv=>whnf))
   try exact rfl
  ·conv=>whnf
   refine brF rfl ?_
   conv=>whnf
   refine⟨fun c1=>?_,fun c1=>?_⟩
   ·have c1':¬ r.ty=41:=by simpa using c1
    conv=>whnf
    refine⟨fun c2=>?_,fun c2=>?_⟩
    ·have c2':¬ r.ttl≤2147483647:=by
      have:r.ttl > 2147483647:=of_decide_eq_true c2
      omega
     have e:r.check=false:=by simp[RR.check,c1',c2']
     rw[e]
     conv=>whnf
     exact rfl
    ·have c2':r.ttl≤2147483647:=by
      have:¬ r.ttl > 2147483647:=of_decide_eq_false c2
      omega
     have e:r.check=true:=by simp[RR.check,hn,hc,c2']
     rw[e]
     conv=>whnf
     exact rfl
   ·have c1':r.ty=41:=by simpa using c1
    have e:r.check=true:=by
     simp only[RR.check,hn,hc,decide_true,Bool.true_and,Bool.or_eq_true,beq_iff_eq]
     exact .inr c1'
    rw[e]
    conv=>whnf
    exact rfl
 ·rw[if_neg hn]
  have e:r.check=false:=by simp[RR.check,hn]
  rw[e]
  conv=>whnf
  repeat(first|(refine brF rfl ?_;conv=>whnf)|(refine brT rfl ?_;conv=>whnf))
  try exact rfl
end Go.Proofs.YtdfdlbnojmlpiaaGreatDoor
namespace Go.Proofs.YtdfdlbnojmlpiaaGreatDoor
open Go Go.Eng
set_option maxRecDepth 100000
theorem yu8{m:Nat}(h:m<10):IntKind.u8.wrap (IntKind.i64.wrap (48+(m:Int)))=((48+m:Nat):Int):=by
 rw[qa1 _ (by omega),IntKind.wrap_u8]
 omega
theorem ya8:∀ (k n:Nat),n<10 ^ (k+1)→(Lib.decDigits n).length≤k+1
 |0,n,h=>by rw[Lib.decDigits,dif_pos (by omega)];simp
 |k+1,n,h=>by
  rw[Lib.decDigits]
  split
  ·simp
  ·rw[List.length_append]
   have:=ya8 k (n / 10) (by rw [Nat.pow_succ] at h;omega)
   simp only[List.length_cons,List.length_nil]
   omega
theorem jm7:∀ n:Nat,n<4611686018427387904→FnOk Tryz.prog 67 [.d (.int .i64 n)] (.d (.str (Lib.decDigits n))):=by
 intro n
 induction n using Nat.strongRecOn with
 |ind n ih =>
  intro hn
  refine qa4 (TT:=TT) (IN:=qc0 []) qc6 qa3 mixed 1000 Tryz.func67 rfl (qa7 Tryz.func67 (by kernel_rfl) rfl) rfl 19 (by kernel_rfl) ?_
  conv=>whnf
  by_cases h1:n<10
  ·refine brT (decide_eq_true (by omega)) ?_
   conv=>whnf
   rw[yu8 h1,Lib.decDigits,dif_pos h1]
   try exact rfl
  ·refine brF (decide_eq_false (by omega)) ?_
   conv=>whnf
   refine⟨by decide,?_⟩
   conv=>whnf
   rw[show IntKind.i64.wrap ((n:Int).tdiv 10)=((n / 10:Nat):Int) by rw[Int.tdiv_eq_ediv_of_nonneg (by omega),qa1 _ (by omega)];omega]
   refine .data _ (ih (n / 10) (by omega) (by omega)) rfl rfl ?_
   conv=>whnf
   refine⟨by decide,?_⟩
   conv=>whnf
   rw[show(n:Int).tmod 10=((n % 10:Nat):Int) by rw[Int.tmod_eq_emod_of_nonneg (by omega)];omega,yu8 (by omega)]
   have hl:=ya8 18 (n / 10) (by omega)
   refine⟨by show(Lib.decDigits (n / 10)).length+1≤_;omega,?_⟩
   conv=>whnf
   rw[show Lib.decDigits n=Lib.decDigits (n / 10)++[UInt8.ofNat (48+n % 10)] by rw[Lib.decDigits,dif_neg h1]]
   try exact rfl
theorem div16:∀ n:Nat,n<256→IntKind.u8.wrap (((n:Nat):Int).tdiv 16)=((n / 16:Nat):Int)∧((n:Nat):Int).tmod 16=((n % 16:Nat):Int):=by decide +kernel
set_option maxHeartbeats 4000000 in
theorem r5hex_ok(s:List UInt8)(hs:s.length≤1000000):FnOk Tryz.prog 68 [.d (.str s)] (.d (.str (hexT s))):=by
 refine qa4 (TT:=TT) (IN:=qc0 []) qc6 qa3 mixed 1000 Tryz.func68 rfl (qa7 Tryz.func68 (by kernel_rfl) rfl) rfl 27 (by kernel_rfl) ?_
 conv=>whnf
 refine⟨fun h1=>?_,fun h1=>?_⟩
 ·have h1:s=[]:=by simpa using h1
  subst h1
  conv=>whnf
  try exact rfl
 have h1:s≠[]:=by simpa using h1
 rw[show hexT s=hexL s from if_neg h1]
 conv=>whnf
 have hdg:∀ n:Nat,n<16→qb8 (ByteArray.mk #[48,49,50,51,52,53,54,55,56,57,97,98,99,100,101,102]).data.toList ((n:Nat):Int)=((hexC n).toNat:Int):=by decide
 refine .nilT 3 5 1 (qd0 []) _ _ rfl ?_
 refine .inv Nat (fun i=>i≤s.length) (fun i=>[(3,.all 0),(4,iV i)]) (fun i=>[(0,.row 5 1 (hexL (s.take i)).length .iff (qd0 (hexL (s.take i))))]) (fun i=>s.length - i) ⟨0,[0],Nat.zero_le _,?_⟩ ?_
 ·conv=>whnf
  repeat'(first|exact ⟨⟩|exact rfl|exact qa0 _|exact Or.inr rfl|exact fun _ _=>rfl|exact fun _ h=>absurd h (Nat.not_lt_zero _)|apply And.intro)
 intro i hi
 have hlen:=qp9 (s.take i)
 rw [List.length_take] at hlen
 conv=>whnf
 refine⟨fun c0=>?_,fun c0=>?_⟩
 ·have c0':i<s.length:=(by have h:(i:Int)<s.length:=of_decide_eq_true c0;omega)
  have hsk:s[i]? = some s[i]:=List.getElem?_eq_getElem c0'
  have hbk:qb8 s (i:Int)=((s[i].toNat:Nat):Int):=by rw[qj0];unfold bt;rw[hsk];rfl
  have hnx:=yg6 hsk
  generalize s[i]=c at hsk hbk hnx
  have hc:=c.toNat_lt
  have hk1:IntKind.i64.wrap ((i:Int)+1)=((i+1:Nat):Int):=by rw[qa1 _ (by omega)];omega
  obtain⟨e1,e2⟩:=div16 c.toNat hc
  conv=>whnf
  refine⟨by omega,?_⟩
  conv=>whnf
  rw[hbk]
  refine⟨by decide,?_⟩
  conv=>whnf
  rw[e1]
  refine⟨⟨by omega,by show((c.toNat / 16:Nat):Int)<16;omega⟩,?_⟩
  conv=>whnf
  rw[hdg _ (by omega)]
  refine⟨by omega,?_⟩
  conv=>whnf
  rw[hbk]
  refine⟨by decide,?_⟩
  conv=>whnf
  rw[e2]
  refine⟨⟨by omega,by show((c.toNat % 16:Nat):Int)<16;omega⟩,?_⟩
  conv=>whnf
  rw[hdg _ (by omega)]
  refine⟨by omega,?_⟩
  conv=>whnf
  rw[hk1]
  refine⟨i+1,[2],c0',by show s.length - (i+1)<s.length - i;omega,?_⟩
  rw[hnx]
  conv=>whnf
  repeat'(first|exact ⟨⟩|exact rfl|exact qa0 _|exact Or.inr rfl|exact fun _ _=>rfl|exact fun _ h=>absurd h (Nat.not_lt_zero _)|apply And.intro)
  all_goals first
   |(show _+2=(_++[_,_]).length;simp)
   |exact(fun i hi=>jv7 _ _ _ i hi)
 ·have c0':i=s.length:=(by have h:¬ (i:Int)<s.length:=of_decide_eq_false c0;omega)
  subst c0'
  rw[List.take_length]
  conv=>whnf
  refine⟨fun i _=>⟨_,rfl⟩,?_⟩
  rw[qb0]
  conv=>whnf
  try exact rfl
def jr2(n:Nat):Nat:=if 97≤n then (n+9) % 16 else n % 16
theorem half_d:∀ n:Nat,n<256→(97≤n→(IntKind.u8.wrap (IntKind.u8.wrap (((n:Nat):Int) - 97)+10)).tmod 16=((jr2 n:Nat):Int))∧(n<97→(IntKind.u8.wrap (((n:Nat):Int) - 48)).tmod 16=((jr2 n:Nat):Int)):=by decide +kernel
theorem half_ok(c:UInt8):FnOk Tryz.prog 141 [.d (.int .u8 (c.toNat:Int))] (.d (.int .u8 (jr2 c.toNat:Nat))):=by
 refine qa4 (TT:=TT) (IN:=qc0 []) qc6 qa3 mixed 1000 Tryz.func141 rfl (qa7 Tryz.func141 (by kernel_rfl) rfl) rfl 11 (by kernel_rfl) ?_
 obtain⟨h1,h2⟩:=half_d c.toNat c.toNat_lt
 conv=>whnf
 by_cases h:97≤c.toNat
 ·refine brT (decide_eq_true (by omega)) ?_
  conv=>whnf
  refine⟨by decide,?_⟩
  conv=>whnf
  exact congrArg (DV.int IntKind.u8) (h1 h)
 ·refine brF (decide_eq_false (by omega)) ?_
  conv=>whnf
  refine⟨by decide,?_⟩
  conv=>whnf
  exact congrArg (DV.int IntKind.u8) (h2 (by omega))
def unhF:List UInt8→List UInt8
 |a :: b :: r=>UInt8.ofNat (16 * jr2 a.toNat+jr2 b.toNat) :: unhF r
 |_=>[]
def unhR(s:List UInt8):List UInt8:=if s.length % 2≠0 then [] else unhF s
theorem yt5:∀ n,n<16→jr2 (hexC n).toNat=n:=by decide
theorem yq5:∀ s:List UInt8,unhF (hexL s)=s
 |[]=>rfl
 |c :: s=>by
  simp only[hexL,unhF]
  rw[yt5 _ (by have:=c.toNat_lt;omega),yt5 _ (by omega),yq5 s,show 16 * (c.toNat / 16)+c.toNat % 16=c.toNat by omega]
  simp
theorem half_lt(n:Nat):jr2 n<16:=by unfold jr2;split <;> omega
theorem mul_half{i j:Nat}(hi:i<16)(hj:j<16):IntKind.u8.wrap (IntKind.u8.wrap ((i:Int) * 16)+(j:Int))=((UInt8.ofNat (16 * i+j)).toNat:Int):=by
 rw[ql0 (by omega),IntKind.wrap_u8,IntKind.wrap_u8]
 omega
structure UnSt where
 i:Nat
 b:List UInt8
set_option maxHeartbeats 4000000 in
theorem r5unhex_ok(s:List UInt8)(hs:s.length≤1000000):FnOk Tryz.prog 76 [.d (.str s)] (.d (.str (unhR s))):=by
 refine qa4 (TT:=TT) (IN:=qc0 []) qc6 qa3 mixed 1000 Tryz.func76 rfl (qa7 Tryz.func76 (by kernel_rfl) rfl) rfl 30 (by kernel_rfl) ?_
 conv=>whnf
 refine⟨by decide,?_⟩
 conv=>whnf
 by_cases h3:s.length % 2=0
 case neg =>
  rw[show unhR s=[] from if_pos h3]
  refine brT (by rw[bne_iff_ne];show((s.length:Int)).tmod 2≠0;rw[Int.tmod_eq_emod_of_nonneg (by omega)];omega) ?_
  conv=>whnf
  try exact rfl
 refine brF (by rw[bne_eq_false_iff_eq];show((s.length:Int)).tmod 2=0;rw[Int.tmod_eq_emod_of_nonneg (by omega)];omega) ?_
 rw[show unhR s=unhF s from if_neg (fun h=>h h3)]
 conv=>whnf
 refine .nilT 3 5 1 (qd0 []) _ _ rfl ?_
 refine .inv UnSt (fun x=>x.i≤s.length∧x.i=2 * x.b.length∧x.b++unhF (s.drop x.i)=unhF s) (fun x=>[(3,.all 0),(4,iV x.i)]) (fun x=>[(0,.row 5 1 x.b.length .iff (qd0 x.b))]) (fun x=>s.length - x.i) ⟨⟨0,[]⟩,[0],⟨Nat.zero_le _,rfl,rfl⟩,?_⟩ ?_
 ·conv=>whnf
  repeat'(first|exact ⟨⟩|exact rfl|exact qa0 _|exact Or.inr rfl|exact fun _ _=>rfl|exact fun _ h=>absurd h (Nat.not_lt_zero _)|apply And.intro)
 intro x hx
 obtain⟨hk,hm,hrest⟩:=hx
 conv=>whnf
 generalize x.i=i at hk hm hrest ⊢
 generalize x.b=b at hm hrest ⊢
 generalize unhF s=Y at hrest ⊢
 refine⟨fun c0=>?_,fun c0=>?_⟩
 ·have c0':i<s.length:=(by have h:(i:Int)<s.length:=of_decide_eq_true c0;omega)
  have c1':i+1<s.length:=by omega
  have hs0:s[i]? = some s[i]:=List.getElem?_eq_getElem c0'
  have hs1:s[i+1]? = some s[i+1]:=List.getElem?_eq_getElem c1'
  have hd0:s.drop i=s[i] :: s[i+1] :: s.drop (i+2):=by rw[List.drop_eq_getElem_cons c0',List.drop_eq_getElem_cons c1']
  have hb0:qb8 s (i:Int)=((s[i].toNat:Nat):Int):=by rw[qj0];unfold bt;rw[hs0];rfl
  have hb1:qb8 s ((i+1:Nat):Int)=((s[i+1].toNat:Nat):Int):=by rw[qj0];unfold bt;rw[hs1];rfl
  generalize s[i]=p at hs0 hd0 hb0
  generalize s[i+1]=q at hs1 hd0 hb1
  have hk1:IntKind.i64.wrap ((i:Int)+1)=((i+1:Nat):Int):=by rw[qa1 _ (by omega)];omega
  have hk2:IntKind.i64.wrap ((i:Int)+2)=((i+2:Nat):Int):=by rw[qa1 _ (by omega)];omega
  rw [hd0] at hrest
  simp only [unhF] at hrest
  conv=>whnf
  refine⟨by omega,?_⟩
  conv=>whnf
  rw[hb0]
  refine .data _ (half_ok p) rfl rfl ?_
  conv=>whnf
  rw[hk1]
  refine⟨by omega,?_⟩
  conv=>whnf
  rw[hb1]
  refine .data _ (half_ok q) rfl rfl ?_
  conv=>whnf
  rw[mul_half (half_lt _) (half_lt _)]
  refine⟨by omega,?_⟩
  conv=>whnf
  rw[hk2]
  refine⟨⟨i+2,b++[UInt8.ofNat (16 * jr2 p.toNat+jr2 q.toNat)]⟩,[2],⟨by show i+2≤s.length;omega,by show i+2=2 * (b++[_]).length;rw[List.length_append];show i+2=2 * (b.length+1);omega,by rw[←hrest];show(b++[_])++_=_;rw[List.append_assoc];rfl⟩,by show s.length - (i+2)<s.length - i;omega,?_⟩
  conv=>whnf
  repeat'(first|exact ⟨⟩|exact rfl|exact qa0 _|exact Or.inr rfl|exact fun _ _=>rfl|exact fun _ h=>absurd h (Nat.not_lt_zero _)|apply And.intro)
  all_goals first
   |(show b.length+1=(b++[_]).length;simp)
   |exact(fun j hj=>qc1 b _ j hj)
 ·have c0':i=s.length:=(by have h:¬ (i:Int)<s.length:=of_decide_eq_false c0;omega)
  rw [c0',List.drop_length] at hrest
  simp only [unhF,List.append_nil] at hrest
  rw[←hrest]
  conv=>whnf
  refine⟨fun i _=>⟨_,rfl⟩,?_⟩
  rw[qb0]
  conv=>whnf
  try exact rfl
def vF:Nat→List UInt8→Nat
 |n,[]=>n
 |n,c :: r=>vF (10 * n+(c.toNat+208) % 256 % 10) r
def vW(s:List UInt8):Nat:=vF 0 (s.take 17)
theorem yk0(c:UInt8):∀ (l:List UInt8) (n:Nat),vF n (l++[c])=10 * vF n l+(c.toNat+208) % 256 % 10
 |[],n=>rfl
 |a :: l,n=>yk0 c l _
theorem vF_lt:∀ (l:List UInt8) (k n:Nat),n<10 ^ k→vF n l<10 ^ (k+l.length)
 |[],k,n,h=>h
 |c :: l,k,n,h=>by
  have:=vF_lt l (k+1) (10 * n+(c.toNat+208) % 256 % 10) (by rw[Nat.pow_succ];omega)
  rw[List.length_cons,show k+(l.length+1)=k+1+l.length by omega]
  exact this
theorem vF_dec:∀ n:Nat,vF 0 (Lib.decDigits n)=n:=by
 intro n
 induction n using Nat.strongRecOn with
 |ind n ih =>
  have hd:∀ k,k<10→((UInt8.ofNat (48+k)).toNat+208) % 256 % 10=k:=by decide
  rw[Lib.decDigits]
  split
  ·rename_i h
   show 10 * 0+_=n
   rw[hd n h]
   omega
  ·rw[yk0,ih (n / 10) (by omega),hd _ (by omega)]
   omega
theorem vW_dec{n:Nat}(h:n<10000000000):vW (Lib.decDigits n)=n:=by
 unfold vW
 rw[List.take_of_length_le (by have:=ya8 9 n h;omega)]
 exact vF_dec n
theorem val_d:∀ n:Nat,n<256→IntKind.i64.wrap ((IntKind.u8.wrap (((n:Nat):Int) - 48)).tmod 10)=(((n+208) % 256 % 10:Nat):Int):=by decide +kernel
set_option maxHeartbeats 4000000 in
theorem jw4(s:List UInt8)(hs:s.length≤1000000):FnOk Tryz.prog 75 [.d (.str s)] (.d (.int .i64 (vW s:Nat))):=by
 refine qa4 (TT:=TT) (IN:=qc0 []) qc6 qa3 mixed 1000 Tryz.func75 rfl (qa7 Tryz.func75 (by kernel_rfl) rfl) rfl 24 (by kernel_rfl) ?_
 conv=>whnf
 refine .inv Nat (fun i=>i≤s.length∧i≤17) (fun i=>[(3,iV (vF 0 (s.take i))),(4,iV i)]) (fun _=>[]) (fun i=>s.length - i) ⟨0,[],⟨Nat.zero_le _,by omega⟩,?_⟩ ?_
 ·conv=>whnf
  repeat'(first|exact ⟨⟩|exact rfl|exact fun _=>Iff.rfl|exact fun _ _=>rfl|exact renM_ent rfl _|apply And.intro)
 intro i hi
 obtain⟨hi,hi17⟩:=hi
 conv=>whnf
 have hv:=vF_lt (s.take i) 0 0 (by decide)
 have hp:10 ^ (0+(s.take i).length)≤10 ^ 17:=Nat.pow_le_pow_right (by decide) (by rw[List.length_take];omega)
 by_cases c0:i<s.length
 ·refine brT (decide_eq_true (by omega)) ?_
  conv=>whnf
  by_cases c1:i<17
  ·refine brT (decide_eq_true (by show(i:Int)<17;omega)) ?_
   have hsk:s[i]? = some s[i]:=List.getElem?_eq_getElem c0
   have hbk:qb8 s (i:Int)=((s[i].toNat:Nat):Int):=by rw[qj0];unfold bt;rw[hsk];rfl
   have htk:s.take (i+1)=s.take i++[s[i]]:=by rw[List.take_add_one,hsk];rfl
   generalize s[i]=c at hsk hbk htk
   have hk1:IntKind.i64.wrap ((i:Int)+1)=((i+1:Nat):Int):=by rw[qa1 _ (by omega)];omega
   have hcd:=val_d c.toNat c.toNat_lt
   conv=>whnf
   refine⟨by omega,?_⟩
   conv=>whnf
   rw[hbk]
   refine⟨by decide,?_⟩
   conv=>whnf
   rw[hk1,hcd,show IntKind.i64.wrap (IntKind.i64.wrap (10 * ((vF 0 (s.take i):Nat):Int))+(((c.toNat+208) % 256 % 10:Nat):Int))=((vF 0 (s.take (i+1)):Nat):Int) by
    rw[htk,yk0,qa1 (10 * ((vF 0 (s.take i):Nat):Int)) (by omega),qa1 _ (by omega)];omega]
   refine⟨i+1,[],⟨c0,c1⟩,by omega,?_⟩
   conv=>whnf
   repeat'(first|exact ⟨⟩|exact rfl|exact fun _=>Iff.rfl|exact fun _ _=>rfl|exact renM_ent rfl _|apply And.intro)
  ·refine brF (decide_eq_false (by show ¬ (i:Int)<17;omega)) ?_
   conv=>whnf
   rw[show vW s=vF 0 (s.take i) by unfold vW;rw[show i=17 by omega]]
   try exact rfl
 ·refine brF (decide_eq_false (by omega)) ?_
  conv=>whnf
  repeat(first|(refine brF rfl ?_;conv=>whnf)|(refine brT rfl ?_;conv=>whnf))
  rw[show vW s=vF 0 (s.take i) by unfold vW;rw[List.take_of_length_le (by omega),List.take_of_length_le (by omega)]]
  try exact rfl
def spl:List UInt8→List (List UInt8)
 |[]=>[[]]
 |c :: r=>if c=32 then [] :: spl r else (match spl r with
  |[]=>[[c]]
  |x :: l=>(c :: x) :: l)
theorem spl_no:∀ s:List UInt8,(∀ b ∈ s,b≠32)→spl s=[s]
 |[],_=>rfl
 |c :: r,h=>by
  simp only[spl]
  rw[if_neg (h c (by simp)),spl_no r (fun b hb=>h b (by simp[hb]))]
theorem je5:∀ (x y:List UInt8),(∀ b ∈ x,b≠32)→spl (x++32 :: y)=x :: spl y
 |[],y,_=>by simp[spl]
 |c :: x,y,h=>by
  simp only[List.cons_append,spl]
  rw[if_neg (h c (by simp)),je5 x y (fun b hb=>h b (by simp[hb]))]
structure WdSt where
 l:List (List UInt8)
 from_:Nat
 i:Nat
set_option maxHeartbeats 4000000 in
theorem words_ok(s:List UInt8)(hs:s.length≤1000000):FnOk Tryz.prog 73 [.d (.str s)] (.d (.sl false (spl s).length 1 (strs (spl s)))):=by
 refine qa4 (TT:=TT) (IN:=qc0 []) qc6 qa3 mixed 1000 Tryz.func73 rfl (qa7 Tryz.func73 (by kernel_rfl) rfl) rfl 32 (by kernel_rfl) ?_
 conv=>whnf
 refine .csT 3 0 9 1 (fun _=>[]) rfl rfl ?_
 refine .inv WdSt (fun x=>x.i≤s.length+1∧x.from_≤x.i∧x.l.length≤x.i∧((x.i≤s.length∧(∀ j,x.from_≤j→j<x.i→s[j]?≠some 32)∧x.l++spl (s.drop x.from_)=spl s)∨(x.i=s.length+1∧x.l=spl s))) (fun x=>[(3,.all 1),(4,iV x.from_),(5,iV x.i)]) (fun x=>[(1,.row 9 1 x.l.length .no (strs x.l))]) (fun x=>s.length+1 - x.i) ⟨⟨[],0,0⟩,[0,1],⟨Nat.zero_le _,Nat.le_refl _,Nat.le_refl _,.inl ⟨Nat.zero_le _,fun j _ h=>absurd h (Nat.not_lt_zero _),rfl⟩⟩,?_⟩ ?_
 ·conv=>whnf
  repeat'(first|exact ⟨⟩|exact rfl|exact qa0 _|exact Or.inr rfl|exact fun _ _=>rfl|exact fun _ h=>absurd h (Nat.not_lt_zero _)|apply And.intro)
 intro x hx
 obtain⟨hi,hf,hl,hc⟩:=hx
 conv=>whnf
 generalize x.i=i at hi hf hl hc ⊢
 generalize x.from_=f at hf hc ⊢
 generalize x.l=l at hl hc ⊢
 generalize spl s=Y at hc ⊢
 have hk1:IntKind.i64.wrap ((i:Int)+1)=((i+1:Nat):Int):=by rw[qa1 _ (by omega)];omega
 refine⟨fun c0=>?_,fun c0=>?_⟩
 ·have c0':i≤s.length:=(by have h:(i:Int)≤s.length:=of_decide_eq_true c0;omega)
  obtain⟨_,hno,hY⟩:=hc.resolve_right (fun h=>by omega)
  have hsub:∀ k,k≤s.length→sub s (f:Int) (k:Int)=(s.drop f).take (k - f):=fun k _=>by unfold sub;rw[Int.toNat_natCast,Int.toNat_natCast]
  conv=>whnf
  by_cases he:i=s.length
  ·refine brT (by rw[beq_iff_eq];omega) ?_
   conv=>whnf
   repeat(first|(refine brF rfl ?_;conv=>whnf)|(refine brT rfl ?_;conv=>whnf))
   refine⟨by omega,?_⟩
   conv=>whnf
   refine⟨by omega,?_⟩
   conv=>whnf
   rw[hk1]
   refine⟨⟨l++[s.drop f],i+1,i+1⟩,[0,3],⟨by show i+1≤_;omega,Nat.le_refl _,by show(l++[_]).length≤i+1;rw[List.length_append];show l.length+1≤_;omega,.inr ⟨by show i+1=_;omega,?_⟩⟩,by show s.length+1 - (i+1)<s.length+1 - i;omega,?_⟩
   ·show l++[s.drop f]=Y
    rw[←hY,spl_no]
    intro b hb e
    subst e
    obtain⟨j,hj,e2⟩:=List.getElem_of_mem hb
    have hj':f+j<s.length:=by rw [List.length_drop] at hj;omega
    rw [List.getElem_drop] at e2
    exact hno (f+j) (by omega) (by omega) (by rw[List.getElem?_eq_getElem hj',e2])
   conv=>whnf
   repeat'(first|exact ⟨⟩|exact rfl|exact qa0 _|exact Or.inr rfl|exact fun _ _=>rfl|exact fun _ h=>absurd h (Nat.not_lt_zero _)|apply And.intro)
   all_goals first
    |(show l.length+1=(l++[_]).length;simp)
    |(
     refine qg7 l _ _ ?_
     show[DV.str _]=[DV.str _]
     rw[he,hsub _ (Nat.le_refl _),List.take_of_length_le (by rw[List.length_drop];exact Nat.le_refl _)])
  ·refine brF (by rw[beq_eq_false_iff_ne];omega) ?_
   have hil:i<s.length:=by omega
   have hsk:s[i]? = some s[i]:=List.getElem?_eq_getElem hil
   have hbk:qb8 s (i:Int)=((s[i].toNat:Nat):Int):=by rw[qj0];unfold bt;rw[hsk];rfl
   have hdr:s.drop f=(s.drop f).take (i - f)++s[i] :: s.drop (i+1):=by
    rw[←List.drop_eq_getElem_cons hil]
    have:=List.take_append_drop (i - f) (s.drop f)
    rw [List.drop_drop,show f+(i - f)=i by omega] at this
    exact this.symm
   generalize s[i]=c at hsk hbk hdr
   conv=>whnf
   refine⟨by omega,?_⟩
   conv=>whnf
   rw[hbk]
   by_cases h32:c=32
   ·subst h32
    refine brT rfl ?_
    conv=>whnf
    refine⟨by omega,?_⟩
    conv=>whnf
    refine⟨by omega,?_⟩
    conv=>whnf
    rw[hk1]
    refine⟨⟨l++[(s.drop f).take (i - f)],i+1,i+1⟩,[0,3],⟨by show i+1≤_;omega,Nat.le_refl _,by show(l++[_]).length≤i+1;rw[List.length_append];show l.length+1≤_;omega,.inl ⟨hil,fun j h1 h2=>absurd h1 (by show ¬ i+1≤j;have:j<i+1:=h2;omega),?_⟩⟩,by show s.length+1 - (i+1)<s.length+1 - i;omega,?_⟩
    ·show(l++[_])++spl (s.drop (i+1))=Y
     rw[←hY,List.append_assoc]
     congr 1
     conv=>rhs;rw[hdr]
     rw[je5]
     ·rfl
     intro b hb e
     subst e
     obtain⟨j,hj,e2⟩:=List.getElem_of_mem hb
     rw [List.length_take,List.length_drop] at hj
     rw [List.getElem_take,List.getElem_drop] at e2
     exact hno (f+j) (by omega) (by omega) (by rw[List.getElem?_eq_getElem (by omega),e2])
    conv=>whnf
    repeat'(first|exact ⟨⟩|exact rfl|exact qa0 _|exact Or.inr rfl|exact fun _ _=>rfl|exact fun _ h=>absurd h (Nat.not_lt_zero _)|apply And.intro)
    all_goals first
     |(show l.length+1=(l++[_]).length;simp)
     |(
      refine qg7 l _ _ ?_
      show[DV.str _]=[DV.str _]
      rw[hsub _ (by omega)])
   ·refine brF (by rw[beq_eq_false_iff_ne];intro h;exact h32 (UInt8.toNat_inj.1 (by show c.toNat=32;omega))) ?_
    conv=>whnf
    rw[hk1]
    refine⟨⟨l,f,i+1⟩,[0,1],⟨by show i+1≤_;omega,by show f≤i+1;omega,by show l.length≤i+1;omega,.inl ⟨hil,fun j h1 h2=>?_,hY⟩⟩,by show s.length+1 - (i+1)<s.length+1 - i;omega,?_⟩
    ·rcases Nat.lt_or_ge j i with h|h
     ·exact hno j h1 h
     ·rw[show j=i by have:j<i+1:=h2;omega,hsk]
      exact fun e=>h32 (Option.some.inj e)
    conv=>whnf
    repeat'(first|exact ⟨⟩|exact rfl|exact qa0 _|exact Or.inr rfl|exact fun _ _=>rfl|exact fun _ h=>absurd h (Nat.not_lt_zero _)|apply And.intro)
 ·have c0':¬ i≤s.length:=(by have h:¬ (i:Int)≤s.length:=of_decide_eq_false c0;omega)
  obtain⟨_,rfl⟩:=hc.resolve_left (fun h=>c0' h.1)
  conv=>whnf
  exact⟨rfl,rfl,.inr rfl,fun _ _=>rfl⟩
end Go.Proofs.YtdfdlbnojmlpiaaGreatDoor
namespace Go.Proofs.YtdfdlbnojmlpiaaGreatDoor
open Go Go.Eng
set_option maxRecDepth 100000
theorem jp1(b:List UInt8)(x y z u:UInt8)(i:Nat)(h:i<b.length+4):catF b.length (qd0 b) (qg5 [DV.int IntKind.u8 (x.toNat:Int),DV.int IntKind.u8 (y.toNat:Int),DV.int IntKind.u8 (z.toNat:Int),DV.int IntKind.u8 (u.toNat:Int)] 1) i=qd0 (b++[x,y,z,u]) i:=by
 unfold catF qd0 qb8
 split
 ·rename_i hl
  simp[List.getElem?_append_left hl]
 ·rename_i hl
  have:i=b.length∨i=b.length+1∨i=b.length+2∨i=b.length+3:=by omega
  rcases this with rfl|rfl|rfl|rfl <;> simp[qg5,show((b.length:Int)+2).toNat=b.length+2 by omega,show((b.length:Int)+3).toNat=b.length+3 by omega]
theorem cat_two(b:List UInt8)(x y:UInt8)(i:Nat)(h:i<b.length+1+1):catF (b.length+1) (catF b.length (qd0 b) (qg5 [DV.int IntKind.u8 (x.toNat:Int)] 1)) (qg5 [DV.int IntKind.u8 (y.toNat:Int)] 1) i=qd0 (b++[x,y]) i:=by
 have h1:∀ j,j<b.length+1→catF b.length (qd0 b) (qg5 [DV.int IntKind.u8 (x.toNat:Int)] 1) j=qd0 (b++[x]) j:=fun j hj=>qc1 b x j hj
 have h2:=qc1 (b++[x]) y i (by simp;omega)
 rw [List.append_assoc] at h2
 refine Eq.trans ?_ h2
 unfold catF
 rw[List.length_append]
 show(if i<b.length+1 then _ else _)=(if i<b.length+1 then _ else _)
 split
 ·rename_i h3
  exact h1 i h3
 ·rfl
theorem labN_eq{n:List UInt8}{l:List (List UInt8)}(h:qg2 n=some l):labN n=l:=by unfold labN;rw[h];rfl
set_option maxHeartbeats 8000000 in
theorem r1print_ok(n:List UInt8):FnOk Tryz.prog 66 [.d (.str n)] (.tup [.d (.str (qy9 n).1),.d (.int .i64 (qy9 n).2)]):=by
 refine qa4 (TT:=TT) (IN:=qc0 []) qc6 qa3 mixed 1000 Tryz.func66 rfl (qa7 Tryz.func66 (by kernel_rfl) rfl) rfl 73 (by kernel_rfl) ?_
 conv=>whnf
 refine .one (.data _ (js8 n) rfl (by cases qg2 n <;> rfl) ?_)
 have hin:=qu0 n
 cases hl:qg2 n with
 |none =>
  have hn:¬ qc5 n:=fun h=>by rw [hin,hl] at h;cases h
  rw[show qy9 n=([],2) from if_neg hn]
  conv=>whnf
  repeat(first|(refine brF rfl ?_;conv=>whnf)|(refine brT rfl ?_;conv=>whnf))
  repeat'(first|exact ⟨⟩|exact rfl|exact fun _=>Iff.rfl|exact fun _ _=>rfl|exact renM_ent rfl _|apply And.intro)
 |some ls =>
  have hn:qc5 n:=hin.2 (by rw[hl];rfl)
  obtain⟨h1,h2,h3⟩:=qm3 hn
  rw [labN_eq hl] at h2 h3
  rw[show qy9 n=(txtN n,0) from if_pos hn]
  conv=>whnf
  repeat(first|(refine brF rfl ?_;conv=>whnf)|(refine brT rfl ?_;conv=>whnf))
  by_cases h0:ls=[]
  ·have:n=[0]:=by rw[h3,h0];rfl
   rw[show txtN n=[46] by unfold txtN;rw[if_pos this]]
   subst h0
   refine brT rfl ?_
   conv=>whnf
   repeat'(first|exact ⟨⟩|exact rfl|exact fun _=>Iff.rfl|exact fun _ _=>rfl|exact renM_ent rfl _|apply And.intro)
  have hpos:=List.length_pos_iff.2 h0
  have hn0:n≠[0]:=fun e=>by
   rw [e] at hl
   have:qg2 [0]=some []:=by decide
   rw [this] at hl
   exact h0 (Option.some.inj hl).symm
  rw[show txtN n=txtL ls by unfold txtN;rw[if_neg hn0,labN_eq hl]]
  refine brF (by rw[beq_eq_false_iff_ne];omega) ?_
  conv=>whnf
  have hlen:=qt9 ls
  have hml:(labs ls).length+1=n.length:=by rw[h3,←qj8,List.length_append];rfl
  have htx:=qp3 ls h2
  rw [←h3] at htx
  refine .nilT 6 5 1 (qd0 []) _ _ rfl ?_
  refine .inv Nat (fun i=>i≤ls.length) (fun i=>[(6,.all 0),(23,iV i)]) (fun i=>[(0,.row 5 1 (txtL (ls.take i)).length .iff (qd0 (txtL (ls.take i))))]) (fun i=>ls.length - i) ⟨0,[0],Nat.zero_le _,?_⟩ ?_
  ·conv=>whnf
   repeat'(first|exact ⟨⟩|exact rfl|exact qa0 _|exact Or.inr rfl|exact fun _ _=>rfl|exact fun _ h=>absurd h (Nat.not_lt_zero _)|apply And.intro)
  intro i hi
  conv=>whnf
  have htl:(txtL (ls.take i)).length≤1020:=by
   have h4:=qp3 (ls.take i) (fun l h=>h2 l (List.mem_of_mem_take h))
   have h5:(mk (ls.take i)).length≤(mk ls).length:=by
    have e1:(labs (ls.take i)).length+1=(mk (ls.take i)).length:=by rw[←qj8,List.length_append];rfl
    have e2:(labs ls).length+1=(mk ls).length:=by rw[←qj8,List.length_append];rfl
    have:=qp8 ls i
    omega
   rw [←h3] at h5
   omega
  refine⟨fun c0=>?_,fun c0=>?_⟩
  ·have c0':i<ls.length:=(by have h:(i:Int)<ls.length:=of_decide_eq_true c0;omega)
   have hli:ls[i]? = some ls[i]:=List.getElem?_eq_getElem c0'
   have hok:=h2 _ (List.getElem_mem c0')
   have hsn:=yc3 hli
   have hk1:IntKind.i64.wrap ((i:Int)+1)=((i+1:Nat):Int):=by rw[qa1 _ (by omega)];omega
   conv=>whnf
   refine⟨by omega,?_⟩
   conv=>whnf
   rw[Int.toNat_natCast,show ls[i]?.getD []=ls[i] by rw[hli];rfl]
   generalize ls[i]=l at hli hok hsn ⊢
   generalize txtL (ls.take i)=S at htl hsn ⊢
   obtain⟨ho1,ho2⟩:=hok
   refine .inv Nat (fun j=>j≤l.length) (fun j=>[(6,.all 0),(9,iV j)]) (fun j=>[(0,.row 5 1 (S++escL (l.take j)).length .iff (qd0 (S++escL (l.take j))))]) (fun j=>l.length - j) ⟨0,[0],Nat.zero_le _,?_⟩ ?_
   ·conv=>whnf
    rw[show S++escL (l.take 0)=S by simp[escL]]
    repeat'(first|exact ⟨⟩|exact rfl|exact qa0 _|exact Or.inr rfl|exact fun _ _=>rfl|exact fun _ h=>absurd h (Nat.not_lt_zero _)|apply And.intro)
   intro j hj
   conv=>whnf
   have hel:=qy2 (l.take j)
   rw [List.length_take] at hel
   have hTl:(S++escL (l.take j)).length≤1300:=by rw[List.length_append];omega
   refine⟨fun c1=>?_,fun c1=>?_⟩
   ·have c1':j<l.length:=(by have h:(j:Int)<l.length:=of_decide_eq_true c1;omega)
    have hsk:l[j]? = some l[j]:=List.getElem?_eq_getElem c1'
    have hbk:qb8 l (j:Int)=((l[j].toNat:Nat):Int):=by rw[qj0];unfold bt;rw[hsk];rfl
    have hnx:S++escL (l.take (j+1))=(S++escL (l.take j))++escB l[j]:=by rw[yh6 hsk,List.append_assoc]
    have hj1:IntKind.i64.wrap ((j:Int)+1)=((j+1:Nat):Int):=by rw[qa1 _ (by omega)];omega
    generalize l[j]=c at hsk hbk hnx
    generalize S++escL (l.take j)=T at hTl hnx ⊢
    have hc:=c.toNat_lt
    obtain⟨d1,d2,d3⟩:=tellD c.toNat hc
    conv=>whnf
    refine⟨by omega,?_⟩
    conv=>whnf
    rw[hbk]
    by_cases h33:33≤c.toNat∧c.toNat≤126
    ·refine brF (decide_eq_false (by omega)) ?_
     conv=>whnf
     refine brF (decide_eq_false (by omega)) ?_
     conv=>whnf
     repeat(first|(refine brF rfl ?_;conv=>whnf)|(refine brT rfl ?_;conv=>whnf))
     rw[show(((c.toNat:Int)) == 46)=decide (c=46) from eqc c 46]
     by_cases hsp:c=46∨c=92
     ·rw [show escB c=[92,c] from if_pos hsp] at hnx
      by_cases h46:c=46
      ·refine brT (decide_eq_true h46) ?_
       conv=>whnf
       repeat(first|(refine brF rfl ?_;conv=>whnf)|(refine brT rfl ?_;conv=>whnf))
       refine⟨by omega,?_⟩
       conv=>whnf
       refine⟨by omega,?_⟩
       conv=>whnf
       rw[hj1]
       refine⟨j+1,[4],c1',by show l.length - (j+1)<l.length - j;omega,?_⟩
       rw[hnx]
       conv=>whnf
       repeat'(first|exact ⟨⟩|exact rfl|exact qa0 _|exact Or.inr rfl|exact fun _ _=>rfl|exact fun _ h=>absurd h (Nat.not_lt_zero _)|apply And.intro)
       all_goals first
        |(show T.length+1+1=(T++[92,c]).length;simp)
        |exact fun i hi=>cat_two T 92 c i hi
      ·refine brF (decide_eq_false h46) ?_
       conv=>whnf
       rw[show(((c.toNat:Int)) == 92)=decide (c=92) from eqc c 92]
       refine brT (decide_eq_true (hsp.resolve_left h46)) ?_
       conv=>whnf
       repeat(first|(refine brF rfl ?_;conv=>whnf)|(refine brT rfl ?_;conv=>whnf))
       refine⟨by omega,?_⟩
       conv=>whnf
       refine⟨by omega,?_⟩
       conv=>whnf
       rw[hj1]
       refine⟨j+1,[4],c1',by show l.length - (j+1)<l.length - j;omega,?_⟩
       rw[hnx]
       conv=>whnf
       repeat'(first|exact ⟨⟩|exact rfl|exact qa0 _|exact Or.inr rfl|exact fun _ _=>rfl|exact fun _ h=>absurd h (Nat.not_lt_zero _)|apply And.intro)
       all_goals first
        |(show T.length+1+1=(T++[92,c]).length;simp)
        |exact fun i hi=>cat_two T 92 c i hi
     ·rw [show escB c=[c] by unfold escB;rw [if_neg hsp,if_pos h33]] at hnx
      refine brF (decide_eq_false (fun h=>hsp (.inl h))) ?_
      conv=>whnf
      rw[show(((c.toNat:Int)) == 92)=decide (c=92) from eqc c 92]
      refine brF (decide_eq_false (fun h=>hsp (.inr h))) ?_
      conv=>whnf
      repeat(first|(refine brF rfl ?_;conv=>whnf)|(refine brT rfl ?_;conv=>whnf))
      refine⟨by omega,?_⟩
      conv=>whnf
      rw[hj1]
      refine⟨j+1,[2],c1',by show l.length - (j+1)<l.length - j;omega,?_⟩
      rw[hnx]
      conv=>whnf
      repeat'(first|exact ⟨⟩|exact rfl|exact qa0 _|exact Or.inr rfl|exact fun _ _=>rfl|exact fun _ h=>absurd h (Nat.not_lt_zero _)|apply And.intro)
      all_goals first
       |(show T.length+1=(T++[c]).length;simp)
       |exact(fun i hi=>qc1 T c i hi)
    ·have he:escB c=[92,UInt8.ofNat (48+c.toNat / 100),UInt8.ofNat (48+c.toNat / 10 % 10),UInt8.ofNat (48+c.toNat % 10)]:=by
      unfold escB
      rw[if_neg (fun h=>h33 (by rcases h with rfl|rfl <;> decide)),if_neg h33]
     rw [he] at hnx
     by_cases h33':c.toNat<33
     ·refine brT (decide_eq_true (by omega)) ?_
      conv=>whnf
      repeat(first|(refine brF rfl ?_;conv=>whnf)|(refine brT rfl ?_;conv=>whnf))
      refine⟨by decide,?_⟩
      conv=>whnf
      rw[d1]
      refine⟨by decide,?_⟩
      conv=>whnf
      refine⟨by decide,?_⟩
      conv=>whnf
      rw[d2]
      refine⟨by decide,?_⟩
      conv=>whnf
      rw[d3]
      refine⟨by omega,?_⟩
      conv=>whnf
      rw[hj1]
      refine⟨j+1,[2],c1',by show l.length - (j+1)<l.length - j;omega,?_⟩
      rw[hnx]
      conv=>whnf
      repeat'(first|exact ⟨⟩|exact rfl|exact qa0 _|exact Or.inr rfl|exact fun _ _=>rfl|exact fun _ h=>absurd h (Nat.not_lt_zero _)|apply And.intro)
      all_goals first
       |(show T.length+4=(T++[92,_,_,_]).length;simp)
       |exact fun i hi=>jp1 T 92 _ _ _ i hi
     ·refine brF (decide_eq_false (by omega)) ?_
      conv=>whnf
      refine brT (decide_eq_true (by omega)) ?_
      conv=>whnf
      repeat(first|(refine brF rfl ?_;conv=>whnf)|(refine brT rfl ?_;conv=>whnf))
      refine⟨by decide,?_⟩
      conv=>whnf
      rw[d1]
      refine⟨by decide,?_⟩
      conv=>whnf
      refine⟨by decide,?_⟩
      conv=>whnf
      rw[d2]
      refine⟨by decide,?_⟩
      conv=>whnf
      rw[d3]
      refine⟨by omega,?_⟩
      conv=>whnf
      rw[hj1]
      refine⟨j+1,[2],c1',by show l.length - (j+1)<l.length - j;omega,?_⟩
      rw[hnx]
      conv=>whnf
      repeat'(first|exact ⟨⟩|exact rfl|exact qa0 _|exact Or.inr rfl|exact fun _ _=>rfl|exact fun _ h=>absurd h (Nat.not_lt_zero _)|apply And.intro)
      all_goals first
       |(show T.length+4=(T++[92,_,_,_]).length;simp)
       |exact fun i hi=>jp1 T 92 _ _ _ i hi
   ·have c1':j=l.length:=(by have h:¬ (j:Int)<l.length:=of_decide_eq_false c1;omega)
    subst c1'
    rw [List.take_length] at hTl ⊢
    conv=>whnf
    refine⟨by omega,?_⟩
    conv=>whnf
    rw[hk1]
    refine⟨i+1,[2],c0',by show ls.length - (i+1)<ls.length - i;omega,?_⟩
    rw[hsn]
    conv=>whnf
    repeat'(first|exact ⟨⟩|exact rfl|exact qa0 _|exact Or.inr rfl|exact fun _ _=>rfl|exact fun _ h=>absurd h (Nat.not_lt_zero _)|apply And.intro)
    all_goals first
     |(show(S++escL l).length+1=((S++escL l)++[46]).length;simp[Nat.add_assoc])
     |exact(fun i hi=>qc1 (S++escL l) 46 i hi)
  ·have c0':i=ls.length:=(by have h:¬ (i:Int)<ls.length:=of_decide_eq_false c0;omega)
   subst c0'
   rw[List.take_length]
   conv=>whnf
   refine⟨fun i _=>⟨_,rfl⟩,?_⟩
   rw[qb0]
   conv=>whnf
   repeat'(first|exact ⟨⟩|exact rfl|exact fun _=>Iff.rfl|exact fun _ _=>rfl|exact renM_ent rfl _|apply And.intro)
theorem dg8{x:UInt8}(h1:48≤x.toNat)(h2:x.toNat≤57):IntKind.u8.wrap ((x.toNat:Int) - 48)=((x.toNat - 48:Nat):Int):=by rw[IntKind.wrap_u8];omega
set_option maxHeartbeats 4000000 in
theorem yr9(s:List UInt8):FnOk Tryz.prog 139 [.d (.str s)] (.tup [.d (.int .u8 ((behB s).1.toNat:Int)),.d (.int .i64 (behB s).2)]):=by
 refine qa4 (TT:=TT) (IN:=qc0 []) qc6 qa3 mixed 1000 Tryz.func139 rfl (qa7 Tryz.func139 (by kernel_rfl) rfl) rfl 59 (by kernel_rfl) ?_
 cases s with
 |nil =>
  conv=>whnf
  repeat(first|(refine brF rfl ?_;conv=>whnf)|(refine brT rfl ?_;conv=>whnf))
  repeat'(first|exact ⟨⟩|exact rfl|exact fun _=>Iff.rfl|exact fun _ _=>rfl|exact renM_ent rfl _|apply And.intro)
 |cons c r =>
  have hc:=c.toNat_lt
  conv=>whnf
  refine brF rfl ?_
  conv=>whnf
  have hix:(0:Int)≤0∧(0:Int)<((r.length+1:Nat):Int):=by omega
  have hb0:qb8 (c :: r) 0=(c.toNat:Int):=rfl
  refine⟨hix,?_⟩
  conv=>whnf
  rw[hb0]
  by_cases h1:48≤c.toNat
  case neg =>
   have he:behB (c :: r)=(c,1):=by
    have:qk7 c=false:=by unfold qk7;rw[decide_eq_false (by omega)]
    simp[behB,this]
   rw[he]
   refine brT (decide_eq_true (by omega)) ?_
   conv=>whnf
   repeat(first|(refine brF rfl ?_;conv=>whnf)|(refine brT rfl ?_;conv=>whnf))
   refine⟨hix,?_⟩
   conv=>whnf
   repeat'(first|exact ⟨⟩|exact rfl|exact fun _=>Iff.rfl|exact fun _ _=>rfl|exact renM_ent rfl _|apply And.intro)
  refine brF (decide_eq_false (by omega)) ?_
  conv=>whnf
  refine⟨hix,?_⟩
  conv=>whnf
  rw[hb0]
  by_cases h2:c.toNat≤57
  case neg =>
   have he:behB (c :: r)=(c,1):=by
    have:qk7 c=false:=by unfold qk7;rw[decide_eq_false (by omega)]
    simp[behB,this]
   rw[he]
   refine brT (decide_eq_true (by omega)) ?_
   conv=>whnf
   repeat(first|(refine brF rfl ?_;conv=>whnf)|(refine brT rfl ?_;conv=>whnf))
   refine⟨hix,?_⟩
   conv=>whnf
   repeat'(first|exact ⟨⟩|exact rfl|exact fun _=>Iff.rfl|exact fun _ _=>rfl|exact renM_ent rfl _|apply And.intro)
  refine brF (decide_eq_false (by omega)) ?_
  conv=>whnf
  repeat(first|(refine brF rfl ?_;conv=>whnf)|(refine brT rfl ?_;conv=>whnf))
  have hd:qk7 c=true:=(digI c).2 ⟨by omega,by omega⟩
  have hcase:r=[]∨(∃ d,r=[d])∨∃ d e q,r=d :: e :: q:=by
   match r with
   |[]=>exact .inl rfl
   |[d]=>exact .inr (.inl ⟨d,rfl⟩)
   |d :: e :: q=>exact .inr (.inr ⟨d,e,q,rfl⟩)
  rcases hcase with rfl|⟨d,rfl⟩|⟨d,e,q,rfl⟩
  ·have he:behB [c]=(0,0):=by simp[behB,hd]
   rw[he]
   refine brT rfl ?_
   conv=>whnf
   repeat(first|(refine brF rfl ?_;conv=>whnf)|(refine brT rfl ?_;conv=>whnf))
   repeat'(first|exact ⟨⟩|exact rfl|exact fun _=>Iff.rfl|exact fun _ _=>rfl|exact renM_ent rfl _|apply And.intro)
  ·have he:behB [c,d]=(0,0):=by simp[behB,hd]
   rw[he]
   refine brT rfl ?_
   conv=>whnf
   repeat(first|(refine brF rfl ?_;conv=>whnf)|(refine brT rfl ?_;conv=>whnf))
   repeat'(first|exact ⟨⟩|exact rfl|exact fun _=>Iff.rfl|exact fun _ _=>rfl|exact renM_ent rfl _|apply And.intro)
  have hdd:=d.toNat_lt
  have hed:=e.toNat_lt
  have hb1:qb8 (c :: d :: e :: q) 1=(d.toNat:Int):=rfl
  have hb2:qb8 (c :: d :: e :: q) 2=(e.toNat:Int):=rfl
  have hn:∀ x:UInt8,x.toNat<48∨57<x.toNat→qk7 x=false:=fun x hx=>by unfold qk7;rw[decide_eq_false (by omega)]
  refine brF (decide_eq_false (by show ¬ ((q.length+1+1+1:Nat):Int)<3;omega)) ?_
  conv=>whnf
  refine⟨by show(0:Int)≤1∧(1:Int)<((q.length+1+1+1:Nat):Int);omega,?_⟩
  conv=>whnf
  rw[hb1]
  by_cases ld:48≤d.toNat
  case neg =>
   have he:behB (c :: d :: e :: q)=(0,0):=by simp[behB,hd,hn d (by omega)]
   rw[he]
   refine brT (decide_eq_true (by omega)) ?_
   conv=>whnf
   repeat(first|(refine brF rfl ?_;conv=>whnf)|(refine brT rfl ?_;conv=>whnf))
   repeat'(first|exact ⟨⟩|exact rfl|exact fun _=>Iff.rfl|exact fun _ _=>rfl|exact renM_ent rfl _|apply And.intro)
  refine brF (decide_eq_false (by omega)) ?_
  conv=>whnf
  refine⟨by show(0:Int)≤1∧(1:Int)<((q.length+1+1+1:Nat):Int);omega,?_⟩
  conv=>whnf
  rw[hb1]
  by_cases ud:d.toNat≤57
  case neg =>
   have he:behB (c :: d :: e :: q)=(0,0):=by simp[behB,hd,hn d (by omega)]
   rw[he]
   refine brT (decide_eq_true (by omega)) ?_
   conv=>whnf
   repeat(first|(refine brF rfl ?_;conv=>whnf)|(refine brT rfl ?_;conv=>whnf))
   repeat'(first|exact ⟨⟩|exact rfl|exact fun _=>Iff.rfl|exact fun _ _=>rfl|exact renM_ent rfl _|apply And.intro)
  refine brF (decide_eq_false (by omega)) ?_
  conv=>whnf
  have hdd1:qk7 d=true:=(digI d).2 ⟨by omega,by omega⟩
  refine⟨by show(0:Int)≤2∧(2:Int)<((q.length+1+1+1:Nat):Int);omega,?_⟩
  conv=>whnf
  rw[hb2]
  by_cases le:48≤e.toNat
  case neg =>
   have he:behB (c :: d :: e :: q)=(0,0):=by simp[behB,hd,hdd1,hn e (by omega)]
   rw[he]
   refine brT (decide_eq_true (by omega)) ?_
   conv=>whnf
   repeat(first|(refine brF rfl ?_;conv=>whnf)|(refine brT rfl ?_;conv=>whnf))
   repeat'(first|exact ⟨⟩|exact rfl|exact fun _=>Iff.rfl|exact fun _ _=>rfl|exact renM_ent rfl _|apply And.intro)
  refine brF (decide_eq_false (by omega)) ?_
  conv=>whnf
  refine⟨by show(0:Int)≤2∧(2:Int)<((q.length+1+1+1:Nat):Int);omega,?_⟩
  conv=>whnf
  rw[hb2]
  by_cases ue:e.toNat≤57
  case neg =>
   have he:behB (c :: d :: e :: q)=(0,0):=by simp[behB,hd,hdd1,hn e (by omega)]
   rw[he]
   refine brT (decide_eq_true (by omega)) ?_
   conv=>whnf
   repeat(first|(refine brF rfl ?_;conv=>whnf)|(refine brT rfl ?_;conv=>whnf))
   repeat'(first|exact ⟨⟩|exact rfl|exact fun _=>Iff.rfl|exact fun _ _=>rfl|exact renM_ent rfl _|apply And.intro)
  refine brF (decide_eq_false (by omega)) ?_
  conv=>whnf
  have hed1:qk7 e=true:=(digI e).2 ⟨by omega,by omega⟩
  repeat(first|(refine brF rfl ?_;conv=>whnf)|(refine brT rfl ?_;conv=>whnf))
  refine⟨by show(0:Int)≤0∧(0:Int)<((q.length+1+1+1:Nat):Int);omega,?_⟩
  conv=>whnf
  rw[hb0]
  refine⟨by show(0:Int)≤1∧(1:Int)<((q.length+1+1+1:Nat):Int);omega,?_⟩
  conv=>whnf
  rw[hb1]
  refine⟨by show(0:Int)≤2∧(2:Int)<((q.length+1+1+1:Nat):Int);omega,?_⟩
  conv=>whnf
  rw[hb2]
  rw[dg8 h1 h2,dg8 ld ud,dg8 le ue,qa1 (((c.toNat - 48:Nat):Int)) (by omega),qa1 (((d.toNat - 48:Nat):Int)) (by omega),qa1 (((e.toNat - 48:Nat):Int)) (by omega),qa1 (100 * ((c.toNat - 48:Nat):Int)) (by omega),qa1 (10 * ((d.toNat - 48:Nat):Int)) (by omega),qa1 (100 * ((c.toNat - 48:Nat):Int)+10 * ((d.toNat - 48:Nat):Int)) (by omega),qa1 _ (by omega)]
  rw[show 100 * ((c.toNat - 48:Nat):Int)+10 * ((d.toNat - 48:Nat):Int)+((e.toNat - 48:Nat):Int)=((100 * (c.toNat - 48)+10 * (d.toNat - 48)+(e.toNat - 48):Nat):Int) by omega]
  have hbe:behB (c :: d :: e :: q)=if 100 * (c.toNat - 48)+10 * (d.toNat - 48)+(e.toNat - 48)≤255 then (UInt8.ofNat (100 * (c.toNat - 48)+10 * (d.toNat - 48)+(e.toNat - 48)),3) else (0,0):=by simp only[behB,hd,hdd1,hed1,if_true]
  rw[hbe]
  generalize 100 * (c.toNat - 48)+10 * (d.toNat - 48)+(e.toNat - 48)=N
  by_cases hN2:N≤255
  ·rw[if_pos hN2]
   refine brF (decide_eq_false (by omega)) ?_
   conv=>whnf
   rw[w8n (by omega)]
   repeat'(first|exact ⟨⟩|exact rfl|exact fun _=>Iff.rfl|exact fun _ _=>rfl|exact renM_ent rfl _|apply And.intro)
  ·rw[if_neg hN2]
   refine brT (decide_eq_true (by omega)) ?_
   conv=>whnf
   repeat'(first|exact ⟨⟩|exact rfl|exact fun _=>Iff.rfl|exact fun _ _=>rfl|exact renM_ent rfl _|apply And.intro)
end Go.Proofs.YtdfdlbnojmlpiaaGreatDoor
namespace Go.Proofs.YtdfdlbnojmlpiaaGreatDoor
open Go Go.Eng
set_option maxRecDepth 100000
theorem qn7:∀ (m:Nat) (r l:List UInt8) (ls k:List (List UInt8)),(∀ x ∈ ls,x≠[])→tcut m r l ls=some k→∀ x ∈ k,x≠[]
 |0,_,_,_,_,_,h=>by cases h
 |m+1,[],l,ls,k,hl,h=>by
  simp only [tcut] at h
  split at h
  ·split at h
   ·cases h
   ·cases h;exact hl
  ·rename_i h2
   cases h
   intro x hx
   rcases List.mem_append.1 hx with hx|hx
   ·exact hl x hx
   ·simp only [List.mem_singleton] at hx
    rw[hx];exact h2
 |m+1,c :: r,l,ls,k,hl,h=>by
  simp only [tcut] at h
  split at h
  ·split at h
   ·cases h
   ·rename_i h2
    refine qn7 m _ _ _ _ (fun x hx=>?_) h
    rcases List.mem_append.1 hx with hx|hx
    ·exact hl x hx
    ·simp only [List.mem_singleton] at hx
     rw[hx];exact h2
  ·split at h
   ·split at h
    ·cases h
    ·exact qn7 m _ _ _ _ hl h
   ·split at h
    ·exact qn7 m _ _ _ _ hl h
    ·cases h
def qp6:Option (List (List UInt8))→List UInt8 × Int
 |none=>([],6)
 |some ls=>if ls.all okB=true∧(mk ls).length≤255 then (mk ls,0) else ([],7)
structure PaSt where
 at_:Nat
 l:List UInt8
 ls:List (List UInt8)
 m:Nat
def PaSt.v(x:PaSt):SV:=match x.l with
 |[]=>nilS
 |_ :: _=>.all 1
def PaSt.b(x:PaSt):KB:=match x.l with
 |[]=>.gone
 |c :: l=>.row 5 1 (l.length+1) .iff (qd0 (c :: l))
set_option maxHeartbeats 8000000 in
theorem r1parse_ok(s:List UInt8):FnOk Tryz.prog 74 [.d (.str s)] (.tup [.d (.str (qf0 s).1),.d (.int .i64 (qf0 s).2)]):=by
 refine qa4 (TT:=TT) (IN:=qc0 []) qc6 qa3 mixed 1000 Tryz.func74 rfl (qa7 Tryz.func74 (by kernel_rfl) rfl) rfl 91 (by kernel_rfl) ?_
 conv=>whnf
 refine⟨fun h1=>?_,fun h1=>?_⟩
 ·have h1:s.length > 2048:=by have:=of_decide_eq_true h1;omega
  rw[show qf0 s=([],7) by unfold qf0;rw[if_pos h1]]
  conv=>whnf
  repeat'(first|exact ⟨⟩|exact rfl|exact fun _=>Iff.rfl|exact fun _ _=>rfl|exact renM_ent rfl _|apply And.intro)
 have h1:¬ s.length > 2048:=by have:=of_decide_eq_false h1;omega
 conv=>whnf
 refine⟨fun h2=>?_,fun h2=>?_⟩
 ·have h2:s=[46]:=by simpa using h2
  rw[show qf0 s=([0],0) by unfold qf0;rw[if_neg h1,if_pos h2]]
  conv=>whnf
  repeat'(first|exact ⟨⟩|exact rfl|exact fun _=>Iff.rfl|exact fun _ _=>rfl|exact renM_ent rfl _|apply And.intro)
 have h2:s≠[46]:=by simpa using h2
 have he:qf0 s=qp6 (tcut (s.length+1) s [] []):=by unfold qf0 qp6;rw[if_neg h1,if_neg h2];try rfl
 rw[he]
 clear he h2
 conv=>whnf
 refine .nilT 4 9 1 (strs []) _ _ rfl ?_
 refine .pad ?_
 generalize hY:tcut (s.length+1) s [] []=Y
 refine .inv PaSt (fun x=>x.at_≤s.length∧s.length<x.at_+x.m∧x.l.length+x.ls.length≤x.at_∧(∀ y ∈ x.ls,y≠[])∧tcut x.m (s.drop x.at_) x.l x.ls=Y) (fun x=>[(4,.all 0),(5,x.v),(6,iV x.at_)]) (fun x=>[(0,.row 9 1 x.ls.length .iff (strs x.ls)),(1,x.b)]) (fun x=>s.length - x.at_) ⟨⟨0,[],[],s.length+1⟩,[0,1],⟨Nat.zero_le _,by show s.length<0+(s.length+1);omega,Nat.zero_le _,fun y hy=>(by cases hy),hY⟩,?_⟩ ?_
 ·conv=>whnf
  repeat'(first|exact ⟨⟩|exact rfl|exact qa0 _|exact Or.inr rfl|exact fun _ _=>rfl|exact fun _ h=>absurd h (Nat.not_lt_zero _)|apply And.intro)
 intro x hx
 obtain⟨hk,hm,hll,hne,hrest⟩:=hx
 show jr1 _ _ _ [(4,.all 0),(5,x.v),(6,iV x.at_)] [(0,.row 9 1 x.ls.length .iff (strs x.ls)),(1,x.b)] _
 rcases hxl:x.l with _|⟨p0,l0⟩
 ·rw[show x.v=nilS by unfold PaSt.v;rw[hxl],show x.b = .gone by unfold PaSt.b;rw[hxl]]
  rw [hxl] at hll hrest
  conv=>whnf
  generalize x.at_=k at hk hm hll hrest ⊢
  generalize x.ls=ls at hll hrest hne ⊢
  generalize x.m=m at hm hrest ⊢
  obtain⟨m',rfl⟩:∃ m',m=m'+1:=⟨m - 1,by omega⟩
  refine⟨fun c0=>?_,fun c0=>?_⟩
  ·have c0':k<s.length:=(by have h:(k:Int)<s.length:=of_decide_eq_true c0;omega)
   have hsk:s[k]? = some s[k]:=List.getElem?_eq_getElem c0'
   have hdr:s.drop k=s[k] :: s.drop (k+1):=List.drop_eq_getElem_cons c0'
   rw [hdr] at hrest
   have hbk:qb8 s (k:Int)=((s[k].toNat:Nat):Int):=by rw[qj0];unfold bt;rw[hsk];rfl
   generalize s[k]=c at hsk hdr hrest hbk
   have hc:=c.toNat_lt
   have hk1:IntKind.i64.wrap ((k:Int)+1)=((k+1:Nat):Int):=by rw[qa1 _ (by omega)];omega
   simp only [tcut] at hrest
   conv=>whnf
   refine ⟨by first|omega|(simp only [List.length_cons] at hll;omega),?_⟩
   conv=>whnf
   rw[hbk,hk1]
   by_cases h46:c=46
   ·subst h46
    rw [if_pos rfl] at hrest
    refine brT rfl ?_
    conv=>whnf
    first
     |(
      rw [if_pos trivial] at hrest
      rw[←hrest]
      refine brT rfl ?_
      conv=>whnf
      exact⟨rfl,rfl,True.intro⟩)
     |(
      rw [if_neg (List.cons_ne_nil _ _)] at hrest
      simp only [List.length_cons] at hll
      refine brF (by rw[beq_eq_false_iff_ne];omega) ?_
      conv=>whnf
      refine⟨fun i _=>⟨_,rfl⟩,?_⟩
      have hbf:=qb0 (p0 :: l0)
      rw [List.length_cons] at hbf
      rw[hbf]
      conv=>whnf
      refine⟨by omega,?_⟩
      conv=>whnf
      refine⟨⟨k+1,[],ls++[p0 :: l0],m'⟩,[3,0],⟨c0',by show s.length<k+1+m';omega,by show 0+(ls++[_]).length≤k+1;rw[List.length_append];show 0+(ls.length+1)≤_;omega,fun y hy=>?_,hrest⟩,by show s.length - (k+1)<s.length - k;omega,?_⟩
      ·rcases List.mem_append.1 hy with hy|hy
       ·exact hne y hy
       ·simp only [List.mem_singleton] at hy
        rw[hy];exact List.cons_ne_nil _ _
      conv=>whnf
      repeat'(first|exact ⟨⟩|exact rfl|exact qa0 _|exact Or.inr rfl|exact fun _ _=>rfl|exact fun _ h=>absurd h (Nat.not_lt_zero _)|apply And.intro)
      all_goals first
       |(show ls.length+1=(ls++[p0 :: l0]).length;simp)
       |exact qg7 ls _ _ rfl)
   have he46:(((c.toNat:Nat):Int) == 46)=false:=by rw[beq_eq_false_iff_ne];intro h;exact h46 (UInt8.toNat_inj.1 (by show c.toNat=46;omega))
   rw [if_neg h46] at hrest
   refine brF he46 ?_
   conv=>whnf
   by_cases h92:c=92
   ·subst h92
    rw [if_pos rfl] at hrest
    refine brT rfl ?_
    conv=>whnf
    refine ⟨by first|omega|(simp only [List.length_cons] at hll;omega),?_⟩
    conv=>whnf
    rw[jb1]
    generalize hdd:s.drop (k+1)=r at hrest
    have hrl:r.length=s.length - (k+1):=by rw[←hdd,List.length_drop]
    refine .one (.data _ (yr9 r) rfl rfl ?_)
    have hb2:(behB r).2≤r.length:=yb5 r
    generalize hbh:behB r=b at hrest hb2
    obtain⟨b1,b2⟩:=b
    conv=>whnf
    by_cases hb0:b2=0
    ·subst hb0
     rw [if_pos rfl] at hrest
     rw[←hrest]
     refine brT rfl ?_
     conv=>whnf
     repeat'(first|exact ⟨⟩|exact rfl|exact fun _=>Iff.rfl|exact fun _ _=>rfl|exact renM_ent rfl _|apply And.intro)
    rw [if_neg hb0] at hrest
    refine brF (by rw[beq_eq_false_iff_ne];show((b2:Nat):Int)≠0;omega) ?_
    conv=>whnf
    refine ⟨by first|omega|(simp only [List.length_cons] at hll;omega),?_⟩
    conv=>whnf
    have hw2:IntKind.i64.wrap (((k+1:Nat):Int)+((b2:Nat):Int))=((k+1+b2:Nat):Int):=by rw[qa1 _ (by omega)];omega
    rw[hw2]
    have hr2:r.drop b2=s.drop (k+1+b2):=by rw[←hdd,List.drop_drop]
    rw [show (b1,b2).2=b2 from rfl,show (b1,b2).1=b1 from rfl,hr2] at hrest
    first
     |(
      refine ⟨⟨k+1+b2,[]++[b1],ls,m'⟩,[0,3],⟨by show k+1+b2≤s.length;first|omega|(have:b2≤r.length:=hb2;omega),by show s.length<k+1+b2+m';omega,by show ([]++[b1]).length+ls.length≤k+1+b2;rw [List.length_append];simp only [List.length_cons,List.length_nil] at hll ⊢;omega,hne,hrest⟩,by show s.length - (k+1+b2)<s.length - k;omega,?_⟩
      conv=>whnf
      repeat'(first|exact ⟨⟩|exact rfl|exact qa0 _|exact Or.inr rfl|exact fun _ _=>rfl|exact fun _ h=>absurd h (Nat.not_lt_zero _)|apply And.intro)
      all_goals first
       |(show _=([]++[b1]).length;simp)
       |exact(fun i hi=>qc1 [] b1 i hi)
       |(
        intro i hi;have:i=0:=by omega
        subst this;rfl)
       |(
        intro i hi
        have h3:=qc1 (p0 :: l0) b1 i (by simp only[List.length_cons];exact hi)
        exact h3))
     |(
      refine ⟨⟨k+1+b2,(p0 :: l0)++[b1],ls,m'⟩,[0,3],⟨by show k+1+b2≤s.length;first|omega|(have:b2≤r.length:=hb2;omega),by show s.length<k+1+b2+m';omega,by show ((p0 :: l0)++[b1]).length+ls.length≤k+1+b2;rw [List.length_append];simp only [List.length_cons,List.length_nil] at hll ⊢;omega,hne,hrest⟩,by show s.length - (k+1+b2)<s.length - k;omega,?_⟩
      conv=>whnf
      repeat'(first|exact ⟨⟩|exact rfl|exact qa0 _|exact Or.inr rfl|exact fun _ _=>rfl|exact fun _ h=>absurd h (Nat.not_lt_zero _)|apply And.intro)
      all_goals first
       |(show _=((p0 :: l0)++[b1]).length;simp)
       |exact(fun i hi=>qc1 (p0 :: l0) b1 i hi)
       |(
        intro i hi;have:i=0:=by omega
        subst this;rfl)
       |(
        intro i hi
        have h3:=qc1 (p0 :: l0) b1 i (by simp only[List.length_cons];exact hi)
        exact h3))
   have he92:(((c.toNat:Nat):Int) == 92)=false:=by rw[beq_eq_false_iff_ne];intro h;exact h92 (UInt8.toNat_inj.1 (by show c.toNat=92;omega))
   rw [if_neg h92] at hrest
   refine brF he92 ?_
   conv=>whnf
   by_cases h33:33≤c.toNat∧c.toNat≤126
   ·rw [if_pos h33] at hrest
    refine brF (decide_eq_false (by omega)) ?_
    conv=>whnf
    refine brF (decide_eq_false (by omega)) ?_
    conv=>whnf
    repeat(first|(refine brF rfl ?_;conv=>whnf)|(refine brT rfl ?_;conv=>whnf))
    refine ⟨by first|omega|(simp only [List.length_cons] at hll;omega),?_⟩
    conv=>whnf
    first
     |(
      refine ⟨⟨k+1,[]++[c],ls,m'⟩,[0,3],⟨by show k+1≤s.length;first|omega|(have:b2≤r.length:=hb2;omega),by show s.length<k+1+m';omega,by show ([]++[c]).length+ls.length≤k+1;rw [List.length_append];simp only [List.length_cons,List.length_nil] at hll ⊢;omega,hne,hrest⟩,by show s.length - (k+1)<s.length - k;omega,?_⟩
      conv=>whnf
      repeat'(first|exact ⟨⟩|exact rfl|exact qa0 _|exact Or.inr rfl|exact fun _ _=>rfl|exact fun _ h=>absurd h (Nat.not_lt_zero _)|apply And.intro)
      all_goals first
       |(show _=([]++[c]).length;simp)
       |exact(fun i hi=>qc1 [] c i hi)
       |(
        intro i hi;have:i=0:=by omega
        subst this;rfl)
       |(
        intro i hi
        have h3:=qc1 (p0 :: l0) c i (by simp only[List.length_cons];exact hi)
        exact h3))
     |(
      refine ⟨⟨k+1,(p0 :: l0)++[c],ls,m'⟩,[0,3],⟨by show k+1≤s.length;first|omega|(have:b2≤r.length:=hb2;omega),by show s.length<k+1+m';omega,by show ((p0 :: l0)++[c]).length+ls.length≤k+1;rw [List.length_append];simp only [List.length_cons,List.length_nil] at hll ⊢;omega,hne,hrest⟩,by show s.length - (k+1)<s.length - k;omega,?_⟩
      conv=>whnf
      repeat'(first|exact ⟨⟩|exact rfl|exact qa0 _|exact Or.inr rfl|exact fun _ _=>rfl|exact fun _ h=>absurd h (Nat.not_lt_zero _)|apply And.intro)
      all_goals first
       |(show _=((p0 :: l0)++[c]).length;simp)
       |exact(fun i hi=>qc1 (p0 :: l0) c i hi)
       |(
        intro i hi;have:i=0:=by omega
        subst this;rfl)
       |(
        intro i hi
        have h3:=qc1 (p0 :: l0) c i (by simp only[List.length_cons];exact hi)
        exact h3))
   ·rw [if_neg h33] at hrest
    rw[←hrest]
    by_cases h33':c.toNat<33
    ·refine brT (decide_eq_true (by omega)) ?_
     conv=>whnf
     repeat(first|(refine brF rfl ?_;conv=>whnf)|(refine brT rfl ?_;conv=>whnf))
     repeat'(first|exact ⟨⟩|exact rfl|exact fun _=>Iff.rfl|exact fun _ _=>rfl|exact renM_ent rfl _|apply And.intro)
    ·refine brF (decide_eq_false (by omega)) ?_
     conv=>whnf
     refine brT (decide_eq_true (by omega)) ?_
     conv=>whnf
     repeat(first|(refine brF rfl ?_;conv=>whnf)|(refine brT rfl ?_;conv=>whnf))
     repeat'(first|exact ⟨⟩|exact rfl|exact fun _=>Iff.rfl|exact fun _ _=>rfl|exact renM_ent rfl _|apply And.intro)
  ·have c0':k=s.length:=(by have h:¬ (k:Int)<s.length:=of_decide_eq_false c0;omega)
   subst c0'
   rw [List.drop_length] at hrest
   simp only [tcut] at hrest
   conv=>whnf
   first
    |(
     rw [if_pos trivial] at hrest
     refine brF rfl ?_
     conv=>whnf
     by_cases hls:ls=[]
     ·rw [if_pos hls] at hrest
      subst hls
      rw[←hrest]
      refine brT rfl ?_
      conv=>whnf
      exact⟨rfl,rfl,True.intro⟩
     rw [if_neg hls] at hrest
     have hpos:=List.length_pos_iff.2 hls
     refine brF (by rw[beq_eq_false_iff_ne];omega) ?_
     conv=>whnf
     rw[←hrest]
     have hLn:∀ y ∈ (ls),y≠[]:=qn7 _ _ _ _ _ (fun y hy=>by cases hy) (hY.trans hrest.symm)
     refine .inv Nat (fun i=>i≤(ls).length∧∀ y ∈ (ls).take i,okL y) (fun i=>[(78,iV i)]) (fun i=>[(0,.row 9 1 (ls).length .iff (strs (ls)))]) (fun i=>(ls).length - i) ⟨0,[0,1],⟨Nat.zero_le _,fun y hy=>by simp at hy⟩,?_⟩ ?_
     ·conv=>whnf
      repeat'(first|exact ⟨⟩|exact rfl|exact qa0 _|exact Or.inr rfl|exact fun _ _=>rfl|exact fun _ h=>absurd h (Nat.not_lt_zero _)|apply And.intro)
     obtain⟨LL,hLL⟩:∃ q,q=ls:=⟨_,rfl⟩
     rw [←hLL] at hLn ⊢
     have hln:LL.length=ls.length:=by rw[hLL];try simp
     have hLlen:LL.length≤5000:=by rw[hLL];omega
     intro i hi
     obtain⟨hi,hok⟩:=hi
     conv=>whnf
     refine⟨fun c1=>?_,fun c1=>?_⟩
     ·have c1':i<LL.length:=(by have h:(i:Int)<((ls.length:Nat):Int):=of_decide_eq_true (by first|exact c1|(rw[←hln];exact c1));omega)
      have hi1:IntKind.i64.wrap ((i:Int)+1)=((i+1:Nat):Int):=by rw[qa1 _ (by omega)];omega
      have hsk:LL[i]? = some LL[i]:=List.getElem?_eq_getElem c1'
      have hmem:=List.getElem_mem c1'
      have htk:LL.take (i+1)=LL.take i++[LL[i]]:=by rw[List.take_add_one,hsk];rfl
      conv=>whnf
      refine⟨by omega,?_⟩
      conv=>whnf
      rw[Int.toNat_natCast,show LL[i]?.getD []=LL[i] by rw[hsk];rfl]
      generalize LL[i]=y at hsk hmem htk ⊢
      have hy1:1≤y.length:=List.length_pos_iff.2 (hLn y hmem)
      by_cases hy:y.length≤63
      ·refine brF (decide_eq_false (by omega)) ?_
       conv=>whnf
       rw[hi1]
       refine⟨i+1,[0,1],⟨c1',fun u hu=>?_⟩,by omega,?_⟩
       ·rw [htk] at hu
        rcases List.mem_append.1 hu with hu|hu
        ·exact hok u hu
        ·simp only [List.mem_singleton] at hu
         rw[hu];exact⟨hy1,hy⟩
       conv=>whnf
       repeat'(first|exact ⟨⟩|exact rfl|exact qa0 _|exact Or.inr rfl|exact fun _ _=>rfl|exact fun _ h=>absurd h (Nat.not_lt_zero _)|apply And.intro)
      ·rw[show qp6 (some LL)=([],7) from if_neg (fun h=>by have:=(all_ok.1 h.1 y hmem).2;omega)]
       refine brT (decide_eq_true (by omega)) ?_
       conv=>whnf
       exact⟨rfl,rfl,True.intro⟩
     ·have c1':i=LL.length:=(by have h:¬ (i:Int)<((ls.length:Nat):Int):=of_decide_eq_false (by first|exact c1|(rw[←hln];exact c1));omega)
      rw [List.take_of_length_le (by omega)] at hok
      have hall:=all_ok.2 hok
      have hml:=qr8 hok
      have hmk:(labs LL).length+1=(mk LL).length:=by rw[←qj8,List.length_append];rfl
      conv=>whnf
      refine .one (.look (r:=.d (.str (mk LL))) ?_ rfl ?_)
      ·conv=>whnf
       exact⟨jc2 _ LL (by omega) (fun u hu=>by have:=(hok u hu).2;omega),rfl⟩
      conv=>whnf
      by_cases hm2:(mk LL).length≤255
      ·rw[show qp6 (some LL)=(mk LL,0) from if_pos ⟨hall,hm2⟩]
       refine brF (decide_eq_false (by omega)) ?_
       conv=>whnf
       exact⟨rfl,rfl,True.intro⟩
      ·rw[show qp6 (some LL)=([],7) from if_neg (fun h=>hm2 h.2)]
       refine brT (decide_eq_true (by omega)) ?_
       conv=>whnf
       exact⟨rfl,rfl,True.intro⟩)
    |(
     rw [if_neg (List.cons_ne_nil _ _)] at hrest
     simp only [List.length_cons] at hll
     refine brT (decide_eq_true (by omega)) ?_
     conv=>whnf
     refine⟨fun i _=>⟨_,rfl⟩,?_⟩
     have hbf:=qb0 (p0 :: l0)
     rw [List.length_cons] at hbf
     rw[hbf]
     conv=>whnf
     refine⟨by omega,?_⟩
     conv=>whnf
     refine brF (by rw[beq_eq_false_iff_ne];omega) ?_
     conv=>whnf
     rw[←hrest]
     have hLn:∀ y ∈ (ls++[p0 :: l0]),y≠[]:=qn7 _ _ _ _ _ (fun y hy=>by cases hy) (hY.trans hrest.symm)
     refine .inv Nat (fun i=>i≤(ls++[p0 :: l0]).length∧∀ y ∈ (ls++[p0 :: l0]).take i,okL y) (fun i=>[(78,iV i)]) (fun i=>[(3,.row 9 1 (ls++[p0 :: l0]).length .iff (strs (ls++[p0 :: l0])))]) (fun i=>(ls++[p0 :: l0]).length - i) ⟨0,[0,1,2,3],⟨Nat.zero_le _,fun y hy=>by simp at hy⟩,?_⟩ ?_
     ·conv=>whnf
      repeat'(first|exact ⟨⟩|exact rfl|exact qa0 _|exact Or.inr rfl|exact fun _ _=>rfl|exact fun _ h=>absurd h (Nat.not_lt_zero _)|apply And.intro)
      all_goals first
       |(show ls.length+1=(ls++[p0 :: l0]).length;simp)
       |exact qg7 ls _ _ rfl
     obtain⟨LL,hLL⟩:∃ q,q=ls++[p0 :: l0]:=⟨_,rfl⟩
     rw [←hLL] at hLn ⊢
     have hln:LL.length=ls.length+1:=by rw[hLL];try simp
     have hLlen:LL.length≤5000:=by rw[hLL];rw[List.length_append];show ls.length+1≤_;omega
     intro i hi
     obtain⟨hi,hok⟩:=hi
     conv=>whnf
     refine⟨fun c1=>?_,fun c1=>?_⟩
     ·have c1':i<LL.length:=(by have h:(i:Int)<((ls.length+1:Nat):Int):=of_decide_eq_true (by first|exact c1|(rw[←hln];exact c1));omega)
      have hi1:IntKind.i64.wrap ((i:Int)+1)=((i+1:Nat):Int):=by rw[qa1 _ (by omega)];omega
      have hsk:LL[i]? = some LL[i]:=List.getElem?_eq_getElem c1'
      have hmem:=List.getElem_mem c1'
      have htk:LL.take (i+1)=LL.take i++[LL[i]]:=by rw[List.take_add_one,hsk];rfl
      conv=>whnf
      refine⟨by omega,?_⟩
      conv=>whnf
      rw[Int.toNat_natCast,show LL[i]?.getD []=LL[i] by rw[hsk];rfl]
      generalize LL[i]=y at hsk hmem htk ⊢
      have hy1:1≤y.length:=List.length_pos_iff.2 (hLn y hmem)
      by_cases hy:y.length≤63
      ·refine brF (decide_eq_false (by omega)) ?_
       conv=>whnf
       rw[hi1]
       refine⟨i+1,[0,1,2,3],⟨c1',fun u hu=>?_⟩,by omega,?_⟩
       ·rw [htk] at hu
        rcases List.mem_append.1 hu with hu|hu
        ·exact hok u hu
        ·simp only [List.mem_singleton] at hu
         rw[hu];exact⟨hy1,hy⟩
       conv=>whnf
       repeat'(first|exact ⟨⟩|exact rfl|exact qa0 _|exact Or.inr rfl|exact fun _ _=>rfl|exact fun _ h=>absurd h (Nat.not_lt_zero _)|apply And.intro)
      ·rw[show qp6 (some LL)=([],7) from if_neg (fun h=>by have:=(all_ok.1 h.1 y hmem).2;omega)]
       refine brT (decide_eq_true (by omega)) ?_
       conv=>whnf
       exact⟨rfl,rfl,True.intro⟩
     ·have c1':i=LL.length:=(by have h:¬ (i:Int)<((ls.length+1:Nat):Int):=of_decide_eq_false (by first|exact c1|(rw[←hln];exact c1));omega)
      rw [List.take_of_length_le (by omega)] at hok
      have hall:=all_ok.2 hok
      have hml:=qr8 hok
      have hmk:(labs LL).length+1=(mk LL).length:=by rw[←qj8,List.length_append];rfl
      conv=>whnf
      refine .one (.look (r:=.d (.str (mk LL))) ?_ rfl ?_)
      ·conv=>whnf
       exact⟨jc2 _ LL (by omega) (fun u hu=>by have:=(hok u hu).2;omega),rfl⟩
      conv=>whnf
      by_cases hm2:(mk LL).length≤255
      ·rw[show qp6 (some LL)=(mk LL,0) from if_pos ⟨hall,hm2⟩]
       refine brF (decide_eq_false (by omega)) ?_
       conv=>whnf
       exact⟨rfl,rfl,True.intro⟩
      ·rw[show qp6 (some LL)=([],7) from if_neg (fun h=>hm2 h.2)]
       refine brT (decide_eq_true (by omega)) ?_
       conv=>whnf
       exact⟨rfl,rfl,True.intro⟩)
 ·rw[show x.v = .all 1 by unfold PaSt.v;rw[hxl],show x.b = .row 5 1 (l0.length+1) .iff (qd0 (p0 :: l0)) by unfold PaSt.b;rw[hxl]]
  rw [hxl] at hll hrest
  conv=>whnf
  generalize x.at_=k at hk hm hll hrest ⊢
  generalize x.ls=ls at hll hrest hne ⊢
  generalize x.m=m at hm hrest ⊢
  obtain⟨m',rfl⟩:∃ m',m=m'+1:=⟨m - 1,by omega⟩
  refine⟨fun c0=>?_,fun c0=>?_⟩
  ·have c0':k<s.length:=(by have h:(k:Int)<s.length:=of_decide_eq_true c0;omega)
   have hsk:s[k]? = some s[k]:=List.getElem?_eq_getElem c0'
   have hdr:s.drop k=s[k] :: s.drop (k+1):=List.drop_eq_getElem_cons c0'
   rw [hdr] at hrest
   have hbk:qb8 s (k:Int)=((s[k].toNat:Nat):Int):=by rw[qj0];unfold bt;rw[hsk];rfl
   generalize s[k]=c at hsk hdr hrest hbk
   have hc:=c.toNat_lt
   have hk1:IntKind.i64.wrap ((k:Int)+1)=((k+1:Nat):Int):=by rw[qa1 _ (by omega)];omega
   simp only [tcut] at hrest
   conv=>whnf
   refine ⟨by first|omega|(simp only [List.length_cons] at hll;omega),?_⟩
   conv=>whnf
   rw[hbk,hk1]
   by_cases h46:c=46
   ·subst h46
    rw [if_pos rfl] at hrest
    refine brT rfl ?_
    conv=>whnf
    first
     |(
      rw [if_pos trivial] at hrest
      rw[←hrest]
      refine brT rfl ?_
      conv=>whnf
      exact⟨rfl,rfl,True.intro⟩)
     |(
      rw [if_neg (List.cons_ne_nil _ _)] at hrest
      simp only [List.length_cons] at hll
      refine brF (by rw[beq_eq_false_iff_ne];omega) ?_
      conv=>whnf
      refine⟨fun i _=>⟨_,rfl⟩,?_⟩
      have hbf:=qb0 (p0 :: l0)
      rw [List.length_cons] at hbf
      rw[hbf]
      conv=>whnf
      refine⟨by omega,?_⟩
      conv=>whnf
      refine⟨⟨k+1,[],ls++[p0 :: l0],m'⟩,[3,0],⟨c0',by show s.length<k+1+m';omega,by show 0+(ls++[_]).length≤k+1;rw[List.length_append];show 0+(ls.length+1)≤_;omega,fun y hy=>?_,hrest⟩,by show s.length - (k+1)<s.length - k;omega,?_⟩
      ·rcases List.mem_append.1 hy with hy|hy
       ·exact hne y hy
       ·simp only [List.mem_singleton] at hy
        rw[hy];exact List.cons_ne_nil _ _
      conv=>whnf
      repeat'(first|exact ⟨⟩|exact rfl|exact qa0 _|exact Or.inr rfl|exact fun _ _=>rfl|exact fun _ h=>absurd h (Nat.not_lt_zero _)|apply And.intro)
      all_goals first
       |(show ls.length+1=(ls++[p0 :: l0]).length;simp)
       |exact qg7 ls _ _ rfl)
   have he46:(((c.toNat:Nat):Int) == 46)=false:=by rw[beq_eq_false_iff_ne];intro h;exact h46 (UInt8.toNat_inj.1 (by show c.toNat=46;omega))
   rw [if_neg h46] at hrest
   refine brF he46 ?_
   conv=>whnf
   by_cases h92:c=92
   ·subst h92
    rw [if_pos rfl] at hrest
    refine brT rfl ?_
    conv=>whnf
    refine ⟨by first|omega|(simp only [List.length_cons] at hll;omega),?_⟩
    conv=>whnf
    rw[jb1]
    generalize hdd:s.drop (k+1)=r at hrest
    have hrl:r.length=s.length - (k+1):=by rw[←hdd,List.length_drop]
    refine .one (.data _ (yr9 r) rfl rfl ?_)
    have hb2:(behB r).2≤r.length:=yb5 r
    generalize hbh:behB r=b at hrest hb2
    obtain⟨b1,b2⟩:=b
    conv=>whnf
    by_cases hb0:b2=0
    ·subst hb0
     rw [if_pos rfl] at hrest
     rw[←hrest]
     refine brT rfl ?_
     conv=>whnf
     repeat'(first|exact ⟨⟩|exact rfl|exact fun _=>Iff.rfl|exact fun _ _=>rfl|exact renM_ent rfl _|apply And.intro)
    rw [if_neg hb0] at hrest
    refine brF (by rw[beq_eq_false_iff_ne];show((b2:Nat):Int)≠0;omega) ?_
    conv=>whnf
    refine ⟨by first|omega|(simp only [List.length_cons] at hll;omega),?_⟩
    conv=>whnf
    have hw2:IntKind.i64.wrap (((k+1:Nat):Int)+((b2:Nat):Int))=((k+1+b2:Nat):Int):=by rw[qa1 _ (by omega)];omega
    rw[hw2]
    have hr2:r.drop b2=s.drop (k+1+b2):=by rw[←hdd,List.drop_drop]
    rw [show (b1,b2).2=b2 from rfl,show (b1,b2).1=b1 from rfl,hr2] at hrest
    first
     |(
      refine ⟨⟨k+1+b2,[]++[b1],ls,m'⟩,[0,3],⟨by show k+1+b2≤s.length;first|omega|(have:b2≤r.length:=hb2;omega),by show s.length<k+1+b2+m';omega,by show ([]++[b1]).length+ls.length≤k+1+b2;rw [List.length_append];simp only [List.length_cons,List.length_nil] at hll ⊢;omega,hne,hrest⟩,by show s.length - (k+1+b2)<s.length - k;omega,?_⟩
      conv=>whnf
      repeat'(first|exact ⟨⟩|exact rfl|exact qa0 _|exact Or.inr rfl|exact fun _ _=>rfl|exact fun _ h=>absurd h (Nat.not_lt_zero _)|apply And.intro)
      all_goals first
       |(show _=([]++[b1]).length;simp)
       |exact(fun i hi=>qc1 [] b1 i hi)
       |(
        intro i hi;have:i=0:=by omega
        subst this;rfl)
       |(
        intro i hi
        have h3:=qc1 (p0 :: l0) b1 i (by simp only[List.length_cons];exact hi)
        exact h3))
     |(
      refine ⟨⟨k+1+b2,(p0 :: l0)++[b1],ls,m'⟩,[0,3],⟨by show k+1+b2≤s.length;first|omega|(have:b2≤r.length:=hb2;omega),by show s.length<k+1+b2+m';omega,by show ((p0 :: l0)++[b1]).length+ls.length≤k+1+b2;rw [List.length_append];simp only [List.length_cons,List.length_nil] at hll ⊢;omega,hne,hrest⟩,by show s.length - (k+1+b2)<s.length - k;omega,?_⟩
      conv=>whnf
      repeat'(first|exact ⟨⟩|exact rfl|exact qa0 _|exact Or.inr rfl|exact fun _ _=>rfl|exact fun _ h=>absurd h (Nat.not_lt_zero _)|apply And.intro)
      all_goals first
       |(show _=((p0 :: l0)++[b1]).length;simp)
       |exact(fun i hi=>qc1 (p0 :: l0) b1 i hi)
       |(
        intro i hi;have:i=0:=by omega
        subst this;rfl)
       |(
        intro i hi
        have h3:=qc1 (p0 :: l0) b1 i (by simp only[List.length_cons];exact hi)
        exact h3))
   have he92:(((c.toNat:Nat):Int) == 92)=false:=by rw[beq_eq_false_iff_ne];intro h;exact h92 (UInt8.toNat_inj.1 (by show c.toNat=92;omega))
   rw [if_neg h92] at hrest
   refine brF he92 ?_
   conv=>whnf
   by_cases h33:33≤c.toNat∧c.toNat≤126
   ·rw [if_pos h33] at hrest
    refine brF (decide_eq_false (by omega)) ?_
    conv=>whnf
    refine brF (decide_eq_false (by omega)) ?_
    conv=>whnf
    repeat(first|(refine brF rfl ?_;conv=>whnf)|(refine brT rfl ?_;conv=>whnf))
    refine ⟨by first|omega|(simp only [List.length_cons] at hll;omega),?_⟩
    conv=>whnf
    first
     |(
      refine ⟨⟨k+1,[]++[c],ls,m'⟩,[0,3],⟨by show k+1≤s.length;first|omega|(have:b2≤r.length:=hb2;omega),by show s.length<k+1+m';omega,by show ([]++[c]).length+ls.length≤k+1;rw [List.length_append];simp only [List.length_cons,List.length_nil] at hll ⊢;omega,hne,hrest⟩,by show s.length - (k+1)<s.length - k;omega,?_⟩
      conv=>whnf
      repeat'(first|exact ⟨⟩|exact rfl|exact qa0 _|exact Or.inr rfl|exact fun _ _=>rfl|exact fun _ h=>absurd h (Nat.not_lt_zero _)|apply And.intro)
      all_goals first
       |(show _=([]++[c]).length;simp)
       |exact(fun i hi=>qc1 [] c i hi)
       |(
        intro i hi;have:i=0:=by omega
        subst this;rfl)
       |(
        intro i hi
        have h3:=qc1 (p0 :: l0) c i (by simp only[List.length_cons];exact hi)
        exact h3))
     |(
      refine ⟨⟨k+1,(p0 :: l0)++[c],ls,m'⟩,[0,3],⟨by show k+1≤s.length;first|omega|(have:b2≤r.length:=hb2;omega),by show s.length<k+1+m';omega,by show ((p0 :: l0)++[c]).length+ls.length≤k+1;rw [List.length_append];simp only [List.length_cons,List.length_nil] at hll ⊢;omega,hne,hrest⟩,by show s.length - (k+1)<s.length - k;omega,?_⟩
      conv=>whnf
      repeat'(first|exact ⟨⟩|exact rfl|exact qa0 _|exact Or.inr rfl|exact fun _ _=>rfl|exact fun _ h=>absurd h (Nat.not_lt_zero _)|apply And.intro)
      all_goals first
       |(show _=((p0 :: l0)++[c]).length;simp)
       |exact(fun i hi=>qc1 (p0 :: l0) c i hi)
       |(
        intro i hi;have:i=0:=by omega
        subst this;rfl)
       |(
        intro i hi
        have h3:=qc1 (p0 :: l0) c i (by simp only[List.length_cons];exact hi)
        exact h3))
   ·rw [if_neg h33] at hrest
    rw[←hrest]
    by_cases h33':c.toNat<33
    ·refine brT (decide_eq_true (by omega)) ?_
     conv=>whnf
     repeat(first|(refine brF rfl ?_;conv=>whnf)|(refine brT rfl ?_;conv=>whnf))
     repeat'(first|exact ⟨⟩|exact rfl|exact fun _=>Iff.rfl|exact fun _ _=>rfl|exact renM_ent rfl _|apply And.intro)
    ·refine brF (decide_eq_false (by omega)) ?_
     conv=>whnf
     refine brT (decide_eq_true (by omega)) ?_
     conv=>whnf
     repeat(first|(refine brF rfl ?_;conv=>whnf)|(refine brT rfl ?_;conv=>whnf))
     repeat'(first|exact ⟨⟩|exact rfl|exact fun _=>Iff.rfl|exact fun _ _=>rfl|exact renM_ent rfl _|apply And.intro)
  ·have c0':k=s.length:=(by have h:¬ (k:Int)<s.length:=of_decide_eq_false c0;omega)
   subst c0'
   rw [List.drop_length] at hrest
   simp only [tcut] at hrest
   conv=>whnf
   first
    |(
     rw [if_pos trivial] at hrest
     refine brF rfl ?_
     conv=>whnf
     by_cases hls:ls=[]
     ·rw [if_pos hls] at hrest
      subst hls
      rw[←hrest]
      refine brT rfl ?_
      conv=>whnf
      exact⟨rfl,rfl,True.intro⟩
     rw [if_neg hls] at hrest
     have hpos:=List.length_pos_iff.2 hls
     refine brF (by rw[beq_eq_false_iff_ne];omega) ?_
     conv=>whnf
     rw[←hrest]
     have hLn:∀ y ∈ (ls),y≠[]:=qn7 _ _ _ _ _ (fun y hy=>by cases hy) (hY.trans hrest.symm)
     refine .inv Nat (fun i=>i≤(ls).length∧∀ y ∈ (ls).take i,okL y) (fun i=>[(78,iV i)]) (fun i=>[(0,.row 9 1 (ls).length .iff (strs (ls)))]) (fun i=>(ls).length - i) ⟨0,[0,1],⟨Nat.zero_le _,fun y hy=>by simp at hy⟩,?_⟩ ?_
     ·conv=>whnf
      repeat'(first|exact ⟨⟩|exact rfl|exact qa0 _|exact Or.inr rfl|exact fun _ _=>rfl|exact fun _ h=>absurd h (Nat.not_lt_zero _)|apply And.intro)
     obtain⟨LL,hLL⟩:∃ q,q=ls:=⟨_,rfl⟩
     rw [←hLL] at hLn ⊢
     have hln:LL.length=ls.length:=by rw[hLL];try simp
     have hLlen:LL.length≤5000:=by rw[hLL];omega
     intro i hi
     obtain⟨hi,hok⟩:=hi
     conv=>whnf
     refine⟨fun c1=>?_,fun c1=>?_⟩
     ·have c1':i<LL.length:=(by have h:(i:Int)<((ls.length:Nat):Int):=of_decide_eq_true (by first|exact c1|(rw[←hln];exact c1));omega)
      have hi1:IntKind.i64.wrap ((i:Int)+1)=((i+1:Nat):Int):=by rw[qa1 _ (by omega)];omega
      have hsk:LL[i]? = some LL[i]:=List.getElem?_eq_getElem c1'
      have hmem:=List.getElem_mem c1'
      have htk:LL.take (i+1)=LL.take i++[LL[i]]:=by rw[List.take_add_one,hsk];rfl
      conv=>whnf
      refine⟨by omega,?_⟩
      conv=>whnf
      rw[Int.toNat_natCast,show LL[i]?.getD []=LL[i] by rw[hsk];rfl]
      generalize LL[i]=y at hsk hmem htk ⊢
      have hy1:1≤y.length:=List.length_pos_iff.2 (hLn y hmem)
      by_cases hy:y.length≤63
      ·refine brF (decide_eq_false (by omega)) ?_
       conv=>whnf
       rw[hi1]
       refine⟨i+1,[0,1],⟨c1',fun u hu=>?_⟩,by omega,?_⟩
       ·rw [htk] at hu
        rcases List.mem_append.1 hu with hu|hu
        ·exact hok u hu
        ·simp only [List.mem_singleton] at hu
         rw[hu];exact⟨hy1,hy⟩
       conv=>whnf
       repeat'(first|exact ⟨⟩|exact rfl|exact qa0 _|exact Or.inr rfl|exact fun _ _=>rfl|exact fun _ h=>absurd h (Nat.not_lt_zero _)|apply And.intro)
      ·rw[show qp6 (some LL)=([],7) from if_neg (fun h=>by have:=(all_ok.1 h.1 y hmem).2;omega)]
       refine brT (decide_eq_true (by omega)) ?_
       conv=>whnf
       exact⟨rfl,rfl,True.intro⟩
     ·have c1':i=LL.length:=(by have h:¬ (i:Int)<((ls.length:Nat):Int):=of_decide_eq_false (by first|exact c1|(rw[←hln];exact c1));omega)
      rw [List.take_of_length_le (by omega)] at hok
      have hall:=all_ok.2 hok
      have hml:=qr8 hok
      have hmk:(labs LL).length+1=(mk LL).length:=by rw[←qj8,List.length_append];rfl
      conv=>whnf
      refine .one (.look (r:=.d (.str (mk LL))) ?_ rfl ?_)
      ·conv=>whnf
       exact⟨jc2 _ LL (by omega) (fun u hu=>by have:=(hok u hu).2;omega),rfl⟩
      conv=>whnf
      by_cases hm2:(mk LL).length≤255
      ·rw[show qp6 (some LL)=(mk LL,0) from if_pos ⟨hall,hm2⟩]
       refine brF (decide_eq_false (by omega)) ?_
       conv=>whnf
       exact⟨rfl,rfl,True.intro⟩
      ·rw[show qp6 (some LL)=([],7) from if_neg (fun h=>hm2 h.2)]
       refine brT (decide_eq_true (by omega)) ?_
       conv=>whnf
       exact⟨rfl,rfl,True.intro⟩)
    |(
     rw [if_neg (List.cons_ne_nil _ _)] at hrest
     simp only [List.length_cons] at hll
     refine brT (decide_eq_true (by omega)) ?_
     conv=>whnf
     refine⟨fun i _=>⟨_,rfl⟩,?_⟩
     have hbf:=qb0 (p0 :: l0)
     rw [List.length_cons] at hbf
     rw[hbf]
     conv=>whnf
     refine⟨by omega,?_⟩
     conv=>whnf
     refine brF (by rw[beq_eq_false_iff_ne];omega) ?_
     conv=>whnf
     rw[←hrest]
     have hLn:∀ y ∈ (ls++[p0 :: l0]),y≠[]:=qn7 _ _ _ _ _ (fun y hy=>by cases hy) (hY.trans hrest.symm)
     refine .inv Nat (fun i=>i≤(ls++[p0 :: l0]).length∧∀ y ∈ (ls++[p0 :: l0]).take i,okL y) (fun i=>[(78,iV i)]) (fun i=>[(3,.row 9 1 (ls++[p0 :: l0]).length .iff (strs (ls++[p0 :: l0])))]) (fun i=>(ls++[p0 :: l0]).length - i) ⟨0,[0,1,2,3],⟨Nat.zero_le _,fun y hy=>by simp at hy⟩,?_⟩ ?_
     ·conv=>whnf
      repeat'(first|exact ⟨⟩|exact rfl|exact qa0 _|exact Or.inr rfl|exact fun _ _=>rfl|exact fun _ h=>absurd h (Nat.not_lt_zero _)|apply And.intro)
      all_goals first
       |(show ls.length+1=(ls++[p0 :: l0]).length;simp)
       |exact qg7 ls _ _ rfl
     obtain⟨LL,hLL⟩:∃ q,q=ls++[p0 :: l0]:=⟨_,rfl⟩
     rw [←hLL] at hLn ⊢
     have hln:LL.length=ls.length+1:=by rw[hLL];try simp
     have hLlen:LL.length≤5000:=by rw[hLL];rw[List.length_append];show ls.length+1≤_;omega
     intro i hi
     obtain⟨hi,hok⟩:=hi
     conv=>whnf
     refine⟨fun c1=>?_,fun c1=>?_⟩
     ·have c1':i<LL.length:=(by have h:(i:Int)<((ls.length+1:Nat):Int):=of_decide_eq_true (by first|exact c1|(rw[←hln];exact c1));omega)
      have hi1:IntKind.i64.wrap ((i:Int)+1)=((i+1:Nat):Int):=by rw[qa1 _ (by omega)];omega
      have hsk:LL[i]? = some LL[i]:=List.getElem?_eq_getElem c1'
      have hmem:=List.getElem_mem c1'
      have htk:LL.take (i+1)=LL.take i++[LL[i]]:=by rw[List.take_add_one,hsk];rfl
      conv=>whnf
      refine⟨by omega,?_⟩
      conv=>whnf
      rw[Int.toNat_natCast,show LL[i]?.getD []=LL[i] by rw[hsk];rfl]
      generalize LL[i]=y at hsk hmem htk ⊢
      have hy1:1≤y.length:=List.length_pos_iff.2 (hLn y hmem)
      by_cases hy:y.length≤63
      ·refine brF (decide_eq_false (by omega)) ?_
       conv=>whnf
       rw[hi1]
       refine⟨i+1,[0,1,2,3],⟨c1',fun u hu=>?_⟩,by omega,?_⟩
       ·rw [htk] at hu
        rcases List.mem_append.1 hu with hu|hu
        ·exact hok u hu
        ·simp only [List.mem_singleton] at hu
         rw[hu];exact⟨hy1,hy⟩
       conv=>whnf
       repeat'(first|exact ⟨⟩|exact rfl|exact qa0 _|exact Or.inr rfl|exact fun _ _=>rfl|exact fun _ h=>absurd h (Nat.not_lt_zero _)|apply And.intro)
      ·rw[show qp6 (some LL)=([],7) from if_neg (fun h=>by have:=(all_ok.1 h.1 y hmem).2;omega)]
       refine brT (decide_eq_true (by omega)) ?_
       conv=>whnf
       exact⟨rfl,rfl,True.intro⟩
     ·have c1':i=LL.length:=(by have h:¬ (i:Int)<((ls.length+1:Nat):Int):=of_decide_eq_false (by first|exact c1|(rw[←hln];exact c1));omega)
      rw [List.take_of_length_le (by omega)] at hok
      have hall:=all_ok.2 hok
      have hml:=qr8 hok
      have hmk:(labs LL).length+1=(mk LL).length:=by rw[←qj8,List.length_append];rfl
      conv=>whnf
      refine .one (.look (r:=.d (.str (mk LL))) ?_ rfl ?_)
      ·conv=>whnf
       exact⟨jc2 _ LL (by omega) (fun u hu=>by have:=(hok u hu).2;omega),rfl⟩
      conv=>whnf
      by_cases hm2:(mk LL).length≤255
      ·rw[show qp6 (some LL)=(mk LL,0) from if_pos ⟨hall,hm2⟩]
       refine brF (decide_eq_false (by omega)) ?_
       conv=>whnf
       exact⟨rfl,rfl,True.intro⟩
      ·rw[show qp6 (some LL)=([],7) from if_neg (fun h=>hm2 h.2)]
       refine brT (decide_eq_true (by omega)) ?_
       conv=>whnf
       exact⟨rfl,rfl,True.intro⟩)
end Go.Proofs.YtdfdlbnojmlpiaaGreatDoor
namespace Go.Proofs.YtdfdlbnojmlpiaaGreatDoor
open Go Go.Eng
set_option maxRecDepth 100000
set_option maxHeartbeats 4000000 in
theorem jm0(r:RR)(h:r.In)(hd:r.d.length≤100000):FnOk Tryz.prog 26 [r.V] (.tup [.d (.str r.lineV.1),.d (.int .i64 r.lineV.2)]):=by
 refine qa4 (TT:=TT) (IN:=qc0 []) qc6 qa3 mixed 1000 Tryz.func26 rfl (qa7 Tryz.func26 (by kernel_rfl) rfl) rfl 38 (by kernel_rfl) ?_
 conv=>whnf
 refine .one (.data _ (r5check_ok r (Nat.le_trans hd (by decide))) rfl rfl ?_)
 cases hck:r.check with
 |false =>
  rw[show r.lineV=([],2) by unfold RR.lineV;rw[hck];rfl]
  conv=>whnf
  repeat(first|(refine brF rfl ?_;conv=>whnf)|(refine brT rfl ?_;conv=>whnf))
  repeat'(first|exact ⟨⟩|exact rfl|exact fun _=>Iff.rfl|exact fun _ _=>rfl|exact renM_ent rfl _|apply And.intro)
 |true =>
  rw[show r.lineV=(r.line,0) by unfold RR.lineV;rw[hck];rfl]
  conv=>whnf
  repeat(first|(refine brF rfl ?_;conv=>whnf)|(refine brT rfl ?_;conv=>whnf))
  refine .one (.data _ (r1print_ok r.nm) rfl rfl ?_)
  rw[show qy9 r.nm=(txtN r.nm,0) from if_pos (qn5 hck)]
  have h1:=h.ty
  have h2:=h.cl
  have h3:=h.ttl
  have e1:IntKind.i64.wrap r.ttl=((r.ttl.toNat:Nat):Int):=by rw[qa1 _ (by omega)];omega
  have e2:IntKind.i64.wrap r.cl=((r.cl.toNat:Nat):Int):=by rw[qa1 _ (by omega)];omega
  have e3:IntKind.i64.wrap r.ty=((r.ty.toNat:Nat):Int):=by rw[qa1 _ (by omega)];omega
  have n0:=yq6 (qn5 hck)
  have n1:=jg0 r.ttl.toNat (by omega)
  have n2:=jg0 r.cl.toNat (by omega)
  have n3:=jg0 r.ty.toNat (by omega)
  have n4:=yt1 r.d
  have hline:r.line=txtN r.nm++[32]++Lib.decDigits r.ttl.toNat++[32]++Lib.decDigits r.cl.toNat++[32]++Lib.decDigits r.ty.toNat++[32]++hexT r.d:=by
   unfold RR.line
   simp
  have f1:=jm7 r.ttl.toNat (by omega)
  have f2:=jm7 r.cl.toNat (by omega)
  have f3:=jm7 r.ty.toNat (by omega)
  have f4:=r5hex_ok r.d (by omega)
  generalize txtN r.nm=a0 at n0 hline ⊢
  generalize Lib.decDigits r.ttl.toNat=a1 at n1 hline f1
  generalize Lib.decDigits r.cl.toNat=a2 at n2 hline f2
  generalize Lib.decDigits r.ty.toNat=a3 at n3 hline f3
  generalize hexT r.d=a4 at n4 hline f4
  rw[hline]
  conv=>whnf
  refine⟨by show(a0).length+1≤_;omega,?_⟩
  conv=>whnf
  try rw[e1]
  refine .data _ f1 rfl rfl ?_
  conv=>whnf
  refine⟨by show(a0++[32]).length+a1.length≤_;simp only[List.length_append,List.length_cons,List.length_nil];omega,?_⟩
  conv=>whnf
  refine⟨by show(a0++[32]++a1).length+1≤_;simp only[List.length_append,List.length_cons,List.length_nil];omega,?_⟩
  conv=>whnf
  try rw[e2]
  refine .data _ f2 rfl rfl ?_
  conv=>whnf
  refine⟨by show(a0++[32]++a1++[32]).length+a2.length≤_;simp only[List.length_append,List.length_cons,List.length_nil];omega,?_⟩
  conv=>whnf
  refine⟨by show(a0++[32]++a1++[32]++a2).length+1≤_;simp only[List.length_append,List.length_cons,List.length_nil];omega,?_⟩
  conv=>whnf
  try rw[e3]
  refine .data _ f3 rfl rfl ?_
  conv=>whnf
  refine⟨by show(a0++[32]++a1++[32]++a2++[32]).length+a3.length≤_;simp only[List.length_append,List.length_cons,List.length_nil];omega,?_⟩
  conv=>whnf
  refine⟨by show(a0++[32]++a1++[32]++a2++[32]++a3).length+1≤_;simp only[List.length_append,List.length_cons,List.length_nil];omega,?_⟩
  conv=>whnf
  refine .data _ f4 rfl rfl ?_
  conv=>whnf
  refine⟨by show(a0++[32]++a1++[32]++a2++[32]++a3++[32]).length+a4.length≤_;simp only[List.length_append,List.length_cons,List.length_nil];omega,?_⟩
  conv=>whnf
  try exact⟨rfl,rfl,True.intro⟩
def yb1(ws:List (List UInt8)):Option RR:=match ws with
 |[w0,w1,w2,w3,w4]=>if w4.length > 8192 then none else if (qf0 w0).2=0 then some ⟨(qf0 w0).1,IntKind.u16.wrap (vW w3),IntKind.u16.wrap (vW w2),IntKind.u32.wrap (vW w1),if w4=[45] then [] else unhR w4⟩ else none
 |_=>none
def qp7(s:List UInt8):Option RR:=match yb1 (spl s) with
 |some r=>if r.check=true∧r.line=s then some r else none
 |none=>none
theorem cand5_in{ws:List (List UInt8)}{r:RR}(h:yb1 ws=some r):r.In:=by
 unfold yb1 at h
 split at h
 ·split at h
  ·cases h
  ·split at h
   ·cases h
    exact⟨by constructor <;> (simp only[IntKind.wrap_u16];omega),by constructor <;> (simp only[IntKind.wrap_u16];omega),by constructor <;> (simp only[IntKind.wrap_u32'];omega)⟩
   ·cases h
 ·cases h
theorem unhR_hex{d:List UInt8}:(if hexT d=[45] then [] else unhR (hexT d))=d:=by
 unfold hexT
 by_cases h:d=[]
 ·rw[if_pos h,if_pos rfl,h]
 ·rw [if_neg h,if_neg (fun e=>by have:=congrArg List.length e;rw [qp9] at this;simp at this;omega)]
  unfold unhR
  rw[if_neg (by rw[qp9];omega),yq5]
theorem line_spl(r:RR):spl r.line=[txtN r.nm,Lib.decDigits r.ttl.toNat,Lib.decDigits r.cl.toNat,Lib.decDigits r.ty.toNat,hexT r.d]:=by
 unfold RR.line
 rw[je5 _ _ (txtN_no _),je5 _ _ (jv1 _),je5 _ _ (jv1 _),je5 _ _ (jv1 _),spl_no _ (hexT_no _)]
theorem cand5_line{r:RR}(h:r.check=true)(hi:r.In):yb1 (spl r.line)=some r:=by
 have hn:=qn5 h
 have ht:=yf0 hn
 have hd:=je0 h
 have h1:=hi.ty
 have h2:=hi.cl
 have h3:=hi.ttl
 rw[line_spl]
 unfold yb1
 simp only
 have hx:(hexT r.d).length≤8192:=by
  unfold hexT
  split
  ·simp
  ·rw[qp9];omega
 rw[if_neg (by omega),ht]
 simp only
 rw[if_pos trivial,vW_dec (by omega),vW_dec (by omega),vW_dec (by omega),unhR_hex]
 obtain⟨n,y,c,t,d⟩:=r
 simp only at h1 h2 h3
 show some (RR.mk n _ _ _ d)=some (RR.mk n y c t d)
 rw[IntKind.wrap_u16,IntKind.wrap_u16,IntKind.wrap_u32',Int.toNat_of_nonneg h1.1,Int.toNat_of_nonneg h2.1,Int.toNat_of_nonneg h3.1,Int.emod_eq_of_lt h1.1 (by omega),Int.emod_eq_of_lt h2.1 (by omega),Int.emod_eq_of_lt h3.1 (by omega)]
theorem candR_in{ws:List (List UInt8)}{r:RR}(h:jr6 ws=some r):r.In:=by
 unfold jr6 at h
 split at h
 ·split at h
  ·rename_i t c y d e1 e2 e3 e4
   split at h
   ·cases h
    have b1:=qx5 e1
    have b2:=qx5 e2
    have b3:=qx5 e3
    exact⟨⟨Int.natCast_nonneg _,Int.ofNat_le.2 b3⟩,⟨Int.natCast_nonneg _,Int.ofNat_le.2 b2⟩,⟨Int.natCast_nonneg _,Int.ofNat_le.2 b1⟩⟩
   ·cases h
  ·cases h
 ·cases h
theorem parseR_in{s:List UInt8}{r:RR}(h:qi8 s=some r):r.In:=by
 unfold qi8 at h
 split at h
 ·rename_i q hq
  split at h
  ·cases h;exact candR_in hq
  ·cases h
 ·cases h
theorem parse_same(s:List UInt8):qp7 s=qi8 s:=by
 cases h:qp7 s with
 |some r =>
  unfold qp7 at h
  split at h
  ·rename_i q hq
   split at h
   ·rename_i hc
    cases h
    rw[←hc.2]
    exact(jt5 hc.1 (cand5_in hq) (je0 hc.1)).symm
   ·cases h
  ·cases h
 |none =>
  cases h2:qi8 s with
  |none=>rfl
  |some r =>
   obtain⟨h3,h4⟩:=yl8 h2
   have:=cand5_line h3 (parseR_in h2)
   rw [h4] at this
   unfold qp7 at h
   rw [this] at h
   simp only at h
   rw [if_pos ⟨h3,h4⟩] at h
   cases h
theorem spl_le:∀ (s:List UInt8),∀ w ∈ spl s,w.length≤s.length
 |[],w,h=>by simp [spl] at h;rw [h];exact Nat.le_refl _
 |c :: r,w,h=>by
  have ih:=spl_le r
  simp only [spl] at h
  split at h
  ·rcases List.mem_cons.1 h with rfl|h
   ·exact Nat.zero_le _
   ·have:=ih w h
    simp only[List.length_cons];omega
  ·split at h
   ·simp at h;rw [h];simp
   ·rename_i x l hx
    rcases List.mem_cons.1 h with rfl|h
    ·have:=ih x (by rw[hx];simp)
     simp only[List.length_cons];omega
    ·have:=ih w (by rw[hx];simp[h])
     simp only[List.length_cons];omega
theorem yq4:∀ s:List UInt8,(unhF s).length≤s.length
 |[]=>Nat.le_refl _
 |[_]=>by simp[unhF]
 |a :: b :: r=>by
  have:=yq4 r
  simp only[unhF,List.length_cons]
  omega
theorem unhR_len(s:List UInt8)(h:s.length≤100000):(unhR s).length≤100000:=by
 have:=yq4 s
 unfold unhR
 split
 ·exact Nat.zero_le _
 ·omega
set_option maxHeartbeats 8000000 in
theorem r5parse_ok(s:List UInt8)(hs:s.length≤1000000):FnOk Tryz.prog 28 [.d (.str s)] (jx9 (qp7 s)):=by
 refine qa4 (TT:=TT) (IN:=qc0 []) qc6 qa3 mixed 1000 Tryz.func28 rfl (qa7 Tryz.func28 (by kernel_rfl) rfl) rfl 72 (by kernel_rfl) ?_
 conv=>whnf
 refine .one (.data _ (words_ok s hs) rfl rfl ?_)
 have hle:=spl_le s
 have hpr:qp7 s=match yb1 (spl s) with
  |some r=>if r.check=true∧r.line=s then some r else none
  |none=>none:=rfl
 generalize spl s=ws at hle hpr ⊢
 conv=>whnf
 by_cases h5:ws.length=5
 case neg =>
  have:yb1 ws=none:=by
   unfold yb1
   split
   ·simp at h5
   ·rfl
  rw [this] at hpr
  simp only at hpr
  rw[hpr]
  refine brT (by rw[bne_iff_ne];omega) ?_
  conv=>whnf
  repeat(first|(refine brF rfl ?_;conv=>whnf)|(refine brT rfl ?_;conv=>whnf))
  repeat'(first|exact ⟨⟩|exact rfl|exact fun _=>Iff.rfl|exact fun _ _=>rfl|exact renM_ent rfl _|apply And.intro)
 refine brF (by rw[bne_eq_false_iff_eq];omega) ?_
 obtain⟨w0,w1,w2,w3,w4,rfl⟩:∃ a b c d e,ws=[a,b,c,d,e]:=by
  match ws,h5 with
  |[a,b,c,d,e],_=>exact⟨a,b,c,d,e,rfl⟩
 have l0:=hle w0 (by simp)
 have l1:=hle w1 (by simp)
 have l2:=hle w2 (by simp)
 have l3:=hle w3 (by simp)
 have l4:=hle w4 (by simp)
 clear hle
 simp only [yb1] at hpr
 conv=>whnf
 refine⟨by simp,?_⟩
 conv=>whnf
 by_cases h8:w4.length > 8192
 ·rw [if_pos h8] at hpr
  simp only at hpr
  rw[hpr]
  refine brT (decide_eq_true (by show((w4.length:Nat):Int) > 8192;omega)) ?_
  conv=>whnf
  repeat(first|(refine brF rfl ?_;conv=>whnf)|(refine brT rfl ?_;conv=>whnf))
  repeat'(first|exact ⟨⟩|exact rfl|exact fun _=>Iff.rfl|exact fun _ _=>rfl|exact renM_ent rfl _|apply And.intro)
 rw [if_neg h8] at hpr
 refine brF (decide_eq_false (by show ¬ ((w4.length:Nat):Int) > 8192;omega)) ?_
 conv=>whnf
 repeat(first|(refine brF rfl ?_;conv=>whnf)|(refine brT rfl ?_;conv=>whnf))
 refine⟨by simp,?_⟩
 conv=>whnf
 refine .one (.data _ (r1parse_ok w0) rfl rfl ?_)
 conv=>whnf
 by_cases hp:(qf0 w0).2=0
 case neg =>
  rw [if_neg hp] at hpr
  simp only at hpr
  rw[hpr]
  refine brT (by rw[bne_iff_ne];exact hp) ?_
  conv=>whnf
  repeat'(first|exact ⟨⟩|exact rfl|exact fun _=>Iff.rfl|exact fun _ _=>rfl|exact renM_ent rfl _|apply And.intro)
 rw [if_pos hp] at hpr
 simp only at hpr
 refine brF (by rw[bne_eq_false_iff_eq];exact hp) ?_
 conv=>whnf
 refine⟨by simp,?_⟩
 conv=>whnf
 refine .data _ (jw4 w1 (by omega)) rfl rfl ?_
 conv=>whnf
 refine⟨by simp,?_⟩
 conv=>whnf
 refine .data _ (jw4 w2 (by omega)) rfl rfl ?_
 conv=>whnf
 refine⟨by simp,?_⟩
 conv=>whnf
 refine .data _ (jw4 w3 (by omega)) rfl rfl ?_
 conv=>whnf
 refine⟨by simp,?_⟩
 conv=>whnf
 refine .data _ (r5unhex_ok w4 (by omega)) rfl rfl ?_
 conv=>whnf
 refine⟨by simp,?_⟩
 conv=>whnf
 have hin:∀ d,(RR.mk (qf0 w0).1 (IntKind.u16.wrap (vW w3)) (IntKind.u16.wrap (vW w2)) (IntKind.u32.wrap (vW w1)) d).In:=fun d=>⟨by constructor <;> (simp only[IntKind.wrap_u16];omega),by constructor <;> (simp only[IntKind.wrap_u16];omega),by constructor <;> (simp only[IntKind.wrap_u32'];omega)⟩
 generalize (qf0 w0).1=n at hin hpr ⊢
 generalize IntKind.u16.wrap (vW w3)=ty at hin hpr ⊢
 generalize IntKind.u16.wrap (vW w2)=cl at hin hpr ⊢
 generalize IntKind.u32.wrap (vW w1)=tt at hin hpr ⊢
 let rmk:List UInt8→RR:=fun d=>RR.mk n ty cl tt d
 have hend:∀ d:List UInt8,(if w4=[45] then [] else unhR w4)=d→d.length≤100000:=fun d e=>by
  rw[←e]
  split
  ·exact Nat.zero_le _
  ·exact unhR_len w4 (by omega)
 refine⟨fun h4=>?_,fun h4=>?_⟩
 ·have h4:w4=[45]:=by simpa using h4
  rw [if_pos h4] at hpr
  conv=>whnf
  have hRin:=hin []
  refine .one (.data _ (jm0 (rmk []) hRin (Nat.zero_le _)) rfl rfl ?_)
  have hpr:qp7 s=if (rmk []).check=true∧(rmk []).line=s then some (rmk []) else none:=hpr
  have hV:jx9 (some (rmk [])) = .tup [.agg [.d (.str n),.d (.int .u16 ty),.d (.int .u16 cl),.d (.int .u32 tt),.d (.str [])],.d (.int .i64 0)]:=rfl
  generalize rmk []=R at hpr hV
  cases hck:R.check with
  |false =>
   have:qp7 s=none:=by rw[hpr,if_neg (by rw[hck];simp)]
   rw[this,show R.lineV=([],2) by unfold RR.lineV;rw[hck];rfl]
   conv=>whnf
   repeat(first|(refine brF rfl ?_;conv=>whnf)|(refine brT rfl ?_;conv=>whnf))
   repeat'(first|exact ⟨⟩|exact rfl|exact fun _=>Iff.rfl|exact fun _ _=>rfl|exact renM_ent rfl _|apply And.intro)
  |true =>
   rw[show R.lineV=(R.line,0) by unfold RR.lineV;rw[hck];rfl]
   by_cases hl:R.line=s
   ·have:qp7 s=some R:=by rw[hpr,if_pos ⟨hck,hl⟩]
    rw[this,hV]
    conv=>whnf
    repeat(first|(refine brF rfl ?_;conv=>whnf)|(refine brT rfl ?_;conv=>whnf))
    refine brF (by simpa using hl) ?_
    conv=>whnf
    repeat'(first|exact ⟨⟩|exact rfl|exact fun _=>Iff.rfl|exact fun _ _=>rfl|exact renM_ent rfl _|apply And.intro)
   ·have:qp7 s=none:=by rw[hpr,if_neg (fun h=>hl h.2)]
    rw[this]
    conv=>whnf
    repeat(first|(refine brF rfl ?_;conv=>whnf)|(refine brT rfl ?_;conv=>whnf))
    refine brT (by simpa using hl) ?_
    conv=>whnf
    repeat'(first|exact ⟨⟩|exact rfl|exact fun _=>Iff.rfl|exact fun _ _=>rfl|exact renM_ent rfl _|apply And.intro)
 ·have h4:w4≠[45]:=by simpa using h4
  rw [if_neg h4] at hpr
  have hd0:=hend _ (if_neg h4)
  generalize unhR w4=d at hpr hd0 ⊢
  conv=>whnf
  have hRin:=hin d
  refine .one (.data _ (jm0 (rmk d) hRin hd0) rfl rfl ?_)
  have hpr:qp7 s=if (rmk d).check=true∧(rmk d).line=s then some (rmk d) else none:=hpr
  have hV:jx9 (some (rmk d)) = .tup [.agg [.d (.str n),.d (.int .u16 ty),.d (.int .u16 cl),.d (.int .u32 tt),.d (.str d)],.d (.int .i64 0)]:=rfl
  generalize rmk d=R at hpr hV
  cases hck:R.check with
  |false =>
   have:qp7 s=none:=by rw[hpr,if_neg (by rw[hck];simp)]
   rw[this,show R.lineV=([],2) by unfold RR.lineV;rw[hck];rfl]
   conv=>whnf
   repeat(first|(refine brF rfl ?_;conv=>whnf)|(refine brT rfl ?_;conv=>whnf))
   repeat'(first|exact ⟨⟩|exact rfl|exact fun _=>Iff.rfl|exact fun _ _=>rfl|exact renM_ent rfl _|apply And.intro)
  |true =>
   rw[show R.lineV=(R.line,0) by unfold RR.lineV;rw[hck];rfl]
   by_cases hl:R.line=s
   ·have:qp7 s=some R:=by rw[hpr,if_pos ⟨hck,hl⟩]
    rw[this,hV]
    conv=>whnf
    repeat(first|(refine brF rfl ?_;conv=>whnf)|(refine brT rfl ?_;conv=>whnf))
    refine brF (by simpa using hl) ?_
    conv=>whnf
    repeat'(first|exact ⟨⟩|exact rfl|exact fun _=>Iff.rfl|exact fun _ _=>rfl|exact renM_ent rfl _|apply And.intro)
   ·have:qp7 s=none:=by rw[hpr,if_neg (fun h=>hl h.2)]
    rw[this]
    conv=>whnf
    repeat(first|(refine brF rfl ?_;conv=>whnf)|(refine brT rfl ?_;conv=>whnf))
    refine brT (by simpa using hl) ?_
    conv=>whnf
    repeat'(first|exact ⟨⟩|exact rfl|exact fun _=>Iff.rfl|exact fun _ _=>rfl|exact renM_ent rfl _|apply And.intro)
end Go.Proofs.YtdfdlbnojmlpiaaGreatDoor
namespace Go.Proofs.YtdfdlbnojmlpiaaGreatDoor
open Go Go.Eng
set_option maxRecDepth 100000
set_option maxHeartbeats 16000000 in
theorem rtexts_ok(x:RR)(s:List UInt8)(hx:x.In):FnOk Tryz.prog 5 [x.V,.d (.str s)] (.d (.bool true)):=by
 refine qa4 (TT:=TT) (IN:=qc0 []) qc6 qa3 mixed 1000 Tryz.func5 rfl (qa7 Tryz.func5 (by kernel_rfl) rfl) rfl 62 (by kernel_rfl) ?_
 conv=>whnf
 by_cases h1:x.d.length > 16384
 ·refine brT (decide_eq_true (by omega)) ?_
  conv=>whnf
  repeat(first|(refine brF rfl ?_;conv=>whnf)|(refine brT rfl ?_;conv=>whnf))
  refine .one (.data _ jb7 rfl rfl ?_)
  conv=>whnf
  repeat'(first|exact ⟨⟩|exact rfl|exact fun _=>Iff.rfl|exact fun _ _=>rfl|exact renM_ent rfl _|apply And.intro)
 refine brF (decide_eq_false (by omega)) ?_
 conv=>whnf
 by_cases h2:s.length > 16384
 ·refine brT (decide_eq_true (by omega)) ?_
  conv=>whnf
  repeat(first|(refine brF rfl ?_;conv=>whnf)|(refine brT rfl ?_;conv=>whnf))
  refine .one (.data _ jb7 rfl rfl ?_)
  conv=>whnf
  repeat'(first|exact ⟨⟩|exact rfl|exact fun _=>Iff.rfl|exact fun _ _=>rfl|exact renM_ent rfl _|apply And.intro)
 refine brF (decide_eq_false (by omega)) ?_
 conv=>whnf
 repeat(first|(refine brF rfl ?_;conv=>whnf)|(refine brT rfl ?_;conv=>whnf))
 refine .one (.data _ (ym6 x hx) rfl rfl ?_)
 conv=>whnf
 refine .one (.data _ (jm0 x hx (by omega)) rfl rfl ?_)
 conv=>whnf
 have h5:=r5parse_ok s (by omega)
 rw [parse_same] at h5
 refine .one (.data _ (jl5 s (by omega)) rfl (by cases qi8 s <;> rfl) ?_)
 generalize x.lineV.1=l1
 generalize x.lineV.2=l2
 generalize qi8 s=o at h5 ⊢
 cases o with
 |none =>
  conv=>whnf
  refine .one (.data _ h5 rfl rfl ?_)
  conv=>whnf
  refine .one (.data _ jb7 rfl rfl ?_)
  conv=>whnf
  repeat(first|(refine brF rfl ?_;conv=>whnf)|(refine brT rfl ?_;conv=>whnf))
  refine brT (by simp) ?_
  conv=>whnf
  repeat(first|(refine brF rfl ?_;conv=>whnf)|(refine brT rfl ?_;conv=>whnf))
  refine brT (by simp) ?_
  conv=>whnf
  repeat(first|(refine brF rfl ?_;conv=>whnf)|(refine brT rfl ?_;conv=>whnf))
  repeat'(first|exact ⟨⟩|exact rfl|exact fun _=>Iff.rfl|exact fun _ _=>rfl|exact renM_ent rfl _|apply And.intro)
 |some r =>
  conv=>whnf
  refine .one (.data _ h5 rfl rfl ?_)
  conv=>whnf
  refine .one (.data _ jb7 rfl rfl ?_)
  conv=>whnf
  repeat(first|(refine brF rfl ?_;conv=>whnf)|(refine brT rfl ?_;conv=>whnf))
  refine brT (by simp) ?_
  conv=>whnf
  repeat(first|(refine brF rfl ?_;conv=>whnf)|(refine brT rfl ?_;conv=>whnf))
  refine brT (by simp) ?_
  conv=>whnf
  repeat(first|(refine brF rfl ?_;conv=>whnf)|(refine brT rfl ?_;conv=>whnf))
  refine brT (by simp) ?_
  conv=>whnf
  repeat(first|(refine brF rfl ?_;conv=>whnf)|(refine brT rfl ?_;conv=>whnf))
  repeat'(first|exact ⟨⟩|exact rfl|exact fun _=>Iff.rfl|exact fun _ _=>rfl|exact renM_ent rfl _|apply And.intro)
end Go.Proofs.YtdfdlbnojmlpiaaGreatDoor
