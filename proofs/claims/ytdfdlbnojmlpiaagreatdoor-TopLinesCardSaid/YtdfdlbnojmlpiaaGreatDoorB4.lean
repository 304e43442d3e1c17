/-
  message.Check, message.Write. Conditions: as in Pack and Read. message.Write. Conditions: as in Pack and Read. message.Read. Conditions: the bytes are fewer than 2 to the 40. What is written is read again: messages. Plain lemmas. What is written is read as it was, case by case. Plain lemmas. hardtacktop.begins, TopLines. Conditions: the listed variables (VOk); the number within its type.
-/
import Derived.Test.YtdfdlbnojmlpiaaGreatDoorB3
import Derived.Test.YtdfdlbnojmlpiaaGreatDoorB1
set_option linter.unusedVariables false
set_option linter.unusedSimpArgs false
namespace Go.Proofs.YtdfdlbnojmlpiaaGreatDoor
open Go Go.Eng
structure Q where
 nm:List UInt8
 ty:Int
 cl:Int
deriving Inhabited
def Q.enc(q:Q):List DV:=[.str q.nm,.int .u16 q.ty,.int .u16 q.cl]
structure Msg where
 id:Int
 bits:Int
 za:Bool
 asks:List Q
 zs:Bool
 says:List RR
 zh:Bool
 heads:List RR
 ze:Bool
 extra:List RR
def qsD(z:Bool)(l:List Q):DV:=.sl z l.length 3 (fun i=>(l.getD i default).enc)
def Msg.cells(m:Msg):List SV:=[.d (.int .u16 m.id),.d (.int .u16 m.bits),.d (qsD m.za m.asks),.d (rrsD m.zs m.says),.d (rrsD m.zh m.heads),.d (rrsD m.ze m.extra)]
def Msg.check(m:Msg):Bool:=decide (m.asks.length≤4096) && decide (m.says.length≤4096) && decide (m.heads.length≤4096) && decide (m.extra.length≤4096) && m.asks.all (fun q=>decide (isName q.nm)) && m.says.all RR.check && m.heads.all RR.check && m.extra.all RR.check
set_option maxRecDepth 100000
set_option maxHeartbeats 8000000 in
theorem mcheck_ok(m:Msg)(hl:m.asks.length<4611686018427387904):FnOk Tryz.prog 86 [.agg m.cells] (.d (.int .i64 (errno m.check))):=by
 refine fnOk_of_run (TT:=TT) (IN:=lookI [(87,Tryz.f87,1),(152,Tryz.f152,2)]) TT_ok (INok_cons (INok_cons INok_nil Tryz.func152 (by kernel_rfl) (by kernel_rfl)) Tryz.func87 (by kernel_rfl) (by kernel_rfl)) mixed 1000 Tryz.func86 rfl (enters Tryz.func86 (by kernel_rfl) rfl) rfl 45 (by kernel_rfl) ?_
 conv=>whnf
 refine⟨fun c1=>?_,fun c1=>?_⟩
 ·have e:m.check=false:=by
   have:¬ m.asks.length≤4096:=(by have h:(m.asks.length:Int) > 4096:=of_decide_eq_true c1;omega)
   simp[Msg.check,this]
  rw[e]
  conv=>whnf
  exact rfl
 have c1':m.asks.length≤4096:=(by have h:¬ (m.asks.length:Int) > 4096:=of_decide_eq_false c1;omega)
 conv=>whnf
 refine⟨fun c2=>?_,fun c2=>?_⟩
 ·have e:m.check=false:=by
   have:¬ m.says.length≤4096:=(by have h:(m.says.length:Int) > 4096:=of_decide_eq_true c2;omega)
   simp[Msg.check,this]
  rw[e]
  conv=>whnf
  exact rfl
 have c2':m.says.length≤4096:=(by have h:¬ (m.says.length:Int) > 4096:=of_decide_eq_false c2;omega)
 conv=>whnf
 refine⟨fun c3=>?_,fun c3=>?_⟩
 ·have e:m.check=false:=by
   have:¬ m.heads.length≤4096:=(by have h:(m.heads.length:Int) > 4096:=of_decide_eq_true c3;omega)
   simp[Msg.check,this]
  rw[e]
  conv=>whnf
  exact rfl
 have c3':m.heads.length≤4096:=(by have h:¬ (m.heads.length:Int) > 4096:=of_decide_eq_false c3;omega)
 conv=>whnf
 refine⟨fun c4=>?_,fun c4=>?_⟩
 ·have e:m.check=false:=by
   have:¬ m.extra.length≤4096:=(by have h:(m.extra.length:Int) > 4096:=of_decide_eq_true c4;omega)
   simp[Msg.check,this]
  rw[e]
  conv=>whnf
  exact rfl
 have c4':m.extra.length≤4096:=(by have h:¬ (m.extra.length:Int) > 4096:=of_decide_eq_false c4;omega)
 conv=>whnf
 have hw1:∀ (i n:Nat),i<n→n≤4096→IntKind.i64.wrap ((i:Int)+1)=((i+1:Nat):Int):=fun i n h1 h2=>by rw[w64_in _ (by omega)];omega
 refine .inv Nat (fun i=>i≤m.asks.length∧(m.asks.take i).all (fun q=>decide (isName q.nm))=true) (fun i=>[(23,.d (.int .i64 i))]) (fun _=>[]) (fun i=>m.asks.length - i) ⟨0,[0,1,2,3],⟨Nat.zero_le _,rfl⟩,?_⟩ ?_
 ·conv=>whnf
  repeat'(first|exact ⟨⟩|exact rfl|exact fun _=>Iff.rfl|exact fun _ _=>rfl|exact renM_ent rfl _|apply And.intro)
 rintro i ⟨hi,hall⟩
 conv=>whnf
 refine⟨fun c5=>?_,fun c5=>?_⟩
 ·have c5':i<m.asks.length:=(by have h:(i:Int)<m.asks.length:=of_decide_eq_true c5;omega)
  obtain⟨q,hq⟩:∃ q,m.asks.getD i default=q:=⟨_,rfl⟩
  have hq2:m.asks[i]? = some q:=by rw[←hq,List.getD,List.getElem?_eq_getElem c5'];rfl
  have htk:m.asks.take (i+1)=m.asks.take i++[q]:=by rw[List.take_add_one,hq2];rfl
  conv=>whnf
  refine⟨by omega,?_⟩
  conv=>whnf
  rw[Int.toNat_natCast,hq]
  refine .one (.data _ (check_ok q.nm) rfl rfl ?_)
  by_cases hn:isName q.nm
  ·rw[if_pos hn]
   conv=>whnf
   refine brF rfl ?_
   conv=>whnf
   refine⟨i+1,[0,1,2,3],⟨c5',by rw[htk,List.all_append,hall];simp[hn]⟩,by omega,?_⟩
   conv=>whnf
   rw[hw1 i _ c5' c1']
   repeat'(first|exact ⟨⟩|exact rfl|exact fun _=>Iff.rfl|exact fun _ _=>rfl|exact renM_ent rfl _|apply And.intro)
  ·have e:m.check=false:=by
    have:m.asks.all (fun q=>decide (isName q.nm))=false:=by
     rw[List.all_eq_false]
     exact⟨q,List.mem_of_getElem? hq2,by simp[hn]⟩
    simp only[Msg.check,this,Bool.and_false,Bool.false_and]
   rw[if_neg hn,e]
   conv=>whnf
   refine brT rfl ?_
   conv=>whnf
   exact rfl
 have hasks:m.asks.all (fun q=>decide (isName q.nm))=true:=by
  have:¬ i<m.asks.length:=(by have h:¬ (i:Int)<m.asks.length:=of_decide_eq_false c5;omega)
  rwa [List.take_of_length_le (by omega)] at hall
 clear hall hi c5
 conv=>whnf
 refine .inv Nat (fun i=>i≤m.says.length∧(m.says.take i).all RR.check=true) (fun i=>[(38,.d (.int .i64 i))]) (fun _=>[]) (fun i=>m.says.length - i) ⟨0,[0,1,2,3,4,5],⟨Nat.zero_le _,rfl⟩,?_⟩ ?_
 ·conv=>whnf
  repeat'(first|exact ⟨⟩|exact rfl|exact fun _=>Iff.rfl|exact fun _ _=>rfl|apply And.intro)
 rintro i ⟨hi,hall⟩
 conv=>whnf
 refine⟨fun c5=>?_,fun c5=>?_⟩
 ·have c5':i<m.says.length:=(by have h:(i:Int)<m.says.length:=of_decide_eq_true c5;omega)
  obtain⟨q,hq⟩:∃ q,m.says.getD i default=q:=⟨_,rfl⟩
  have hq2:m.says[i]? = some q:=by rw[←hq,List.getD,List.getElem?_eq_getElem c5'];rfl
  have htk:m.says.take (i+1)=m.says.take i++[q]:=by rw[List.take_add_one,hq2];rfl
  conv=>whnf
  refine⟨by omega,?_⟩
  conv=>whnf
  rw[Int.toNat_natCast,hq]
  refine .one (.data _ (reccheck_ok q) rfl rfl ?_)
  cases hn:q.check
  ·have e:m.check=false:=by
    have:m.says.all RR.check=false:=by
     rw[List.all_eq_false]
     exact⟨q,List.mem_of_getElem? hq2,by simp[hn]⟩
    simp only[Msg.check,this,Bool.and_false,Bool.false_and]
   rw[e]
   conv=>whnf
   refine brT rfl ?_
   conv=>whnf
   exact rfl
  ·conv=>whnf
   refine brF rfl ?_
   conv=>whnf
   refine⟨i+1,[0,1,2,3,4,5],⟨c5',by rw[htk,List.all_append,hall];simp[hn]⟩,by omega,?_⟩
   conv=>whnf
   rw[hw1 i _ c5' c2']
   repeat'(first|exact ⟨⟩|exact rfl|exact fun _=>Iff.rfl|exact fun _ _=>rfl|apply And.intro)
 have hsays:m.says.all RR.check=true:=by
  have:¬ i<m.says.length:=(by have h:¬ (i:Int)<m.says.length:=of_decide_eq_false c5;omega)
  rwa [List.take_of_length_le (by omega)] at hall
 clear hall hi c5
 conv=>whnf
 refine .inv Nat (fun i=>i≤m.heads.length∧(m.heads.take i).all RR.check=true) (fun i=>[(38,.d (.int .i64 i))]) (fun _=>[]) (fun i=>m.heads.length - i) ⟨0,[0,1,2,3,4,5],⟨Nat.zero_le _,rfl⟩,?_⟩ ?_
 ·conv=>whnf
  repeat'(first|exact ⟨⟩|exact rfl|exact fun _=>Iff.rfl|exact fun _ _=>rfl|apply And.intro)
 rintro i ⟨hi,hall⟩
 conv=>whnf
 refine⟨fun c5=>?_,fun c5=>?_⟩
 ·have c5':i<m.heads.length:=(by have h:(i:Int)<m.heads.length:=of_decide_eq_true c5;omega)
  obtain⟨q,hq⟩:∃ q,m.heads.getD i default=q:=⟨_,rfl⟩
  have hq2:m.heads[i]? = some q:=by rw[←hq,List.getD,List.getElem?_eq_getElem c5'];rfl
  have htk:m.heads.take (i+1)=m.heads.take i++[q]:=by rw[List.take_add_one,hq2];rfl
  conv=>whnf
  refine⟨by omega,?_⟩
  conv=>whnf
  rw[Int.toNat_natCast,hq]
  refine .one (.data _ (reccheck_ok q) rfl rfl ?_)
  cases hn:q.check
  ·have e:m.check=false:=by
    have:m.heads.all RR.check=false:=by
     rw[List.all_eq_false]
     exact⟨q,List.mem_of_getElem? hq2,by simp[hn]⟩
    simp only[Msg.check,this,Bool.and_false,Bool.false_and]
   rw[e]
   conv=>whnf
   refine brT rfl ?_
   conv=>whnf
   exact rfl
  ·conv=>whnf
   refine brF rfl ?_
   conv=>whnf
   refine⟨i+1,[0,1,2,3,4,5],⟨c5',by rw[htk,List.all_append,hall];simp[hn]⟩,by omega,?_⟩
   conv=>whnf
   rw[hw1 i _ c5' c3']
   repeat'(first|exact ⟨⟩|exact rfl|exact fun _=>Iff.rfl|exact fun _ _=>rfl|apply And.intro)
 have hheads:m.heads.all RR.check=true:=by
  have:¬ i<m.heads.length:=(by have h:¬ (i:Int)<m.heads.length:=of_decide_eq_false c5;omega)
  rwa [List.take_of_length_le (by omega)] at hall
 clear hall hi c5
 conv=>whnf
 refine .inv Nat (fun i=>i≤m.extra.length∧(m.extra.take i).all RR.check=true) (fun i=>[(38,.d (.int .i64 i))]) (fun _=>[]) (fun i=>m.extra.length - i) ⟨0,[0,1,2,3,4,5],⟨Nat.zero_le _,rfl⟩,?_⟩ ?_
 ·conv=>whnf
  repeat'(first|exact ⟨⟩|exact rfl|exact fun _=>Iff.rfl|exact fun _ _=>rfl|apply And.intro)
 rintro i ⟨hi,hall⟩
 conv=>whnf
 refine⟨fun c5=>?_,fun c5=>?_⟩
 ·have c5':i<m.extra.length:=(by have h:(i:Int)<m.extra.length:=of_decide_eq_true c5;omega)
  obtain⟨q,hq⟩:∃ q,m.extra.getD i default=q:=⟨_,rfl⟩
  have hq2:m.extra[i]? = some q:=by rw[←hq,List.getD,List.getElem?_eq_getElem c5'];rfl
  have htk:m.extra.take (i+1)=m.extra.take i++[q]:=by rw[List.take_add_one,hq2];rfl
  conv=>whnf
  refine⟨by omega,?_⟩
  conv=>whnf
  rw[Int.toNat_natCast,hq]
  refine .one (.data _ (reccheck_ok q) rfl rfl ?_)
  cases hn:q.check
  ·have e:m.check=false:=by
    have:m.extra.all RR.check=false:=by
     rw[List.all_eq_false]
     exact⟨q,List.mem_of_getElem? hq2,by simp[hn]⟩
    simp only[Msg.check,this,Bool.and_false,Bool.false_and]
   rw[e]
   conv=>whnf
   refine brT rfl ?_
   conv=>whnf
   exact rfl
  ·conv=>whnf
   refine brF rfl ?_
   conv=>whnf
   refine⟨i+1,[0,1,2,3,4,5],⟨c5',by rw[htk,List.all_append,hall];simp[hn]⟩,by omega,?_⟩
   conv=>whnf
   rw[hw1 i _ c5' c4']
   repeat'(first|exact ⟨⟩|exact rfl|exact fun _=>Iff.rfl|exact fun _ _=>rfl|apply And.intro)
 have hextra:m.extra.all RR.check=true:=by
  have:¬ i<m.extra.length:=(by have h:¬ (i:Int)<m.extra.length:=of_decide_eq_false c5;omega)
  rwa [List.take_of_length_le (by omega)] at hall
 clear hall hi c5
 conv=>whnf
 have e:m.check=true:=by simp only[Msg.check,hasks,hsays,hheads,hextra,c1',c2',c3',c4',decide_true,Bool.and_self]
 rw[e]
 exact rfl
end Go.Proofs.YtdfdlbnojmlpiaaGreatDoor
namespace Go.Proofs.YtdfdlbnojmlpiaaGreatDoor
open Go Go.Eng
def lm(limit:Int):Int:=if 65535<limit then 65535 else limit
def Wr.head(w:Wr)(m:Msg):Wr:=(((((w.num 2 m.id).num 2 m.bits).num 2 m.asks.length).num 2 m.says.length).num 2 m.heads.length).num 2 m.extra.length
def Wr.asks(w:Wr)(l:List Q):Wr:=l.foldl (fun w q=>((w.name q.nm true).num 2 q.ty).num 2 q.cl) w
def Wr.recs(w:Wr)(l:List RR):Wr:=l.foldl (fun w r=>(w.record r).1) w
def Msg.last(m:Msg)(limit:Int):Wr:=(((((Wr.mk [] (lm limit) false []).head m).asks m.asks).recs m.says).recs m.heads).recs m.extra
def Msg.write(m:Msg)(limit:Int):List UInt8 × Int:=if m.check then (if (m.last limit).full then ([],7) else ((m.last limit).buf,0)) else ([],2)
structure Q.Ok(q:Q):Prop where
 ty:0≤q.ty∧q.ty≤65535
 cl:0≤q.cl∧q.cl≤65535
structure Msg.Ok(m:Msg):Prop where
 id:0≤m.id∧m.id≤65535
 bits:0≤m.bits∧m.bits≤65535
 asks:∀ q ∈ m.asks,q.Ok
 says:∀ r ∈ m.says,r.Ok
 heads:∀ r ∈ m.heads,r.Ok
 extra:∀ r ∈ m.extra,r.Ok
 len:m.asks.length<4611686018427387904
structure MwSt where
 w:Wr
 i:Nat
set_option maxRecDepth 100000
set_option maxHeartbeats 16000000 in
theorem mwrite_ok(m:Msg)(hm:m.Ok)(limit:Int)(hlim : -9223372036854775808≤limit∧limit≤9223372036854775807):FnOk Tryz.prog 37 [.agg m.cells,.d (.int .i64 limit)] (.tup [.d (.str (m.write limit).1),.d (.int .i64 (m.write limit).2)]):=by
 refine fnOk_of_run (TT:=TT) (IN:=lookI [(87,Tryz.f87,1),(152,Tryz.f152,2)]) TT_ok (INok_cons (INok_cons INok_nil Tryz.func152 (by kernel_rfl) (by kernel_rfl)) Tryz.func87 (by kernel_rfl) (by kernel_rfl)) mixed 1000 Tryz.func37 rfl (enters Tryz.func37 (by kernel_rfl) rfl) rfl 91 (by kernel_rfl) ?_
 conv=>whnf
 refine .one (.data _ (mcheck_ok m hm.len) rfl rfl ?_)
 cases hc:m.check
 ·have e:m.write limit=([],2):=by unfold Msg.write;rw[hc];rfl
  rw[e]
  conv=>whnf
  refine brT rfl ?_
  conv=>whnf
  exact⟨rfl,rfl,True.intro⟩
 have hcs:=hc
 simp only [Msg.check,Bool.and_eq_true,decide_eq_true_eq] at hcs
 obtain⟨⟨⟨⟨⟨⟨⟨l1,l2⟩,l3⟩,l4⟩,k1⟩,k2⟩,k3⟩,k4⟩:=hcs
 have hid:=hm.id
 have hbits:=hm.bits
 have hw1:∀ (i n:Nat),i<n→n≤4096→IntKind.i64.wrap ((i:Int)+1)=((i+1:Nat):Int):=fun i n h1 h2=>by rw[w64_in _ (by omega)];omega
 have hu:∀ x:Int,0≤x∧x<18446744073709551616→IntKind.u64.wrap x=x:=fun x hx=>by rw[IntKind.wrap_u64];omega
 conv=>whnf
 refine brF rfl ?_
 conv=>whnf
 refine .rel _ (new_among (fun _=>rfl) (wnew_ok (lm limit)) [_,_,_] (fun _=>rfl)) (fun r ks' hR=>?_)
 obtain⟨rfl,rfl⟩:=hR
 have hok:(Wr.mk [] (lm limit) false []).Ok:=⟨by show _≤lm limit;unfold lm;split <;> omega,by show lm limit≤_;unfold lm;split <;> omega,.inl rfl,fun e he=>by cases he⟩
 have hwr:m.write limit=if (m.last limit).full then ([],7) else ((m.last limit).buf,0):=by unfold Msg.write;rw[hc];rfl
 have hlast:m.last limit=((((((Wr.mk [] (lm limit) false []).head m).asks m.asks).recs m.says).recs m.heads).recs m.extra):=rfl
 generalize Wr.mk [] (lm limit) false []=w at hok hlast ⊢
 have e0:IntKind.u64.wrap (pickI [IntKind.i64.wrap m.id,IntKind.i64.wrap m.bits,(m.asks.length:Int),(m.says.length:Int),(m.heads.length:Int),(m.extra.length:Int)] 0)=m.id:=by
  show IntKind.u64.wrap (IntKind.i64.wrap m.id)=_
  rw[w64_in _ (by omega),hu _ (by omega)]
 have e1:IntKind.u64.wrap (pickI [IntKind.i64.wrap m.id,IntKind.i64.wrap m.bits,(m.asks.length:Int),(m.says.length:Int),(m.heads.length:Int),(m.extra.length:Int)] (IntKind.i64.wrap (0+1)))=m.bits:=by
  show IntKind.u64.wrap (IntKind.i64.wrap m.bits)=_
  rw[w64_in _ (by omega),hu _ (by omega)]
 have e2:IntKind.u64.wrap (pickI [IntKind.i64.wrap m.id,IntKind.i64.wrap m.bits,(m.asks.length:Int),(m.says.length:Int),(m.heads.length:Int),(m.extra.length:Int)] (IntKind.i64.wrap ((IntKind.i64.wrap (0+1))+1)))=(m.asks.length:Int):=by
  show IntKind.u64.wrap (m.asks.length:Int)=_
  exact hu _ (by omega)
 have e3:IntKind.u64.wrap (pickI [IntKind.i64.wrap m.id,IntKind.i64.wrap m.bits,(m.asks.length:Int),(m.says.length:Int),(m.heads.length:Int),(m.extra.length:Int)] (IntKind.i64.wrap ((IntKind.i64.wrap ((IntKind.i64.wrap (0+1))+1))+1)))=(m.says.length:Int):=by
  show IntKind.u64.wrap (m.says.length:Int)=_
  exact hu _ (by omega)
 have e4:IntKind.u64.wrap (pickI [IntKind.i64.wrap m.id,IntKind.i64.wrap m.bits,(m.asks.length:Int),(m.says.length:Int),(m.heads.length:Int),(m.extra.length:Int)] (IntKind.i64.wrap ((IntKind.i64.wrap ((IntKind.i64.wrap ((IntKind.i64.wrap (0+1))+1))+1))+1)))=(m.heads.length:Int):=by
  show IntKind.u64.wrap (m.heads.length:Int)=_
  exact hu _ (by omega)
 have e5:IntKind.u64.wrap (pickI [IntKind.i64.wrap m.id,IntKind.i64.wrap m.bits,(m.asks.length:Int),(m.says.length:Int),(m.heads.length:Int),(m.extra.length:Int)] (IntKind.i64.wrap ((IntKind.i64.wrap ((IntKind.i64.wrap ((IntKind.i64.wrap ((IntKind.i64.wrap (0+1))+1))+1))+1))+1)))=(m.extra.length:Int):=by
  show IntKind.u64.wrap (m.extra.length:Int)=_
  exact hu _ (by omega)
 conv=>whnf
 refine .once ?_
 conv=>whnf
 refine brT rfl ?_
 conv=>whnf
 refine⟨by decide,?_⟩
 conv=>whnf
 rw[e0]
 refine .rel _ (COk.thing Wr.fl (num_ok (w) hok 2 (.inr (.inl rfl)) m.id) [_,_,_] [_,_] _ rfl rfl) (fun x ks' hR=>?_)
 obtain⟨_,wq,⟨rfl,rfl⟩,rfl,rfl⟩:=hR
 have hok:=hok.num 2 m.id
 conv=>whnf
 refine .once ?_
 conv=>whnf
 refine brT rfl ?_
 conv=>whnf
 refine⟨by decide,?_⟩
 conv=>whnf
 rw[e1]
 refine .rel _ (COk.thing Wr.fl (num_ok ((w).num 2 m.id) hok 2 (.inr (.inl rfl)) m.bits) [_,_,_] [_,_] _ rfl rfl) (fun x ks' hR=>?_)
 obtain⟨_,wq,⟨rfl,rfl⟩,rfl,rfl⟩:=hR
 have hok:=hok.num 2 m.bits
 conv=>whnf
 refine .once ?_
 conv=>whnf
 refine brT rfl ?_
 conv=>whnf
 refine⟨by decide,?_⟩
 conv=>whnf
 rw[e2]
 refine .rel _ (COk.thing Wr.fl (num_ok (((w).num 2 m.id).num 2 m.bits) hok 2 (.inr (.inl rfl)) (m.asks.length:Int)) [_,_,_] [_,_] _ rfl rfl) (fun x ks' hR=>?_)
 obtain⟨_,wq,⟨rfl,rfl⟩,rfl,rfl⟩:=hR
 have hok:=hok.num 2 (m.asks.length:Int)
 conv=>whnf
 refine .once ?_
 conv=>whnf
 refine brT rfl ?_
 conv=>whnf
 refine⟨by decide,?_⟩
 conv=>whnf
 rw[e3]
 refine .rel _ (COk.thing Wr.fl (num_ok ((((w).num 2 m.id).num 2 m.bits).num 2 (m.asks.length:Int)) hok 2 (.inr (.inl rfl)) (m.says.length:Int)) [_,_,_] [_,_] _ rfl rfl) (fun x ks' hR=>?_)
 obtain⟨_,wq,⟨rfl,rfl⟩,rfl,rfl⟩:=hR
 have hok:=hok.num 2 (m.says.length:Int)
 conv=>whnf
 refine .once ?_
 conv=>whnf
 refine brT rfl ?_
 conv=>whnf
 refine⟨by decide,?_⟩
 conv=>whnf
 rw[e4]
 refine .rel _ (COk.thing Wr.fl (num_ok (((((w).num 2 m.id).num 2 m.bits).num 2 (m.asks.length:Int)).num 2 (m.says.length:Int)) hok 2 (.inr (.inl rfl)) (m.heads.length:Int)) [_,_,_] [_,_] _ rfl rfl) (fun x ks' hR=>?_)
 obtain⟨_,wq,⟨rfl,rfl⟩,rfl,rfl⟩:=hR
 have hok:=hok.num 2 (m.heads.length:Int)
 conv=>whnf
 refine .once ?_
 conv=>whnf
 refine brT rfl ?_
 conv=>whnf
 refine⟨by decide,?_⟩
 conv=>whnf
 rw[e5]
 refine .rel _ (COk.thing Wr.fl (num_ok ((((((w).num 2 m.id).num 2 m.bits).num 2 (m.asks.length:Int)).num 2 (m.says.length:Int)).num 2 (m.heads.length:Int)) hok 2 (.inr (.inl rfl)) (m.extra.length:Int)) [_,_,_] [_,_] _ rfl rfl) (fun x ks' hR=>?_)
 obtain⟨_,wq,⟨rfl,rfl⟩,rfl,rfl⟩:=hR
 have hok:=hok.num 2 (m.extra.length:Int)
 conv=>whnf
 refine .once ?_
 conv=>whnf
 refine brF rfl ?_
 have hhead:w.head m=((((((w).num 2 m.id).num 2 m.bits).num 2 (m.asks.length:Int)).num 2 (m.says.length:Int)).num 2 (m.heads.length:Int)).num 2 (m.extra.length:Int):=rfl
 rw [hhead] at hlast
 generalize ((((((w).num 2 m.id).num 2 m.bits).num 2 (m.asks.length:Int)).num 2 (m.says.length:Int)).num 2 (m.heads.length:Int)).num 2 (m.extra.length:Int)=w1 at hok hlast ⊢
 conv=>whnf
 clear e0 e1 e2 e3 e4 e5 hhead
 refine .inv MwSt (fun s=>s.w.Ok∧s.i≤m.asks.length∧s.w.asks (m.asks.drop s.i)=w1.asks m.asks) (fun s=>[(53,.d (.int .i64 s.i))]) (fun s=>[(3,pk s.w.fl)]) (fun s=>m.asks.length - s.i) ⟨⟨w1,0⟩,[0,1,2,3,4,5],⟨hok,Nat.zero_le _,rfl⟩,?_⟩ ?_
 ·conv=>whnf
  repeat'(first|exact ⟨⟩|exact rfl|exact(fun _ _ _ _ h=>⟨packed_stable _,h⟩)|exact fun _=>Iff.rfl|exact fun _ _=>rfl|apply And.intro)
 clear hok
 intro s hs
 obtain⟨hok,hi,hrest⟩:=hs
 conv=>whnf
 generalize s.w=wc at hok hrest ⊢
 generalize s.i=i at hi hrest ⊢
 refine⟨fun c5=>?_,fun c5=>?_⟩
 ·have c5':i<m.asks.length:=(by have h:(i:Int)<m.asks.length:=of_decide_eq_true c5;omega)
  obtain⟨q,hq⟩:∃ q,m.asks.getD i default=q:=⟨_,rfl⟩
  have hq2:m.asks[i]? = some q:=by rw[←hq,List.getD,List.getElem?_eq_getElem c5'];rfl
  have hqo:q.Ok:=hm.asks q (List.mem_of_getElem? hq2)
  have hqt:=hqo.ty
  have hqc:=hqo.cl
  have hdr:m.asks.drop i=q :: m.asks.drop (i+1):=by
   rw[List.drop_eq_getElem_cons c5']
   congr 1
   rw [List.getElem?_eq_getElem c5'] at hq2
   exact Option.some.inj hq2
  conv=>whnf
  refine⟨by omega,?_⟩
  conv=>whnf
  rw[Int.toNat_natCast,hq]
  refine .rel _ (COk.thing Wr.fl (wname_ok wc hok q.nm) [_,_,_] [_,_,_] _ rfl rfl) (fun x ks' hR=>?_)
  obtain⟨_,wq,⟨rfl,rfl⟩,rfl,rfl⟩:=hR
  have hoa:=hok.name q.nm true
  conv=>whnf
  rw[hu q.ty (by omega)]
  refine .rel _ (COk.thing Wr.fl (num_ok _ hoa 2 (.inr (.inl rfl)) q.ty) [_,_,_] [_,_,_] _ rfl rfl) (fun x ks' hR=>?_)
  obtain⟨_,wq,⟨rfl,rfl⟩,rfl,rfl⟩:=hR
  have hob:=hoa.num 2 q.ty
  conv=>whnf
  rw[hu q.cl (by omega)]
  refine .rel _ (COk.thing Wr.fl (num_ok _ hob 2 (.inr (.inl rfl)) q.cl) [_,_,_] [_,_,_] _ rfl rfl) (fun x ks' hR=>?_)
  obtain⟨_,wq,⟨rfl,rfl⟩,rfl,rfl⟩:=hR
  have hoc:=hob.num 2 q.cl
  conv=>whnf
  refine⟨⟨_,i+1⟩,[0,1,2,3,4,5],⟨hoc,c5',?_⟩,by show m.asks.length - (i+1)<m.asks.length - i;omega,?_⟩
  ·rw[←hrest,hdr]
   rfl
  conv=>whnf
  rw[hw1 i _ c5' l1]
  repeat'(first|exact ⟨⟩|exact rfl|exact(fun _ _ _ _ h=>⟨packed_stable _,h⟩)|exact fun _=>Iff.rfl|exact fun _ _=>rfl|apply And.intro)
 have hia:i=m.asks.length:=(by have h:¬ (i:Int)<m.asks.length:=of_decide_eq_false c5;omega)
 rw [hia,List.drop_of_length_le (Nat.le_refl _)] at hrest
 rw [←hrest] at hlast
 have hlast:m.last limit=((wc.recs m.says).recs m.heads).recs m.extra:=hlast
 clear hrest hi c5
 conv=>whnf
 refine .inv MwSt (fun s=>s.w.Ok∧s.i≤m.says.length∧s.w.recs (m.says.drop s.i)=wc.recs m.says) (fun s=>[(78,.d (.int .i64 s.i))]) (fun s=>[(3,pk s.w.fl)]) (fun s=>m.says.length - s.i) ⟨⟨wc,0⟩,[0,1,2,3,4,5,6,7],⟨hok,Nat.zero_le _,rfl⟩,?_⟩ ?_
 ·conv=>whnf
  repeat'(first|exact ⟨⟩|exact rfl|exact(fun _ _ _ _ h=>⟨packed_stable _,h⟩)|exact fun _=>Iff.rfl|exact fun _ _=>rfl|apply And.intro)
 clear hok
 intro s hs
 obtain⟨hok,hi,hrest⟩:=hs
 conv=>whnf
 generalize s.w=wd0 at hok hrest ⊢
 generalize s.i=i at hi hrest ⊢
 refine⟨fun c5=>?_,fun c5=>?_⟩
 ·have c5':i<m.says.length:=(by have h:(i:Int)<m.says.length:=of_decide_eq_true c5;omega)
  obtain⟨q,hq⟩:∃ q,m.says.getD i default=q:=⟨_,rfl⟩
  have hq2:m.says[i]? = some q:=by rw[←hq,List.getD,List.getElem?_eq_getElem c5'];rfl
  have hqo:q.Ok:=hm.says q (List.mem_of_getElem? hq2)
  have hqk:q.check=true:=List.all_eq_true.mp k2 q (List.mem_of_getElem? hq2)
  have hdr:m.says.drop i=q :: m.says.drop (i+1):=by
   rw[List.drop_eq_getElem_cons c5']
   congr 1
   rw [List.getElem?_eq_getElem c5'] at hq2
   exact Option.some.inj hq2
  conv=>whnf
  refine⟨by omega,?_⟩
  conv=>whnf
  rw[Int.toNat_natCast,hq]
  refine .rel _ (COk.thing Wr.fl (wrec_ok wd0 hok q hqo.ty hqo.cl hqo.ttl) [_,_,_] [_,_,_,_,_] _ rfl rfl) (fun x ks' hR=>?_)
  obtain⟨_,wq,⟨rfl,rfl⟩,rfl,rfl⟩:=hR
  have hoa:=hok.record q
  rw[rec_true hqk]
  conv=>whnf
  refine brF rfl ?_
  conv=>whnf
  refine⟨⟨_,i+1⟩,[0,1,2,3,4,5,6,7],⟨hoa,c5',?_⟩,by show m.says.length - (i+1)<m.says.length - i;omega,?_⟩
  ·rw[←hrest,hdr]
   rfl
  conv=>whnf
  rw[hw1 i _ c5' l2]
  repeat'(first|exact ⟨⟩|exact rfl|exact(fun _ _ _ _ h=>⟨packed_stable _,h⟩)|exact fun _=>Iff.rfl|exact fun _ _=>rfl|apply And.intro)
 have hia:i=m.says.length:=(by have h:¬ (i:Int)<m.says.length:=of_decide_eq_false c5;omega)
 rw [hia,List.drop_of_length_le (Nat.le_refl _)] at hrest
 rw [←hrest] at hlast
 have hlast:m.last limit=((wd0.recs m.heads).recs m.extra):=hlast
 clear hrest hi c5
 conv=>whnf
 refine .inv MwSt (fun s=>s.w.Ok∧s.i≤m.heads.length∧s.w.recs (m.heads.drop s.i)=wd0.recs m.heads) (fun s=>[(78,.d (.int .i64 s.i))]) (fun s=>[(3,pk s.w.fl)]) (fun s=>m.heads.length - s.i) ⟨⟨wd0,0⟩,[0,1,2,3,4,5,6,7],⟨hok,Nat.zero_le _,rfl⟩,?_⟩ ?_
 ·conv=>whnf
  repeat'(first|exact ⟨⟩|exact rfl|exact(fun _ _ _ _ h=>⟨packed_stable _,h⟩)|exact fun _=>Iff.rfl|exact fun _ _=>rfl|apply And.intro)
 clear hok
 intro s hs
 obtain⟨hok,hi,hrest⟩:=hs
 conv=>whnf
 generalize s.w=wd1 at hok hrest ⊢
 generalize s.i=i at hi hrest ⊢
 refine⟨fun c5=>?_,fun c5=>?_⟩
 ·have c5':i<m.heads.length:=(by have h:(i:Int)<m.heads.length:=of_decide_eq_true c5;omega)
  obtain⟨q,hq⟩:∃ q,m.heads.getD i default=q:=⟨_,rfl⟩
  have hq2:m.heads[i]? = some q:=by rw[←hq,List.getD,List.getElem?_eq_getElem c5'];rfl
  have hqo:q.Ok:=hm.heads q (List.mem_of_getElem? hq2)
  have hqk:q.check=true:=List.all_eq_true.mp k3 q (List.mem_of_getElem? hq2)
  have hdr:m.heads.drop i=q :: m.heads.drop (i+1):=by
   rw[List.drop_eq_getElem_cons c5']
   congr 1
   rw [List.getElem?_eq_getElem c5'] at hq2
   exact Option.some.inj hq2
  conv=>whnf
  refine⟨by omega,?_⟩
  conv=>whnf
  rw[Int.toNat_natCast,hq]
  refine .rel _ (COk.thing Wr.fl (wrec_ok wd1 hok q hqo.ty hqo.cl hqo.ttl) [_,_,_] [_,_,_,_,_] _ rfl rfl) (fun x ks' hR=>?_)
  obtain⟨_,wq,⟨rfl,rfl⟩,rfl,rfl⟩:=hR
  have hoa:=hok.record q
  rw[rec_true hqk]
  conv=>whnf
  refine brF rfl ?_
  conv=>whnf
  refine⟨⟨_,i+1⟩,[0,1,2,3,4,5,6,7],⟨hoa,c5',?_⟩,by show m.heads.length - (i+1)<m.heads.length - i;omega,?_⟩
  ·rw[←hrest,hdr]
   rfl
  conv=>whnf
  rw[hw1 i _ c5' l3]
  repeat'(first|exact ⟨⟩|exact rfl|exact(fun _ _ _ _ h=>⟨packed_stable _,h⟩)|exact fun _=>Iff.rfl|exact fun _ _=>rfl|apply And.intro)
 have hia:i=m.heads.length:=(by have h:¬ (i:Int)<m.heads.length:=of_decide_eq_false c5;omega)
 rw [hia,List.drop_of_length_le (Nat.le_refl _)] at hrest
 rw [←hrest] at hlast
 have hlast:m.last limit=(wd1.recs m.extra):=hlast
 clear hrest hi c5
 conv=>whnf
 refine .inv MwSt (fun s=>s.w.Ok∧s.i≤m.extra.length∧s.w.recs (m.extra.drop s.i)=wd1.recs m.extra) (fun s=>[(78,.d (.int .i64 s.i))]) (fun s=>[(3,pk s.w.fl)]) (fun s=>m.extra.length - s.i) ⟨⟨wd1,0⟩,[0,1,2,3,4,5,6,7],⟨hok,Nat.zero_le _,rfl⟩,?_⟩ ?_
 ·conv=>whnf
  repeat'(first|exact ⟨⟩|exact rfl|exact(fun _ _ _ _ h=>⟨packed_stable _,h⟩)|exact fun _=>Iff.rfl|exact fun _ _=>rfl|apply And.intro)
 clear hok
 intro s hs
 obtain⟨hok,hi,hrest⟩:=hs
 conv=>whnf
 generalize s.w=wd2 at hok hrest ⊢
 generalize s.i=i at hi hrest ⊢
 refine⟨fun c5=>?_,fun c5=>?_⟩
 ·have c5':i<m.extra.length:=(by have h:(i:Int)<m.extra.length:=of_decide_eq_true c5;omega)
  obtain⟨q,hq⟩:∃ q,m.extra.getD i default=q:=⟨_,rfl⟩
  have hq2:m.extra[i]? = some q:=by rw[←hq,List.getD,List.getElem?_eq_getElem c5'];rfl
  have hqo:q.Ok:=hm.extra q (List.mem_of_getElem? hq2)
  have hqk:q.check=true:=List.all_eq_true.mp k4 q (List.mem_of_getElem? hq2)
  have hdr:m.extra.drop i=q :: m.extra.drop (i+1):=by
   rw[List.drop_eq_getElem_cons c5']
   congr 1
   rw [List.getElem?_eq_getElem c5'] at hq2
   exact Option.some.inj hq2
  conv=>whnf
  refine⟨by omega,?_⟩
  conv=>whnf
  rw[Int.toNat_natCast,hq]
  refine .rel _ (COk.thing Wr.fl (wrec_ok wd2 hok q hqo.ty hqo.cl hqo.ttl) [_,_,_] [_,_,_,_,_] _ rfl rfl) (fun x ks' hR=>?_)
  obtain⟨_,wq,⟨rfl,rfl⟩,rfl,rfl⟩:=hR
  have hoa:=hok.record q
  rw[rec_true hqk]
  conv=>whnf
  refine brF rfl ?_
  conv=>whnf
  refine⟨⟨_,i+1⟩,[0,1,2,3,4,5,6,7],⟨hoa,c5',?_⟩,by show m.extra.length - (i+1)<m.extra.length - i;omega,?_⟩
  ·rw[←hrest,hdr]
   rfl
  conv=>whnf
  rw[hw1 i _ c5' l4]
  repeat'(first|exact ⟨⟩|exact rfl|exact(fun _ _ _ _ h=>⟨packed_stable _,h⟩)|exact fun _=>Iff.rfl|exact fun _ _=>rfl|apply And.intro)
 have hia:i=m.extra.length:=(by have h:¬ (i:Int)<m.extra.length:=of_decide_eq_false c5;omega)
 rw [hia,List.drop_of_length_le (Nat.le_refl _)] at hrest
 rw [←hrest] at hlast
 have hlast:m.last limit=wd2:=hlast
 clear hrest hi c5
 conv=>whnf
 refine .rel _ (COk.thing Wr.fl (out_ok wd2) [_,_,_] [_,_,_,_] _ rfl rfl) (fun x ks' hR=>?_)
 obtain⟨_,wq,⟨rfl,hq⟩,rfl,rfl⟩:=hR
 rw[hq]
 clear hq
 rw[hwr,hlast]
 cases wd2.full
 ·conv=>whnf
  exact⟨rfl,rfl,True.intro⟩
 ·conv=>whnf
  exact⟨rfl,rfl,True.intro⟩
end Go.Proofs.YtdfdlbnojmlpiaaGreatDoor
namespace Go.Proofs.YtdfdlbnojmlpiaaGreatDoor
open Go Go.Eng
def Rdr.qs:Nat→Rdr→List Q→Rdr × List Q × Bool
 |0,r,l=>(r,l,true)
 |n+1,r,l=>if ((r.name.1.num 2).1.num 2).1.bad then (((r.name.1.num 2).1.num 2).1,l,false)
  else Rdr.qs n ((r.name.1.num 2).1.num 2).1 (l++[⟨r.name.2,IntKind.u16.wrap (r.name.1.num 2).2,IntKind.u16.wrap ((r.name.1.num 2).1.num 2).2⟩])
def Rdr.rs:Nat→Rdr→List RR→Rdr × List RR × Int
 |0,r,l=>(r,l,0)
 |n+1,r,l=>if r.recd.2.2≠0 then (r.recd.1,l,r.recd.2.2) else Rdr.rs n r.recd.1 (l++[r.recd.2.1])
def Msg.no:Msg:=⟨0,0,true,[],true,[],true,[],true,[]⟩
def Msg.of(i b:Int)(q:List Q)(x y z:List RR):Msg:=⟨i,b,Nat.beq q.length 0,q,Nat.beq x.length 0,x,Nat.beq y.length 0,y,Nat.beq z.length 0,z⟩
def Rdr.fin(r:Rdr)(m:Msg):Msg × Int:=if r.bad=false∧0<r.s.length - r.p then (Msg.no,6) else (m,0)
def Rdr.sec(r:Rdr)(n:Nat)(k:Rdr→List RR→Msg × Int):Msg × Int:=if (r.rs n []).2.2≠0 then (Msg.no,(r.rs n []).2.2) else k (r.rs n []).1 (r.rs n []).2.1
def Rdr.rest(r:Rdr)(i b c d e f:Nat):Msg × Int :=
 if c > 4096∨d > 4096∨e > 4096∨f > 4096 then (Msg.no,7) else
 if (r.qs c []).2.2=false then (Msg.no,5) else
 (r.qs c []).1.sec d fun r1 x=>r1.sec e fun r2 y=>r2.sec f fun r3 z=>r3.fin (Msg.of (IntKind.u16.wrap i) (IntKind.u16.wrap b) (r.qs c []).2.1 x y z)
def Msg.read(s:List UInt8):Msg × Int :=
 if s.length<12 then (Msg.no,5) else
 let a:=(Rdr.mk s 0 false).num 2
 let b:=a.1.num 2
 let c:=b.1.num 2
 let d:=c.1.num 2
 let e:=d.1.num 2
 let f:=e.1.num 2
 f.1.rest a.2 b.2 c.2 d.2 e.2 f.2
theorem Rdr.num_lt(r:Rdr):(r.num 2).2<65536:=by
 unfold Rdr.num
 split
 ·show(0:Nat)<65536
  omega
 ·rename_i h
  have h1:(r.raw ((2:Nat):Int)).2.length=2:=Rdr.raw_len 2 (by simpa using h)
  show numOf (r.raw ((2:Nat):Int)).2<65536
  generalize (r.raw ((2:Nat):Int)).2=x at h1
  match x,h1 with
  |[a,b],_ =>
   have ha:=UInt8.toNat_lt a
   have hb:=UInt8.toNat_lt b
   show(0 * 256+a.toNat) * 256+b.toNat<65536
   omega
theorem q_cat(l:List Q)(q:Q)(j:Nat)(hj:j<l.length+1):catF l.length (fun j=>(l.getD j default).enc) (chunk q.enc 3) j=((l++[q]).getD j default).enc:=by
 unfold catF
 split
 ·rename_i h
  show(l.getD j default).enc=_
  rw[List.getD,List.getD,List.getElem?_append_left h]
 ·rename_i h
  have:j=l.length:=by omega
  subst this
  rw[Nat.sub_self,List.getD,List.getElem?_append_right (Nat.le_refl _),Nat.sub_self]
  rfl
structure MrQ where
 r:Rdr
 l:List Q
 i:Nat
structure MrR where
 r:Rdr
 l:List RR
 i:Nat
set_option maxRecDepth 100000 in
set_option maxHeartbeats 16000000 in
theorem mread_ok(s:List UInt8)(hs:s.length<1099511627776):FnOk Tryz.prog 38 [.d (.str s)] (.tup [.agg (Msg.read s).1.cells,.d (.int .i64 (Msg.read s).2)]):=by
 refine fnOk_of_run (TT:=TT) (IN:=lookI [(87,Tryz.f87,1),(152,Tryz.f152,2),(83,Tryz.f83,1),(35,Tryz.f35,1)]) TT_ok (INok_cons (INok_cons (INok_cons (INok_cons INok_nil Tryz.func35 (by kernel_rfl) (by kernel_rfl)) Tryz.func83 (by kernel_rfl) (by kernel_rfl)) Tryz.func152 (by kernel_rfl) (by kernel_rfl)) Tryz.func87 (by kernel_rfl) (by kernel_rfl)) mixed 1000 Tryz.func38 rfl (enters Tryz.func38 (by kernel_rfl) rfl) rfl 105 (by kernel_rfl) ?_
 conv=>whnf
 refine⟨fun h1=>?_,fun h1=>?_⟩
 ·have h:s.length<12:=by
   have h:(s.length:Int)<12:=of_decide_eq_true h1
   omega
  have e:Msg.read s=(Msg.no,5):=by unfold Msg.read;rw[if_pos h]
  rw[e]
  conv=>whnf
  repeat'(first|exact ⟨⟩|exact rfl|exact⟨rfl,rfl,.inr rfl,fun _ _=>rfl⟩|exact⟨rfl,rfl,.inl rfl,fun i hi=>absurd hi (Nat.not_lt_zero _)⟩|apply And.intro)
 have h:¬ s.length<12:=by
  have h:¬ (s.length:Int)<12:=of_decide_eq_false h1
  omega
 have hsp:Msg.read s=Msg.read s:=rfl
 conv at hsp=>rhs;unfold Msg.read;rw [if_neg h]
 dsimp only at hsp
 have hr:(Rdr.mk s 0 false).Ok:=⟨by show s.length<_;omega,Nat.zero_le _⟩
 conv=>whnf
 refine .rel _ (new_among (fun _=>rfl) (open_ok s) [_,_] (fun _=>rfl)) (fun x ks' hR=>?_)
 obtain⟨rfl,rfl⟩:=hR
 conv=>whnf
 refine .once ?_
 conv=>whnf
 refine brT rfl ?_
 conv=>whnf
 have hsa:=Rdr.num_s (Rdr.mk s 0 false) 2
 have hla:=Rdr.num_lt (Rdr.mk s 0 false)
 refine .rel _ (rdr_fam (rnum_ok _ hr 2 (.inr (.inl rfl))) [_,_] [_,_] _ rfl rfl) (fun x ks' hR=>?_)
 obtain⟨_,q,⟨rfl,rfl⟩,rfl,rfl⟩:=hR
 have hra:=hr.num 2
 generalize Rdr.num (Rdr.mk s 0 false) 2=a at hsa hla hra hsp ⊢
 have hwa:IntKind.i64.wrap (a.2:Int)=(a.2:Int):=w64_in _ (by omega)
 conv=>whnf
 refine⟨by decide,?_⟩
 rw[hwa]
 conv=>whnf
 refine .once ?_
 conv=>whnf
 refine brT rfl ?_
 conv=>whnf
 have hsb:=Rdr.num_s a.1 2
 have hlb:=Rdr.num_lt a.1
 refine .rel _ (rdr_fam (rnum_ok _ hra 2 (.inr (.inl rfl))) [_,_] [_,_] _ rfl rfl) (fun x ks' hR=>?_)
 obtain⟨_,q,⟨rfl,rfl⟩,rfl,rfl⟩:=hR
 have hrb:=hra.num 2
 generalize Rdr.num a.1 2=b at hsb hlb hrb hsp ⊢
 have hwb:IntKind.i64.wrap (b.2:Int)=(b.2:Int):=w64_in _ (by omega)
 conv=>whnf
 refine⟨by decide,?_⟩
 rw[hwb]
 conv=>whnf
 refine .once ?_
 conv=>whnf
 refine brT rfl ?_
 conv=>whnf
 have hsc:=Rdr.num_s b.1 2
 have hlc:=Rdr.num_lt b.1
 refine .rel _ (rdr_fam (rnum_ok _ hrb 2 (.inr (.inl rfl))) [_,_] [_,_] _ rfl rfl) (fun x ks' hR=>?_)
 obtain⟨_,q,⟨rfl,rfl⟩,rfl,rfl⟩:=hR
 have hrc:=hrb.num 2
 generalize Rdr.num b.1 2=c at hsc hlc hrc hsp ⊢
 have hwc:IntKind.i64.wrap (c.2:Int)=(c.2:Int):=w64_in _ (by omega)
 conv=>whnf
 refine⟨by decide,?_⟩
 rw[hwc]
 conv=>whnf
 refine .once ?_
 conv=>whnf
 refine brT rfl ?_
 conv=>whnf
 have hsd:=Rdr.num_s c.1 2
 have hld:=Rdr.num_lt c.1
 refine .rel _ (rdr_fam (rnum_ok _ hrc 2 (.inr (.inl rfl))) [_,_] [_,_] _ rfl rfl) (fun x ks' hR=>?_)
 obtain⟨_,q,⟨rfl,rfl⟩,rfl,rfl⟩:=hR
 have hrd:=hrc.num 2
 generalize Rdr.num c.1 2=d at hsd hld hrd hsp ⊢
 have hwd:IntKind.i64.wrap (d.2:Int)=(d.2:Int):=w64_in _ (by omega)
 conv=>whnf
 refine⟨by decide,?_⟩
 rw[hwd]
 conv=>whnf
 refine .once ?_
 conv=>whnf
 refine brT rfl ?_
 conv=>whnf
 have hse:=Rdr.num_s d.1 2
 have hle:=Rdr.num_lt d.1
 refine .rel _ (rdr_fam (rnum_ok _ hrd 2 (.inr (.inl rfl))) [_,_] [_,_] _ rfl rfl) (fun x ks' hR=>?_)
 obtain⟨_,q,⟨rfl,rfl⟩,rfl,rfl⟩:=hR
 have hre:=hrd.num 2
 generalize Rdr.num d.1 2=e at hse hle hre hsp ⊢
 have hwe:IntKind.i64.wrap (e.2:Int)=(e.2:Int):=w64_in _ (by omega)
 conv=>whnf
 refine⟨by decide,?_⟩
 rw[hwe]
 conv=>whnf
 refine .once ?_
 conv=>whnf
 refine brT rfl ?_
 conv=>whnf
 have hsf:=Rdr.num_s e.1 2
 have hlf:=Rdr.num_lt e.1
 refine .rel _ (rdr_fam (rnum_ok _ hre 2 (.inr (.inl rfl))) [_,_] [_,_] _ rfl rfl) (fun x ks' hR=>?_)
 obtain⟨_,q,⟨rfl,rfl⟩,rfl,rfl⟩:=hR
 have hrf:=hre.num 2
 generalize Rdr.num e.1 2=f at hsf hlf hrf hsp ⊢
 have hwf:IntKind.i64.wrap (f.2:Int)=(f.2:Int):=w64_in _ (by omega)
 conv=>whnf
 refine⟨by decide,?_⟩
 rw[hwf]
 conv=>whnf
 refine .once ?_
 conv=>whnf
 refine brF rfl ?_
 conv=>whnf
 refine⟨by decide,?_⟩
 conv=>whnf
 refine .once ?_
 conv=>whnf
 refine brT rfl ?_
 conv=>whnf
 refine⟨by decide,?_⟩
 conv=>whnf
 refine⟨fun h2=>?_,fun h2=>?_⟩
 ·have h2:((c.2:Nat):Int) > 4096:=of_decide_eq_true h2
  have hx:Msg.read s=(Msg.no,7):=by rw[hsp];unfold Rdr.rest;rw[if_pos (by omega)]
  rw[hx]
  conv=>whnf
  repeat'(first|exact ⟨⟩|exact rfl|exact⟨rfl,rfl,.inr rfl,fun _ _=>rfl⟩|exact⟨rfl,rfl,.inl rfl,fun i hi=>absurd hi (Nat.not_lt_zero _)⟩|apply And.intro)
 have hmc:¬ ((c.2:Nat):Int) > 4096:=of_decide_eq_false h2
 clear h2
 conv=>whnf
 refine .once ?_
 conv=>whnf
 refine brT rfl ?_
 conv=>whnf
 refine⟨by decide,?_⟩
 conv=>whnf
 refine⟨fun h2=>?_,fun h2=>?_⟩
 ·have h2:((d.2:Nat):Int) > 4096:=of_decide_eq_true h2
  have hx:Msg.read s=(Msg.no,7):=by rw[hsp];unfold Rdr.rest;rw[if_pos (by omega)]
  rw[hx]
  conv=>whnf
  repeat'(first|exact ⟨⟩|exact rfl|exact⟨rfl,rfl,.inr rfl,fun _ _=>rfl⟩|exact⟨rfl,rfl,.inl rfl,fun i hi=>absurd hi (Nat.not_lt_zero _)⟩|apply And.intro)
 have hmd:¬ ((d.2:Nat):Int) > 4096:=of_decide_eq_false h2
 clear h2
 conv=>whnf
 refine .once ?_
 conv=>whnf
 refine brT rfl ?_
 conv=>whnf
 refine⟨by decide,?_⟩
 conv=>whnf
 refine⟨fun h2=>?_,fun h2=>?_⟩
 ·have h2:((e.2:Nat):Int) > 4096:=of_decide_eq_true h2
  have hx:Msg.read s=(Msg.no,7):=by rw[hsp];unfold Rdr.rest;rw[if_pos (by omega)]
  rw[hx]
  conv=>whnf
  repeat'(first|exact ⟨⟩|exact rfl|exact⟨rfl,rfl,.inr rfl,fun _ _=>rfl⟩|exact⟨rfl,rfl,.inl rfl,fun i hi=>absurd hi (Nat.not_lt_zero _)⟩|apply And.intro)
 have hme:¬ ((e.2:Nat):Int) > 4096:=of_decide_eq_false h2
 clear h2
 conv=>whnf
 refine .once ?_
 conv=>whnf
 refine brT rfl ?_
 conv=>whnf
 refine⟨by decide,?_⟩
 conv=>whnf
 refine⟨fun h2=>?_,fun h2=>?_⟩
 ·have h2:((f.2:Nat):Int) > 4096:=of_decide_eq_true h2
  have hx:Msg.read s=(Msg.no,7):=by rw[hsp];unfold Rdr.rest;rw[if_pos (by omega)]
  rw[hx]
  conv=>whnf
  repeat'(first|exact ⟨⟩|exact rfl|exact⟨rfl,rfl,.inr rfl,fun _ _=>rfl⟩|exact⟨rfl,rfl,.inl rfl,fun i hi=>absurd hi (Nat.not_lt_zero _)⟩|apply And.intro)
 have hmf:¬ ((f.2:Nat):Int) > 4096:=of_decide_eq_false h2
 clear h2
 conv=>whnf
 refine .once ?_
 conv=>whnf
 refine brF rfl ?_
 conv=>whnf
 refine⟨by decide,?_⟩
 conv=>whnf
 refine⟨by decide,?_⟩
 conv=>whnf
 refine⟨by decide,?_⟩
 conv=>whnf
 refine .nilC 5 2 153 3 (fun _=>[]) _ _ _ _ rfl rfl ?_
 refine .nilC 5 3 44 5 (fun _=>[]) _ _ _ _ rfl rfl ?_
 refine .nilC 5 4 44 5 (fun _=>[]) _ _ _ _ rfl rfl ?_
 refine .nilC 5 5 44 5 (fun _=>[]) _ _ _ _ rfl rfl ?_
 have hfs:f.1.s.length<1099511627776:=by rw[hsf,hse,hsd,hsc,hsb,hsa];exact hs
 refine .inv MrQ (fun x=>x.r.Ok∧x.r.s.length<1099511627776∧x.i≤c.2∧x.l.length=x.i∧Rdr.qs (c.2 - x.i) x.r x.l=Rdr.qs c.2 f.1 []) (fun x=>[(50,.d (.int .i64 c.2)),(51,.d (.int .i64 x.i))])
  (fun x=>[(2,x.r.kb),(4,.cells 151 [.d (.int .i64 a.2),.d (.int .i64 b.2),.d (.int .i64 c.2),.d (.int .i64 d.2),.d (.int .i64 e.2),.d (.int .i64 f.2)]),(5,.cells 66 [.d (.int .u16 (IntKind.u16.wrap a.2)),.d (.int .u16 (IntKind.u16.wrap b.2)),.all 6,.all 7,.all 8,.all 9]),(6,.row 153 3 x.l.length .iff (fun j=>(x.l.getD j default).enc))])
  (fun x=>c.2 - x.i) ⟨⟨f.1,[],0⟩,[0,1,2,3,4,5,6,7,8,9],⟨hrf,hfs,Nat.zero_le _,rfl,rfl⟩,?_⟩ ?_
 ·conv=>whnf
  repeat'(first|exact ⟨⟩|exact rfl|(intro i hi;exact absurd hi (Nat.not_lt_zero _))|apply And.intro)
 intro x hx
 obtain⟨kr,ks,ki,kl,hrest⟩:=hx
 conv=>whnf
 generalize x.r=rc at kr ks hrest ⊢
 generalize x.l=lc at kl hrest ⊢
 generalize x.i=i at ki kl hrest ⊢
 refine⟨fun c5=>?_,fun c5=>?_⟩
 ·have c5':i<c.2:=(by have h:(i:Int)<c.2:=of_decide_eq_true c5;omega)
  have hsub:c.2 - i=(c.2 - (i+1))+1:=by omega
  rw [hsub] at hrest
  conv at hrest=>lhs;unfold Rdr.qs
  conv=>whnf
  refine .rel _ (rdr_fam (rname_ok rc kr) [_,_] [_,_,_,_,_,_,_] _ rfl rfl) (fun x ks' hR=>?_)
  obtain⟨_,q,⟨rfl,rfl⟩,rfl,rfl⟩:=hR
  have ka:=kr.name
  have ksa:=rc.name_s
  generalize rc.name=n1 at ka ksa hrest ⊢
  conv=>whnf
  refine .rel _ (rdr_fam (rnum_ok _ ka 2 (.inr (.inl rfl))) [_,_] [_,_,_,_,_,_,_] _ rfl rfl) (fun x ks' hR=>?_)
  obtain⟨_,q,⟨rfl,rfl⟩,rfl,rfl⟩:=hR
  have kb:=ka.num 2
  have ksb:=n1.1.num_s 2
  generalize n1.1.num 2=n2 at kb ksb hrest ⊢
  conv=>whnf
  refine .rel _ (rdr_fam (rnum_ok _ kb 2 (.inr (.inl rfl))) [_,_] [_,_,_,_,_,_,_] _ rfl rfl) (fun x ks' hR=>?_)
  obtain⟨_,q,⟨rfl,rfl⟩,rfl,rfl⟩:=hR
  have kc:=kb.num 2
  have ksc:=n2.1.num_s 2
  generalize n2.1.num 2=n3 at kc ksc hrest ⊢
  have ks3:n3.1.s.length<1099511627776:=by rw[ksc,ksb,ksa];exact ks
  clear ksa ksb ksc ka kb
  conv=>whnf
  refine⟨fun h2=>?_,fun h2=>?_⟩
  ·have h2:n3.1.bad=true:=h2
   rw [if_pos h2] at hrest
   have hx:Msg.read s=(Msg.no,5):=by rw[hsp];unfold Rdr.rest;rw[if_neg (by omega),if_pos (by rw[←hrest])]
   rw[hx]
   conv=>whnf
   repeat'(first|exact ⟨⟩|exact rfl|exact⟨rfl,rfl,.inr rfl,fun _ _=>rfl⟩|exact⟨rfl,rfl,.inl rfl,fun i hi=>absurd hi (Nat.not_lt_zero _)⟩|apply And.intro)
  have h2:n3.1.bad=false:=h2
  rw [if_neg (by rw [h2];simp)] at hrest
  conv=>whnf
  refine⟨by omega,?_⟩
  conv=>whnf
  refine⟨⟨n3.1,lc++[⟨n1.2,IntKind.u16.wrap n2.2,IntKind.u16.wrap n3.2⟩],i+1⟩,[0,1,2,3,4,5,11,7,8,9],⟨kc,ks3,c5',by rw[List.length_append,kl];rfl,hrest⟩,by show c.2 - (i+1)<c.2 - i;omega,?_⟩
  have hw1:IntKind.i64.wrap ((i:Int)+1)=((i+1:Nat):Int):=by rw[w64_in _ (by omega)];omega
  conv=>whnf
  rw[hw1]
  repeat'(first|exact ⟨⟩|exact rfl|apply And.intro)
  all_goals try exact fun _ _=>rfl
  ·show lc.length+1=(lc++[_]).length
   rw[List.length_append]
   rfl
  ·intro j hj
   exact q_cat lc ⟨n1.2,IntKind.u16.wrap n2.2,IntKind.u16.wrap n3.2⟩ j hj
 have hic:i=c.2:=(by have h:¬ (i:Int)<c.2:=of_decide_eq_false c5;omega)
 rw [hic,Nat.sub_self] at hrest
 have hrest:Rdr.qs c.2 f.1 []=(rc,lc,true):=hrest.symm
 have hsp2:Msg.read s=rc.sec d.2 fun r1 x=>r1.sec e.2 fun r2 y=>r2.sec f.2 fun r3 z=>r3.fin (Msg.of (IntKind.u16.wrap a.2) (IntKind.u16.wrap b.2) lc x y z):=by
  rw[hsp];unfold Rdr.rest;rw[if_neg (by omega),hrest,if_neg (by simp)]
 conv=>whnf
 refine⟨by decide,?_⟩
 conv=>whnf
 refine .moveC 7 5 3 _ _ _ _ _ _ _ rfl rfl rfl ?_
 refine .inv MrR (fun x=>x.r.Ok∧x.r.s.length<1099511627776∧x.i≤d.2∧x.l.length=x.i∧Rdr.rs (d.2 - x.i) x.r x.l=Rdr.rs d.2 rc []) (fun x=>[(79,.d (.int .i64 x.i))]) (fun x=>[(2,x.r.kb),(13,.row 44 5 x.l.length .iff (fun j=>(x.l.getD j default).enc))]) (fun x=>d.2 - x.i) ⟨⟨rc,[],0⟩,[0,1,2,3,4,5,6,7,8,9,10,11,12,13],⟨kr,ks,Nat.zero_le _,rfl,rfl⟩,?_⟩ ?_
 ·conv=>whnf
  repeat'(first|exact ⟨⟩|exact rfl|(intro i hi;exact absurd hi (Nat.not_lt_zero _))|exact fun _ _=>rfl|apply And.intro)
 clear kr ks
 intro x hx
 obtain⟨kr,ks,ki,kl,hrest⟩:=hx
 conv=>whnf
 generalize x.r=ra at kr ks hrest ⊢
 generalize x.l=la at kl hrest ⊢
 generalize x.i=i at ki kl hrest ⊢
 refine⟨fun c5=>?_,fun c5=>?_⟩
 ·have c5':i<d.2:=(by have h:(i:Int)<d.2:=of_decide_eq_true c5;omega)
  have hsub:d.2 - i=(d.2 - (i+1))+1:=by omega
  rw [hsub] at hrest
  conv at hrest=>lhs;unfold Rdr.rs
  conv=>whnf
  refine .rel _ (rdr_fam (rrec_ok ra kr ks) [_,_] [_,_,_,_,_,_,_,_,_,_,_] _ rfl rfl) (fun x ks' hR=>?_)
  obtain⟨_,q,⟨rfl,rfl⟩,rfl,rfl⟩:=hR
  have ka:=kr.recd
  have ksa:ra.recd.1.s.length<1099511627776:=by rw[Rdr.recd_s];exact ks
  generalize ra.recd=g at ka ksa hrest ⊢
  conv=>whnf
  refine⟨fun h2=>?_,fun h2=>?_⟩
  ·have h2:g.2.2≠0:=by simpa using h2
   rw [if_pos h2] at hrest
   have hx:Msg.read s=(Msg.no,g.2.2):=by rw[hsp2];unfold Rdr.sec;rw[if_pos (by rw[←hrest];exact h2),←hrest]
   rw[hx]
   conv=>whnf
   repeat'(first|exact ⟨⟩|exact rfl|exact⟨rfl,rfl,.inr rfl,fun _ _=>rfl⟩|exact⟨rfl,rfl,.inl rfl,fun i hi=>absurd hi (Nat.not_lt_zero _)⟩|apply And.intro)
  have h2:¬ g.2.2≠0:=by simpa using h2
  rw [if_neg h2] at hrest
  conv=>whnf
  refine⟨by omega,?_⟩
  conv=>whnf
  refine⟨⟨g.1,la++[g.2.1],i+1⟩,[0,1,2,3,4,5,6,7,8,9,10,11,12,16],⟨ka,ksa,c5',by rw[List.length_append,kl];rfl,hrest⟩,by show d.2 - (i+1)<d.2 - i;omega,?_⟩
  have hw1:IntKind.i64.wrap ((i:Int)+1)=((i+1:Nat):Int):=by rw[w64_in _ (by omega)];omega
  conv=>whnf
  rw[hw1]
  repeat'(first|exact ⟨⟩|exact rfl|apply And.intro)
  all_goals try exact fun _ _=>rfl
  ·show la.length+1=(la++[_]).length
   rw[List.length_append]
   rfl
  ·intro j hj
   exact rr_cat la g.2.1 j hj
 have hic:i=d.2:=(by have h:¬ (i:Int)<d.2:=of_decide_eq_false c5;omega)
 rw [hic,Nat.sub_self] at hrest
 have hrest:Rdr.rs d.2 rc []=(ra,la,0):=hrest.symm
 have hsp2:Msg.read s=ra.sec e.2 fun r2 y=>r2.sec f.2 fun r3 z=>r3.fin (Msg.of (IntKind.u16.wrap a.2) (IntKind.u16.wrap b.2) lc la y z):=by
  rw[hsp2];unfold Rdr.sec;rw[hrest,if_neg (by simp)]
 clear hrest kl ki c5 hic
 conv=>whnf
 refine⟨by decide,?_⟩
 conv=>whnf
 refine .moveC 8 5 4 _ _ _ _ _ _ _ rfl rfl rfl ?_
 refine .inv MrR (fun x=>x.r.Ok∧x.r.s.length<1099511627776∧x.i≤e.2∧x.l.length=x.i∧Rdr.rs (e.2 - x.i) x.r x.l=Rdr.rs e.2 ra []) (fun x=>[(79,.d (.int .i64 x.i))]) (fun x=>[(2,x.r.kb),(14,.row 44 5 x.l.length .iff (fun j=>(x.l.getD j default).enc))]) (fun x=>e.2 - x.i) ⟨⟨ra,[],0⟩,[0,1,2,3,4,5,6,7,8,9,10,11,12,13,14],⟨kr,ks,Nat.zero_le _,rfl,rfl⟩,?_⟩ ?_
 ·conv=>whnf
  repeat'(first|exact ⟨⟩|exact rfl|(intro i hi;exact absurd hi (Nat.not_lt_zero _))|exact fun _ _=>rfl|apply And.intro)
 clear kr ks
 intro x hx
 obtain⟨kr,ks,ki,kl,hrest⟩:=hx
 conv=>whnf
 generalize x.r=rb at kr ks hrest ⊢
 generalize x.l=lb at kl hrest ⊢
 generalize x.i=i at ki kl hrest ⊢
 refine⟨fun c5=>?_,fun c5=>?_⟩
 ·have c5':i<e.2:=(by have h:(i:Int)<e.2:=of_decide_eq_true c5;omega)
  have hsub:e.2 - i=(e.2 - (i+1))+1:=by omega
  rw [hsub] at hrest
  conv at hrest=>lhs;unfold Rdr.rs
  conv=>whnf
  refine .rel _ (rdr_fam (rrec_ok rb kr ks) [_,_] [_,_,_,_,_,_,_,_,_,_,_,_] _ rfl rfl) (fun x ks' hR=>?_)
  obtain⟨_,q,⟨rfl,rfl⟩,rfl,rfl⟩:=hR
  have ka:=kr.recd
  have ksa:rb.recd.1.s.length<1099511627776:=by rw[Rdr.recd_s];exact ks
  generalize rb.recd=g at ka ksa hrest ⊢
  conv=>whnf
  refine⟨fun h2=>?_,fun h2=>?_⟩
  ·have h2:g.2.2≠0:=by simpa using h2
   rw [if_pos h2] at hrest
   have hx:Msg.read s=(Msg.no,g.2.2):=by rw[hsp2];unfold Rdr.sec;rw[if_pos (by rw[←hrest];exact h2),←hrest]
   rw[hx]
   conv=>whnf
   repeat'(first|exact ⟨⟩|exact rfl|exact⟨rfl,rfl,.inr rfl,fun _ _=>rfl⟩|exact⟨rfl,rfl,.inl rfl,fun i hi=>absurd hi (Nat.not_lt_zero _)⟩|apply And.intro)
  have h2:¬ g.2.2≠0:=by simpa using h2
  rw [if_neg h2] at hrest
  conv=>whnf
  refine⟨by omega,?_⟩
  conv=>whnf
  refine⟨⟨g.1,lb++[g.2.1],i+1⟩,[0,1,2,3,4,5,6,7,8,9,10,11,12,13,17],⟨ka,ksa,c5',by rw[List.length_append,kl];rfl,hrest⟩,by show e.2 - (i+1)<e.2 - i;omega,?_⟩
  have hw1:IntKind.i64.wrap ((i:Int)+1)=((i+1:Nat):Int):=by rw[w64_in _ (by omega)];omega
  conv=>whnf
  rw[hw1]
  repeat'(first|exact ⟨⟩|exact rfl|apply And.intro)
  all_goals try exact fun _ _=>rfl
  ·show lb.length+1=(lb++[_]).length
   rw[List.length_append]
   rfl
  ·intro j hj
   exact rr_cat lb g.2.1 j hj
 have hic:i=e.2:=(by have h:¬ (i:Int)<e.2:=of_decide_eq_false c5;omega)
 rw [hic,Nat.sub_self] at hrest
 have hrest:Rdr.rs e.2 ra []=(rb,lb,0):=hrest.symm
 have hsp2:Msg.read s=rb.sec f.2 fun r3 z=>r3.fin (Msg.of (IntKind.u16.wrap a.2) (IntKind.u16.wrap b.2) lc la lb z):=by
  rw[hsp2];unfold Rdr.sec;rw[hrest,if_neg (by simp)]
 clear hrest kl ki c5 hic
 conv=>whnf
 refine⟨by decide,?_⟩
 conv=>whnf
 refine .moveC 9 5 5 _ _ _ _ _ _ _ rfl rfl rfl ?_
 refine .inv MrR (fun x=>x.r.Ok∧x.r.s.length<1099511627776∧x.i≤f.2∧x.l.length=x.i∧Rdr.rs (f.2 - x.i) x.r x.l=Rdr.rs f.2 rb []) (fun x=>[(79,.d (.int .i64 x.i))]) (fun x=>[(2,x.r.kb),(15,.row 44 5 x.l.length .iff (fun j=>(x.l.getD j default).enc))]) (fun x=>f.2 - x.i) ⟨⟨rb,[],0⟩,[0,1,2,3,4,5,6,7,8,9,10,11,12,13,14,15],⟨kr,ks,Nat.zero_le _,rfl,rfl⟩,?_⟩ ?_
 ·conv=>whnf
  repeat'(first|exact ⟨⟩|exact rfl|(intro i hi;exact absurd hi (Nat.not_lt_zero _))|exact fun _ _=>rfl|apply And.intro)
 clear kr ks
 intro x hx
 obtain⟨kr,ks,ki,kl,hrest⟩:=hx
 conv=>whnf
 generalize x.r=rd at kr ks hrest ⊢
 generalize x.l=ld at kl hrest ⊢
 generalize x.i=i at ki kl hrest ⊢
 refine⟨fun c5=>?_,fun c5=>?_⟩
 ·have c5':i<f.2:=(by have h:(i:Int)<f.2:=of_decide_eq_true c5;omega)
  have hsub:f.2 - i=(f.2 - (i+1))+1:=by omega
  rw [hsub] at hrest
  conv at hrest=>lhs;unfold Rdr.rs
  conv=>whnf
  refine .rel _ (rdr_fam (rrec_ok rd kr ks) [_,_] [_,_,_,_,_,_,_,_,_,_,_,_,_] _ rfl rfl) (fun x ks' hR=>?_)
  obtain⟨_,q,⟨rfl,rfl⟩,rfl,rfl⟩:=hR
  have ka:=kr.recd
  have ksa:rd.recd.1.s.length<1099511627776:=by rw[Rdr.recd_s];exact ks
  generalize rd.recd=g at ka ksa hrest ⊢
  conv=>whnf
  refine⟨fun h2=>?_,fun h2=>?_⟩
  ·have h2:g.2.2≠0:=by simpa using h2
   rw [if_pos h2] at hrest
   have hx:Msg.read s=(Msg.no,g.2.2):=by rw[hsp2];unfold Rdr.sec;rw[if_pos (by rw[←hrest];exact h2),←hrest]
   rw[hx]
   conv=>whnf
   repeat'(first|exact ⟨⟩|exact rfl|exact⟨rfl,rfl,.inr rfl,fun _ _=>rfl⟩|exact⟨rfl,rfl,.inl rfl,fun i hi=>absurd hi (Nat.not_lt_zero _)⟩|apply And.intro)
  have h2:¬ g.2.2≠0:=by simpa using h2
  rw [if_neg h2] at hrest
  conv=>whnf
  refine⟨by omega,?_⟩
  conv=>whnf
  refine⟨⟨g.1,ld++[g.2.1],i+1⟩,[0,1,2,3,4,5,6,7,8,9,10,11,12,13,14,18],⟨ka,ksa,c5',by rw[List.length_append,kl];rfl,hrest⟩,by show f.2 - (i+1)<f.2 - i;omega,?_⟩
  have hw1:IntKind.i64.wrap ((i:Int)+1)=((i+1:Nat):Int):=by rw[w64_in _ (by omega)];omega
  conv=>whnf
  rw[hw1]
  repeat'(first|exact ⟨⟩|exact rfl|apply And.intro)
  all_goals try exact fun _ _=>rfl
  ·show ld.length+1=(ld++[_]).length
   rw[List.length_append]
   rfl
  ·intro j hj
   exact rr_cat ld g.2.1 j hj
 have hic:i=f.2:=(by have h:¬ (i:Int)<f.2:=of_decide_eq_false c5;omega)
 rw [hic,Nat.sub_self] at hrest
 have hrest:Rdr.rs f.2 rb []=(rd,ld,0):=hrest.symm
 have hsp2:Msg.read s=rd.fin (Msg.of (IntKind.u16.wrap a.2) (IntKind.u16.wrap b.2) lc la lb ld):=by
  rw[hsp2];unfold Rdr.sec;rw[hrest,if_neg (by simp)]
 clear hrest kl ki c5 hic
 conv=>whnf
 have hql:=kr.len
 have hqp:=kr.p
 have hsub:IntKind.i64.wrap ((rd.s.length:Int) - rd.p)=(rd.s.length:Int) - rd.p:=w64_in _ (by omega)
 refine⟨fun h2=>?_,fun h2=>?_⟩
 ·have h2:rd.bad=true:=h2
  have hx:Msg.read s=(Msg.of (IntKind.u16.wrap a.2) (IntKind.u16.wrap b.2) lc la lb ld,0):=by rw[hsp2];unfold Rdr.fin;rw[if_neg (by simp[h2])]
  rw[hx]
  conv=>whnf
  try (refine brF rfl ?_;conv=>whnf)
  repeat'(first|exact ⟨⟩|exact rfl|exact⟨rfl,rfl,.inr rfl,fun _ _=>rfl⟩|exact⟨rfl,rfl,.inl rfl,fun i hi=>absurd hi (Nat.not_lt_zero _)⟩|apply And.intro)
 have h2:rd.bad=false:=h2
 conv=>whnf
 rw[hsub]
 refine⟨fun h3=>?_,fun h3=>?_⟩
 ·have h3:0<rd.s.length - rd.p:=by
   have h:((rd.s.length:Int) - rd.p) > 0:=of_decide_eq_true h3
   omega
  have hx:Msg.read s=(Msg.no,6):=by rw[hsp2];unfold Rdr.fin;rw[if_pos ⟨h2,h3⟩]
  rw[hx]
  conv=>whnf
  repeat'(first|exact ⟨⟩|exact rfl|exact⟨rfl,rfl,.inr rfl,fun _ _=>rfl⟩|exact⟨rfl,rfl,.inl rfl,fun i hi=>absurd hi (Nat.not_lt_zero _)⟩|apply And.intro)
 ·have h3:¬ 0<rd.s.length - rd.p:=by
   have h:¬ ((rd.s.length:Int) - rd.p) > 0:=of_decide_eq_false h3
   omega
  have hx:Msg.read s=(Msg.of (IntKind.u16.wrap a.2) (IntKind.u16.wrap b.2) lc la lb ld,0):=by rw[hsp2];unfold Rdr.fin;rw[if_neg (fun h=>h3 h.2)]
  rw[hx]
  conv=>whnf
  repeat'(first|exact ⟨⟩|exact rfl|exact⟨rfl,rfl,.inr rfl,fun _ _=>rfl⟩|exact⟨rfl,rfl,.inl rfl,fun i hi=>absurd hi (Nat.not_lt_zero _)⟩|apply And.intro)
end Go.Proofs.YtdfdlbnojmlpiaaGreatDoor
namespace Go.Proofs.YtdfdlbnojmlpiaaGreatDoor
open Go Go.Eng
theorem asks_op(l:List Q):WOp (fun w=>w.asks l):=by
 induction l with
 |nil=>exact WOp.id
 |cons q l ih=>exact(((name_op q.nm true).comp (num_op 2 q.ty)).comp (num_op 2 q.cl)).comp ih
theorem record_full{w:Wr}{r:RR}(h:(w.record r).1.full=false):w.full=false:=by
 unfold Wr.record at h
 split at h
 ·have hsetf:∀ (a:Wr) (i n:Int),(a.set i n).full=a.full:=fun a i n=>by unfold Wr.set;split <;> rfl
  exact((((((name_op r.nm true).comp (num_op 2 r.ty)).comp (num_op 2 r.cl)).comp (num_op 4 r.ttl)).comp (num_op 2 0)).comp (rdata_op r.ty r.d)).full w ((hsetf _ _ _).symm.trans h)
 ·exact h
theorem recs_full:∀ (l:List RR) (w:Wr),(w.recs l).full=false→w.full=false
 |[],_,h=>h
 |r :: l,w,h=>record_full (recs_full l (w.record r).1 h)
theorem recs_lim:∀ (l:List RR) (w:Wr),(w.recs l).limit=w.limit
 |[],_=>rfl
 |r :: l,w=>(recs_lim l (w.record r).1).trans (record_lim w r)
theorem recs_Ok:∀ (l:List RR) {w:Wr},w.Ok→(w.recs l).Ok
 |[],_,h=>h
 |r :: l,_,h=>recs_Ok l (h.record r)
theorem asks_Ok:∀ (l:List Q) {w:Wr},w.Ok→(w.asks l).Ok
 |[],_,h=>h
 |q :: l,_,h=>asks_Ok l (((h.name q.nm true).num 2 q.ty).num 2 q.cl)
theorem asks_back:∀ (l:List Q) (w:Wr),(∀ q ∈ l,isName q.nm∧q.Ok)→RO w→(w.asks l).full=false →
 RO (w.asks l)∧w.buf <+: (w.asks l).buf∧∀ S acc,(w.asks l).buf <+: S→Rdr.qs l.length ⟨S,w.buf.length,false⟩ acc=(⟨S,(w.asks l).buf.length,false⟩,acc++l,true)
 |[],w,_,hro,_=>⟨hro,List.prefix_refl _,fun S acc _=>by show(_,acc,true)=(_,acc++[],true);rw[List.append_nil];rfl⟩
 |q :: l,w,hl,hro,hf=>by
  obtain⟨hn,ho⟩:=hl q (List.mem_cons_self ..)
  obtain⟨ty,hty⟩:∃ n:Nat,q.ty=n:=⟨q.ty.toNat,by have:=ho.ty;omega⟩
  obtain⟨cl,hcl⟩:∃ n:Nat,q.cl=n:=⟨q.cl.toNat,by have:=ho.cl;omega⟩
  have hty':ty<65536:=by have:=ho.ty;omega
  have hcl':cl<65536:=by have:=ho.cl;omega
  have e:w.asks (q :: l)=(((w.name q.nm true).num 2 q.ty).num 2 q.cl).asks l:=rfl
  rw [e] at hf ⊢
  have fc:=(asks_op l).full _ hf
  have fb:=(num_op 2 q.cl).full _ fc
  have fa:=(num_op 2 q.ty).full _ fb
  have f0:=(name_op q.nm true).full _ fa
  have fa:(w.name q.nm true).full=false:=fa
  have fb:((w.name q.nm true).num 2 q.ty).full=false:=fb
  have fc:(((w.name q.nm true).num 2 q.ty).num 2 q.cl).full=false:=fc
  obtain⟨ra,pa,va⟩:=name_back f0 hro hn true fa
  generalize w.name q.nm true=wa at ra pa va fa fb fc hf ⊢
  rw [hty] at fb fc hf ⊢
  obtain⟨_,rb,pb,vb⟩:=num_back ra 2 ty (.inl ⟨rfl,hty'⟩) fb
  generalize wa.num 2 (ty:Int)=wb at rb pb vb fb fc hf ⊢
  rw [hcl] at fc hf ⊢
  obtain⟨_,rc,pc,vc⟩:=num_back rb 2 cl (.inl ⟨rfl,hcl'⟩) fc
  generalize wb.num 2 (cl:Int)=wc at rc pc vc fc hf ⊢
  obtain⟨rd,pd,vd⟩:=asks_back l wc (fun x hx=>hl x (List.mem_cons_of_mem _ hx)) rc hf
  refine⟨rd,((pa.trans pb).trans pc).trans pd,fun S acc hS=>?_⟩
  have s3:=pd.trans hS
  have s2:=pc.trans s3
  have s1:=pb.trans s2
  show(if (((Rdr.mk S w.buf.length false).name.1.num 2).1.num 2).1.bad then _ else _)=_
  have va:(Rdr.mk S w.buf.length false).name=(⟨S,wa.buf.length,false⟩,q.nm):=va S s1
  have vb:(Rdr.mk S wa.buf.length false).num 2=(⟨S,wb.buf.length,false⟩,ty):=vb S s2
  have vc:(Rdr.mk S wb.buf.length false).num 2=(⟨S,wc.buf.length,false⟩,cl):=vc S s3
  rw[va]
  dsimp only
  rw[vb]
  dsimp only
  rw[vc]
  dsimp only
  rw[if_neg (by simp)]
  have x1:IntKind.u16.wrap (ty:Int)=q.ty:=by rw[IntKind.wrap_u16,hty];omega
  have x3:IntKind.u16.wrap (cl:Int)=q.cl:=by rw[IntKind.wrap_u16,hcl];omega
  rw[x1,x3,vd S (acc++[q]) hS]
  simp
theorem recs_back:∀ (l:List RR) (w:Wr),(∀ r ∈ l,r.check=true∧r.Ok)→w.Ok→w.limit≤65535→RO w→(w.recs l).full=false →
 RO (w.recs l)∧w.buf <+: (w.recs l).buf∧∀ S acc,(w.recs l).buf <+: S→Rdr.rs l.length ⟨S,w.buf.length,false⟩ acc=(⟨S,(w.recs l).buf.length,false⟩,acc++l,0)
 |[],w,_,_,_,hro,_=>⟨hro,List.prefix_refl _,fun S acc _=>by show(_,acc,(0:Int))=(_,acc++[],(0:Int));rw[List.append_nil];rfl⟩
 |r :: l,w,hl,hok,hlim,hro,hf=>by
  obtain⟨hc,ho⟩:=hl r (List.mem_cons_self ..)
  have e:w.recs (r :: l)=(w.record r).1.recs l:=rfl
  rw [e] at hf ⊢
  have fa:=recs_full l _ hf
  obtain⟨_,ra,pa,va⟩:=record_back hok (Int.le_trans hlim (by decide)) hro hc ho fa
  obtain⟨rd,pd,vd⟩:=recs_back l (w.record r).1 (fun x hx=>hl x (List.mem_cons_of_mem _ hx)) (hok.record r) (by rw[record_lim];exact hlim) ra hf
  refine⟨rd,pa.trans pd,fun S acc hS=>?_⟩
  show(if (Rdr.mk S w.buf.length false).recd.2.2≠0 then _ else Rdr.rs l.length (Rdr.mk S w.buf.length false).recd.1 (acc++[(Rdr.mk S w.buf.length false).recd.2.1]))=_
  rw[va S (pd.trans hS)]
  dsimp only
  rw[if_neg (by simp),vd S (acc++[r]) hS]
  simp
def Msg.again(m:Msg):Msg:=Msg.of m.id m.bits m.asks m.says m.heads m.extra
theorem lm_le(limit:Int):lm limit≤65535∧lm limit≤limit:=by unfold lm;split <;> omega
theorem msg_back{m:Msg}(hm:m.Ok){limit:Int}(hlo : -9223372036854775808≤limit)(hc:m.check=true)(hf:(m.last limit).full=false) :
 Msg.read (m.last limit).buf=(m.again,0)∧((m.last limit).buf.length:Int)≤limit:=by
 have hcs:=hc
 simp only [Msg.check,Bool.and_eq_true,decide_eq_true_eq] at hcs
 obtain⟨⟨⟨⟨⟨⟨⟨l1,l2⟩,l3⟩,l4⟩,k1⟩,k2⟩,k3⟩,k4⟩:=hcs
 have hl:=lm_le limit
 have hw0:(Wr.mk [] (lm limit) false []).Ok:=⟨by show _≤lm limit;unfold lm;split <;> omega,by show lm limit≤_;omega,.inl rfl,fun e he=>by cases he⟩
 have hro0:RO (Wr.mk [] (lm limit) false []):=fun x hx=>by cases hx
 have hlim0:(Wr.mk [] (lm limit) false []).limit=lm limit:=rfl
 have hlen0:(Wr.mk [] (lm limit) false []).buf.length=0:=rfl
 unfold Msg.last at hf ⊢
 generalize Wr.mk [] (lm limit) false []=w0 at hw0 hro0 hlim0 hlen0 hf ⊢
 obtain⟨id,hid⟩:∃ n:Nat,m.id=n:=⟨m.id.toNat,by have:=hm.id;omega⟩
 obtain⟨bs,hbs⟩:∃ n:Nat,m.bits=n:=⟨m.bits.toNat,by have:=hm.bits;omega⟩
 have hid':id<65536:=by have:=hm.id;omega
 have hbs':bs<65536:=by have:=hm.bits;omega
 have f9:=recs_full _ _ hf
 have f8:=recs_full _ _ f9
 have f7:=recs_full _ _ f8
 have f6:(w0.head m).full=false:=(asks_op m.asks).full _ f7
 unfold Wr.head at f6 f7 f8 f9 hf ⊢
 rw [hid,hbs] at f6 f7 f8 f9 hf ⊢
 have f5:=(num_op 2 (m.extra.length:Int)).full _ f6
 have f4:=(num_op 2 (m.heads.length:Int)).full _ f5
 have f3:=(num_op 2 (m.says.length:Int)).full _ f4
 have f2:=(num_op 2 (m.asks.length:Int)).full _ f3
 have f1:=(num_op 2 (bs:Int)).full _ f2
 obtain⟨_,r1,p1,v1⟩:=num_back hro0 2 id (.inl ⟨rfl,hid'⟩) f1
 have o1:=hw0.num 2 (id:Int)
 have m1:=(num_op 2 (id:Int)).lim w0
 have n1:(w0.num 2 (id:Int)).limit=w0.limit:=m1
 generalize w0.num 2 (id:Int)=w1 at *
 obtain⟨_,r2,p2,v2⟩:=num_back r1 2 bs (.inl ⟨rfl,hbs'⟩) f2
 have o2:=o1.num 2 (bs:Int)
 have n2:(w1.num 2 (bs:Int)).limit=w1.limit:=(num_op 2 (bs:Int)).lim w1
 generalize w1.num 2 (bs:Int)=w2 at *
 obtain⟨_,r3,p3,v3⟩:=num_back r2 2 m.asks.length (.inl ⟨rfl,by omega⟩) f3
 have o3:=o2.num 2 (m.asks.length:Int)
 have n3:(w2.num 2 (m.asks.length:Int)).limit=w2.limit:=(num_op 2 (m.asks.length:Int)).lim w2
 generalize w2.num 2 (m.asks.length:Int)=w3 at *
 obtain⟨_,r4,p4,v4⟩:=num_back r3 2 m.says.length (.inl ⟨rfl,by omega⟩) f4
 have o4:=o3.num 2 (m.says.length:Int)
 have n4:(w3.num 2 (m.says.length:Int)).limit=w3.limit:=(num_op 2 (m.says.length:Int)).lim w3
 generalize w3.num 2 (m.says.length:Int)=w4 at *
 obtain⟨_,r5,p5,v5⟩:=num_back r4 2 m.heads.length (.inl ⟨rfl,by omega⟩) f5
 have o5:=o4.num 2 (m.heads.length:Int)
 have n5:(w4.num 2 (m.heads.length:Int)).limit=w4.limit:=(num_op 2 (m.heads.length:Int)).lim w4
 generalize w4.num 2 (m.heads.length:Int)=w5 at *
 obtain⟨_,r6,p6,v6⟩:=num_back r5 2 m.extra.length (.inl ⟨rfl,by omega⟩) f6
 have o6:=o5.num 2 (m.extra.length:Int)
 have n6:(w5.num 2 (m.extra.length:Int)).limit=w5.limit:=(num_op 2 (m.extra.length:Int)).lim w5
 have b6:(w5.num 2 (m.extra.length:Int)).buf=w5.buf++be 2 (m.extra.length:Int):=(piece_fit_rests f6).2.1
 generalize w5.num 2 (m.extra.length:Int)=w6 at *
 obtain⟨r7,p7,v7⟩:=asks_back m.asks w6 (fun q hq=>⟨of_decide_eq_true (List.all_eq_true.mp k1 q hq),hm.asks q hq⟩) r6 f7
 have o7:=asks_Ok m.asks o6
 have n7:(w6.asks m.asks).limit=w6.limit:=(asks_op m.asks).lim w6
 generalize w6.asks m.asks=w7 at *
 have hl7:w7.limit=lm limit:=by rw[n7,n6,n5,n4,n3,n2,n1,hlim0]
 obtain⟨r8,p8,v8⟩:=recs_back m.says w7 (fun r hr=>⟨List.all_eq_true.mp k2 r hr,hm.says r hr⟩) o7 (by omega) r7 f8
 have o8:=recs_Ok m.says o7
 have n8:=recs_lim m.says w7
 generalize w7.recs m.says=w8 at *
 obtain⟨r9,p9,v9⟩:=recs_back m.heads w8 (fun r hr=>⟨List.all_eq_true.mp k3 r hr,hm.heads r hr⟩) o8 (by omega) r8 f9
 have o9:=recs_Ok m.heads o8
 have n9:=recs_lim m.heads w8
 generalize w8.recs m.heads=w9 at *
 obtain⟨_,p10,v10⟩:=recs_back m.extra w9 (fun r hr=>⟨List.all_eq_true.mp k4 r hr,hm.extra r hr⟩) o9 (by omega) r9 hf
 have o10:=recs_Ok m.extra o9
 have n10:=recs_lim m.extra w9
 generalize w9.recs m.extra=w10 at *
 have q9:=p10
 have q8:=p9.trans q9
 have q7:=p8.trans q8
 have q6:=p7.trans q7
 have q5:=p6.trans q6
 have q4:=p5.trans q5
 have q3:=p4.trans q4
 have q2:=p3.trans q3
 have q1:=p2.trans q2
 have g1:=v1 _ q1
 have g2:=v2 _ q2
 have g3:=v3 _ q3
 have g4:=v4 _ q4
 have g5:=v5 _ q5
 have g6:=v6 _ q6
 dsimp only at g1 g2 g3 g4 g5 g6
 rw [hlen0] at g1
 have g7:=v7 _ [] q7
 have g8:=v8 _ [] q8
 have g9:=v9 _ [] q9
 have g10:=v10 _ [] (List.prefix_refl _)
 rw [List.nil_append] at g7 g8 g9 g10
 -- twelve bytes at least
 have pos:∀ {S:List UInt8} {a b k:Nat},(Rdr.mk S a false).num 2=(⟨S,b,false⟩,k)→b=a+2∧b≤S.length:=by
  intro S a b k h
  have h1:((Rdr.mk S a false).raw ((2:Nat):Int)).1=⟨S,b,false⟩:=congrArg Prod.fst h
  unfold Rdr.raw at h1
  rw [if_neg (by simp)] at h1
  split at h1
  ·have:=congrArg Rdr.bad h1
   cases this
  ·rename_i hc
   have h2:a+(((2:Nat):Int)).toNat=b:=congrArg Rdr.p h1
   rw [Int.toNat_natCast] at h2
   have hc:¬ (((2:Nat):Int)<0∨((2:Nat):Int) > (S.length:Int) - a):=hc
   omega
 have t1:=pos g1
 have t2:=pos g2
 have t3:=pos g3
 have t4:=pos g4
 have t5:=pos g5
 have t6:=pos g6
 have h12:12≤w10.buf.length:=by omega
 constructor
 ·unfold Msg.read
  rw[if_neg (by omega)]
  rw[g1]
  dsimp only
  rw[g2]
  dsimp only
  rw[g3]
  dsimp only
  rw[g4]
  dsimp only
  rw[g5]
  dsimp only
  rw[g6]
  dsimp only
  unfold Rdr.rest
  rw[if_neg (by omega),g7]
  dsimp only
  rw[if_neg (by simp)]
  unfold Rdr.sec
  rw[g8]
  dsimp only
  rw[if_neg (by simp),g9]
  dsimp only
  rw[if_neg (by simp),g10]
  dsimp only
  rw[if_neg (by simp)]
  unfold Rdr.fin
  rw[if_neg (by simp)]
  have x1:IntKind.u16.wrap (id:Int)=m.id:=by rw[IntKind.wrap_u16,hid];omega
  have x2:IntKind.u16.wrap (bs:Int)=m.bits:=by rw[IntKind.wrap_u16,hbs];omega
  rw[x1,x2]
  rfl
 ·have:=o10.len
  rw [n10,n9,n8,hl7] at this
  omega
end Go.Proofs.YtdfdlbnojmlpiaaGreatDoor
namespace Go.Proofs.YtdfdlbnojmlpiaaGreatDoor
open Go Go.Eng
theorem write_cases{m:Msg}(hm:m.Ok){limit:Int}(hlo : -9223372036854775808≤limit) :
 (m.check=false∧m.write limit=([],2))∨(m.check=true∧m.write limit=([],7)) ∨
 (m.check=true∧∃ b,m.write limit=(b,0)∧Msg.read b=(m.again,0)∧(b.length:Int)≤limit∧b.length≤65535):=by
 cases hc:m.check
 ·exact .inl ⟨rfl,by unfold Msg.write;rw[hc];rfl⟩
 ·refine .inr ?_
  cases hf:(m.last limit).full
  ·obtain⟨h1,h2⟩:=msg_back hm hlo hc hf
   refine .inr ⟨rfl,(m.last limit).buf,by unfold Msg.write;rw[hc,hf];rfl,h1,h2,?_⟩
   obtain⟨h3,_⟩:=lm_le limit
   have h4:=msg_back (limit:=65535) hm (by decide) hc
   by_cases hl:limit≤65535
   ·omega
   ·have e:m.last limit=m.last 65535:=by
     unfold Msg.last
     have:lm limit=lm 65535:=by unfold lm;rw[if_pos (by omega),if_neg (by omega)]
     rw[this]
    rw [e] at hf ⊢
    have:=(h4 hf).2
    omega
  ·exact .inl ⟨rfl,by unfold Msg.write;rw[hc,hf];rfl⟩
end Go.Proofs.YtdfdlbnojmlpiaaGreatDoor
namespace Go.Proofs.YtdfdlbnojmlpiaaGreatDoor
open Go Go.Eng
set_option maxRecDepth 100000
theorem count_org:countN [1,97,3,111,114,103,0]=2:=by kernel_rfl
theorem begins_ok:FnOk Tryz.prog 36 [] (.d (.bool true)):=by
 refine fnOk_of_run (TT:=TT) (IN:=lookI []) TT_ok INok_nil mixed 1000 Tryz.func36 rfl (enters Tryz.func36 (by kernel_rfl) rfl) rfl 3 (by kernel_rfl) ?_
 conv=>whnf
 refine .one (.data _ (count_ok [1,97,3,111,114,103,0]) rfl rfl ?_)
 rw[count_org]
 conv=>whnf
 repeat'(first|exact ⟨⟩|exact rfl|exact fun _=>Iff.rfl|exact fun _ _=>rfl|exact renM_ent rfl _|apply And.intro)
def parsed(L:List (List UInt8)):List RR:=L.filterMap parseR
theorem parsed_next(L:List (List UInt8))(s:List UInt8):parsed (L++[s])=parsed L++(match parseR s with|some r=>[r]|none=>[]):=by
 unfold parsed
 rw[List.filterMap_append]
 cases h:parseR s <;> simp[h]
theorem parsed_ok{L:List (List UInt8)}{r:RR}(h:r ∈ parsed L):r.check=true∧r.In:=by
 obtain⟨s,_,hs⟩:=List.mem_filterMap.1 h
 exact⟨(parseR_some hs).1,parseR_in hs⟩
theorem parsed_len(L:List (List UInt8)):(parsed L).length≤L.length:=List.length_filterMap_le _ _
def linesM(id:Int)(P:List RR):Msg:=⟨id,32768,true,[],Nat.beq P.length 0,P,true,[],true,[]⟩
theorem lines_cat(P:List RR)(r:RR)(i:Nat)(h:i<P.length+1):catF P.length (strs (P.map RR.line)) (chunk [DV.str r.line] 1) i=strs ((P++[r]).map RR.line) i:=by
 rw[List.map_append]
 have:=strs_cat (P.map RR.line) r.line (chunk [DV.str r.line] 1) rfl i (by rw[List.length_map];exact h)
 rwa [List.length_map] at this
theorem rrs_cat(P:List RR)(r:RR)(i:Nat)(h:i<P.length+1):catF P.length (fun i=>(P.getD i default).enc) (chunk r.enc 5) i=((P++[r]).getD i default).enc:=by
 unfold catF
 rcases Nat.lt_or_ge i P.length with h'|h'
 ·rw[if_pos h']
  show(P.getD i default).enc=_
  rw[List.getD_eq_getElem?_getD,List.getD_eq_getElem?_getD,List.getElem?_append_left h']
 ·rw[if_neg (by omega),show i=P.length by omega,Nat.sub_self,List.getD_eq_getElem?_getD,List.getElem?_append_right (Nat.le_refl _),Nat.sub_self]
  rfl
set_option maxHeartbeats 16000000 in
theorem tlines_ok(id:Int)(hid:0≤id∧id≤65535)(z:Bool)(L:List (List UInt8)):FnOk Tryz.prog 7 [.d (.int .u16 id),.d (.sl z L.length 1 (strs L))] (.d (.bool true)):=by
 refine fnOk_of_run (TT:=TT) (IN:=lookI []) TT_ok INok_nil mixed 1000 Tryz.func7 rfl (enters Tryz.func7 (by kernel_rfl) rfl) rfl 105 (by kernel_rfl) ?_
 conv=>whnf
 refine .one (.data _ begins_ok rfl rfl ?_)
 conv=>whnf
 repeat(first|(refine brF rfl ?_;conv=>whnf)|(refine brT rfl ?_;conv=>whnf))
 by_cases h1:L.length > 30
 ·refine brT (decide_eq_true (by omega)) ?_
  conv=>whnf
  repeat'(first|exact ⟨⟩|exact rfl|exact fun _=>Iff.rfl|exact fun _ _=>rfl|exact renM_ent rfl _|apply And.intro)
 refine brF (decide_eq_false (by omega)) ?_
 conv=>whnf
 refine .nilT 5 44 5 (fun i=>(([]:List RR).getD i default).enc) _ _ rfl ?_
 conv=>whnf
 refine .nilT 6 9 1 (strs []) _ _ rfl ?_
 conv=>whnf
 refine .inv Nat (fun i=>i≤L.length) (fun i=>[(27,iV i),(5,.all 0),(6,.all 1)]) (fun i=>[(0,.row 44 5 (parsed (L.take i)).length .iff (fun j=>((parsed (L.take i)).getD j default).enc)),(1,.row 9 1 (parsed (L.take i)).length .iff (strs ((parsed (L.take i)).map RR.line)))]) (fun i=>L.length - i) ⟨0,[0,1],Nat.zero_le _,?_⟩ ?_
 ·conv=>whnf
  repeat'(first|exact ⟨⟩|exact rfl|exact subZ_self _|exact Or.inr rfl|exact fun _ _=>rfl|exact fun _ h=>absurd h (Nat.not_lt_zero _)|apply And.intro)
 intro i hi
 conv=>whnf
 have hpl:(parsed (L.take i)).length≤i:=Nat.le_trans (parsed_len _) (by rw[List.length_take];omega)
 refine⟨fun h2=>?_,fun h2=>?_⟩
 ·have h2:i<L.length:=by
   have h:(i:Int)<L.length:=of_decide_eq_true h2
   omega
  obtain⟨s,hs⟩:∃ s,L[i]?.getD []=s:=⟨_,rfl⟩
  have htk:L.take (i+1)=L.take i++[s]:=by rw[List.take_add_one,←hs,List.getElem?_eq_getElem h2];rfl
  have hw1:IntKind.i64.wrap ((i:Int)+1)=((i+1:Nat):Int):=by rw[w64_in _ (by omega)];omega
  have hnx:=parsed_next (L.take i) s
  rw [←htk] at hnx
  conv=>whnf
  refine⟨by omega,?_⟩
  conv=>whnf
  rw[Int.toNat_natCast,hs]
  by_cases h3:s.length > 9000
  ·refine brT (decide_eq_true (by omega)) ?_
   conv=>whnf
   repeat'(first|exact ⟨⟩|exact rfl|exact fun _=>Iff.rfl|exact fun _ _=>rfl|exact renM_ent rfl _|apply And.intro)
  refine brF (decide_eq_false (by omega)) ?_
  conv=>whnf
  refine .one (.data _ (rparse_ok s (by omega)) rfl (by cases parseR s <;> rfl) ?_)
  generalize parsed (L.take i)=P at hpl hnx ⊢
  cases hp:parseR s with
  |none =>
   rw [hp] at hnx
   have hnx:parsed (L.take (i+1))=P:=by rw[hnx];exact List.append_nil _
   conv=>whnf
   repeat(first|(refine brF rfl ?_;conv=>whnf)|(refine brT rfl ?_;conv=>whnf))
   rw[hw1]
   refine⟨i+1,[0,1],h2,by omega,?_⟩
   rw[hnx]
   conv=>whnf
   repeat'(first|exact ⟨⟩|exact rfl|exact subZ_self _|exact Or.inr rfl|exact fun _ _=>rfl|exact fun _ h=>absurd h (Nat.not_lt_zero _)|apply And.intro)
  |some r =>
   rw [hp] at hnx
   have hnx:parsed (L.take (i+1))=P++[r]:=hnx
   have hrl:=(parseR_some hp).2
   rw[←hrl]
   conv=>whnf
   repeat(first|(refine brF rfl ?_;conv=>whnf)|(refine brT rfl ?_;conv=>whnf))
   refine⟨by omega,?_⟩
   conv=>whnf
   refine⟨by omega,?_⟩
   conv=>whnf
   rw[hw1]
   refine⟨i+1,[4,6],h2,by omega,?_⟩
   rw[hnx]
   conv=>whnf
   repeat'(first|exact ⟨⟩|exact rfl|exact subZ_self _|exact Or.inr rfl|exact fun _ _=>rfl|exact fun _ h=>absurd h (Nat.not_lt_zero _)|apply And.intro)
   ·rw[List.length_append];rfl
   ·exact fun j hj=>rrs_cat P r j hj
   ·rw[List.length_append];rfl
   ·exact fun j hj=>lines_cat P r j hj
 ·have h2:i=L.length:=by
   have h:¬ (i:Int)<L.length:=of_decide_eq_false h2
   omega
  subst h2
  rw [List.take_length] at hpl ⊢
  have hP:∀ r ∈ parsed L,r.check=true∧r.In:=fun r hr=>parsed_ok hr
  generalize parsed L=P at hpl hP ⊢
  have hm:(linesM id P).Ok:=⟨hid,⟨by show(0:Int)≤32768;decide,by show(32768:Int)≤65535;decide⟩,fun q hq=>absurd hq (by show q ∉ [];simp),fun r hr=>⟨(hP r hr).2.ty,(hP r hr).2.cl,(hP r hr).2.ttl⟩,fun q hq=>absurd hq (by show q ∉ [];simp),fun q hq=>absurd hq (by show q ∉ [];simp),by show(0:Nat)<_;decide⟩
  have hc:(linesM id P).check=true:=by
   unfold Msg.check
   simp only[Bool.and_eq_true,decide_eq_true_eq]
   refine⟨⟨⟨⟨⟨⟨⟨Nat.zero_le _,?_⟩,Nat.zero_le _⟩,Nat.zero_le _⟩,rfl⟩,?_⟩,rfl⟩,rfl⟩
   ·show P.length≤4096
    omega
   ·exact List.all_eq_true.2 fun r hr=>(hP r hr).1
  have hwc:=write_cases hm (limit:=65536) (by decide)
  have hw:=mwrite_ok (linesM id P) hm 65536 (by decide)
  conv=>whnf
  refine .one (.look (.tup [.d (.str ((linesM id P).write 65536).1),.d (.int .i64 ((linesM id P).write 65536).2)]) ?_ rfl ?_)
  ·conv=>whnf
   exact⟨hw.convA ⟨AEq.aggL ⟨.refl _,.refl _,.d (.none ..),.row fun _ _=>rfl,.d (.none ..),.d (.none ..),True.intro⟩,.refl _,True.intro⟩,rfl⟩
  conv=>whnf
  rcases hwc with⟨h,_⟩|⟨_,h⟩|⟨_,b,h,hr,_,hb⟩
  ·rw [hc] at h;cases h
  ·rw[h]
   refine brT (by rfl) ?_
   conv=>whnf
   repeat'(first|exact ⟨⟩|exact rfl|exact fun _=>Iff.rfl|exact fun _ _=>rfl|exact renM_ent rfl _|apply And.intro)
  ·rw[h]
   refine brF (by rfl) ?_
   conv=>whnf
   have hrd:FnOk Tryz.prog 38 [.d (.str b)] (.tup [.agg [.d (.int .u16 id),.d (.int .u16 32768),.d (qsD true []),.d (rrsD (Nat.beq P.length 0) P),.d (rrsD true []),.d (rrsD true [])],.d (.int .i64 0)]):=by
    have:=mread_ok b (by omega)
    rw [hr] at this
    exact this
   refine .one (.data _ hrd rfl rfl ?_)
   conv=>whnf
   refine brF (by rfl) ?_
   conv=>whnf
   refine brF (by show((P.length:Int) != P.length)=false;simp) ?_
   conv=>whnf
   refine brF (by show(id != id)=false;simp) ?_
   conv=>whnf
   refine .inv Nat (fun i=>i≤P.length) (fun i=>[(86,iV i)]) (fun _=>[]) (fun i=>P.length - i) ⟨0,[0,1,2,3],Nat.zero_le _,?_⟩ ?_
   ·conv=>whnf
    repeat'(first|exact ⟨⟩|exact rfl|exact subZ_self _|exact Or.inr rfl|exact fun _ _=>rfl|exact fun _ h=>absurd h (Nat.not_lt_zero _)|apply And.intro)
   intro i hi
   conv=>whnf
   refine⟨fun h2=>?_,fun h2=>?_⟩
   ·have h2:i<P.length:=by
     have h:(i:Int)<P.length:=of_decide_eq_true h2
     omega
    have hw1:IntKind.i64.wrap ((i:Int)+1)=((i+1:Nat):Int):=by rw[w64_in _ (by omega)];omega
    obtain⟨r,hr⟩:∃ r,P.getD i default=r:=⟨_,rfl⟩
    have hrl:P[i]? = some r:=by rw[←hr,List.getD,List.getElem?_eq_getElem h2];rfl
    obtain⟨hck,hin⟩:=hP r (List.mem_of_getElem? hrl)
    conv=>whnf
    refine⟨by omega,?_⟩
    conv=>whnf
    rw[Int.toNat_natCast,hr]
    refine .one (.data _ (line_ok r hin) rfl rfl ?_)
    rw[show r.lineV=(r.line,0) by unfold RR.lineV;rw[hck];rfl]
    conv=>whnf
    refine brF (by rfl) ?_
    conv=>whnf
    refine⟨by omega,?_⟩
    conv=>whnf
    have hlr:(P.map RR.line)[(i:Int).toNat]?.getD []=r.line:=by rw[Int.toNat_natCast,List.getElem?_map,hrl];rfl
    rw[hlr]
    refine brF (by simp) ?_
    conv=>whnf
    rw[hw1]
    refine⟨i+1,[0,1,2,3],h2,by omega,?_⟩
    conv=>whnf
    repeat'(first|exact ⟨⟩|exact rfl|exact subZ_self _|exact Or.inr rfl|exact fun _ _=>rfl|exact fun _ h=>absurd h (Nat.not_lt_zero _)|apply And.intro)
   ·conv=>whnf
    repeat'(first|exact ⟨⟩|exact rfl|exact fun _=>Iff.rfl|exact fun _ _=>rfl|exact renM_ent rfl _|apply And.intro)
end Go.Proofs.YtdfdlbnojmlpiaaGreatDoor
