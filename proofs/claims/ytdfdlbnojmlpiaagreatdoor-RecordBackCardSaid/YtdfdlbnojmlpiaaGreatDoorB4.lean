/-
  hardtackref05.SameList, pack.Reader.Left, hardtacklaw05.lives. Conditions: the listed variables (VOk). hardtacklaw05.RecordBack. Conditions: the listed variables (VOk); numbers within their types.
-/
import Derived.Test.YtdfdlbnojmlpiaaGreatDoorB2
import Derived.Test.YtdfdlbnojmlpiaaGreatDoorB1
import Derived.Test.YtdfdlbnojmlpiaaGreatDoorB3
set_option linter.unusedVariables false
set_option linter.unusedSimpArgs false
namespace Go.Proofs.YtdfdlbnojmlpiaaGreatDoor
open Go Go.Eng
set_option maxRecDepth 100000
def eqR (a b:RR):Bool:=a.nm == b.nm && (a.ty == b.ty && (a.cl == b.cl && (a.ttl == b.ttl && (a.d == b.d && true))))
theorem eqR_eq (a b:RR):eqR a b=decide (a=b):=by
 obtain ⟨n,y,c,t,d⟩:=a
 obtain ⟨n',y',c',t',d'⟩:=b
 unfold eqR
 rw [Bool.eq_iff_iff]
 simp
theorem left_ok (r:Rdr) (hr:r.Ok):COk Tryz.prog 35 [.ptr 0 0] [r.kb] (fun s k=>s = .d (.int .i64 (if r.bad then 0 else ((r.s.length - r.p:Nat):Int)))∧k=[r.kb]):=by
 refine cOk_of_run (TT:=TT) (IN:=lookI [(83,Tryz.f83,1)]) TT_ok (INok_cons INok_nil Tryz.func83 (by kernel_rfl) (by kernel_rfl)) mixed 1000 Tryz.func35 rfl (enters Tryz.func35 (by kernel_rfl) rfl) 14 (by kernel_rfl) ?_
 conv=>whnf
 refine ⟨fun hb=>?_,fun hb=>?_⟩
 ·rw [if_pos hb]
  conv=>whnf
  refine ⟨[0],.d (.int .i64 0),[r.kb],rfl,rfl,rfl,?_,rfl,rfl⟩
  repeat' (first | exact True.intro | exact rfl | exact fun _=>Iff.rfl | exact fun _ _=>rfl | exact renM_ent rfl _ | refine And.intro ?_ ?_)
 ·rw [if_neg (by rw [hb]; decide)]
  conv=>whnf
  have hp:IntKind.i64.wrap ((r.s.length:Int) - (r.p:Int))=((r.s.length - r.p:Nat):Int):=by
   have h1:=hr.len
   have h2:=hr.p
   rw [w64_in _ (by omega)]; omega
  refine ⟨[0],.d (.int .i64 (IntKind.i64.wrap ((r.s.length:Int) - (r.p:Int)))),[r.kb],rfl,rfl,rfl,?_,by rw [hp],rfl⟩
  repeat' (first | exact True.intro | exact rfl | exact fun _=>Iff.rfl | exact fun _ _=>rfl | exact renM_ent rfl _ | refine And.intro ?_ ?_)
set_option maxHeartbeats 4000000 in
theorem samel_ok (y z:Bool) (l m:List RR) (hl:l.length≤1000000):FnOk Tryz.prog 22 [.d (rrsD y l),.d (rrsD z m)] (.d (.bool (decide (l=m)))):=by
 refine fnOk_of_run (TT:=TT) (IN:=lookI []) TT_ok INok_nil mixed 1000 Tryz.func22 rfl (enters Tryz.func22 (by kernel_rfl) rfl) rfl 24 (by kernel_rfl) ?_
 conv=>whnf
 by_cases hlen:l.length=m.length
 case neg =>
  rw [decide_eq_false (fun h:l=m=>hlen (by rw [h]))]
  refine brT (by rw [bne_iff_ne]; omega) ?_
  conv=>whnf
  repeat' (first | exact True.intro | exact rfl | exact fun _=>Iff.rfl | exact fun _ _=>rfl | exact renM_ent rfl _ | refine And.intro ?_ ?_)
 refine brF (by rw [bne_eq_false_iff_eq]; omega) ?_
 conv=>whnf
 refine .inv Nat (fun i=>i≤l.length∧∀ j,j<i→l.getD j default=m.getD j default) (fun i=>[(13,iV i)]) (fun _=>[]) (fun i=>l.length - i) ⟨0,[],⟨Nat.zero_le _,fun j hj=>absurd hj (Nat.not_lt_zero _)⟩,?_⟩ ?_
 ·conv=>whnf
  repeat' (first | exact True.intro | exact rfl | exact fun _=>Iff.rfl | exact fun _ _=>rfl | exact renM_ent rfl _ | refine And.intro ?_ ?_)
 intro i hi
 obtain ⟨hi,hj⟩:=hi
 conv=>whnf
 refine ⟨fun h1=>?_,fun h1=>?_⟩
 ·have h1:i<l.length:=by
   have h:(i:Int)<l.length:=of_decide_eq_true h1
   omega
  have hw1:IntKind.i64.wrap ((i:Int)+1)=((i+1:Nat):Int):=by rw [w64_in _ (by omega)]; omega
  conv=>whnf
  refine ⟨by omega,?_⟩
  conv=>whnf
  refine ⟨by omega,?_⟩
  conv=>whnf
  rw [Int.toNat_natCast]
  have hq:=eqR_eq (l.getD i default) (m.getD i default)
  by_cases he:l.getD i default=m.getD i default
  ·rw [decide_eq_true he] at hq
   refine brF (by show (!eqR _ _)=false; rw [hq]; rfl) ?_
   conv=>whnf
   rw [hw1]
   refine ⟨i+1,[],⟨h1,fun j hj'=>?_⟩,by omega,?_⟩
   ·rcases Nat.lt_or_ge j i with h | h
    ·exact hj j h
    ·rw [show j=i by omega]; exact he
   conv=>whnf
   repeat' (first | exact True.intro | exact rfl | exact fun _=>Iff.rfl | exact fun _ _=>rfl | exact renM_ent rfl _ | refine And.intro ?_ ?_)
  ·rw [decide_eq_false he] at hq
   rw [decide_eq_false (fun h:l=m=>he (by rw [h]))]
   refine brT (by show (!eqR _ _)=true; rw [hq]; rfl) ?_
   conv=>whnf
   repeat' (first | exact True.intro | exact rfl | exact fun _=>Iff.rfl | exact fun _ _=>rfl | exact renM_ent rfl _ | refine And.intro ?_ ?_)
 ·have h1:i=l.length:=by
   have h:¬ (i:Int)<l.length:=of_decide_eq_false h1
   omega
  have he:l=m:=by
   apply List.ext_getElem hlen
   intro j h2 h3
   have:=hj j (by omega)
   rwa [List.getD_eq_getElem?_getD,List.getD_eq_getElem?_getD,List.getElem?_eq_getElem h2,List.getElem?_eq_getElem h3] at this
  rw [decide_eq_true he]
  conv=>whnf
  repeat' (first | exact True.intro | exact rfl | exact fun _=>Iff.rfl | exact fun _ _=>rfl | exact renM_ent rfl _ | refine And.intro ?_ ?_)
def lvA:RR:=⟨[1,97,0],2,1,60,[1,66,1,65,0]⟩
def lvB:RR:=⟨[1,65,0],2,1,61,[1,98,1,97,0]⟩
def lvS:List UInt8:=[1,97,0,0,2,0,1,0,0,0,60,0,5,1,66,1,65,0]
def lvT:List UInt8:=[97,46,32,54,48,32,49,32,50,32,48,49,52,50,48,49,52,49,48,48]
def lvU:List UInt8:=[97,46,32,48,54,48,32,49,32,50,32,48,48]
theorem lv_write:((Wr.mk [] 100 false []).record lvA).2=true∧((Wr.mk [] 100 false []).record lvA).1.full=false∧((Wr.mk [] 100 false []).record lvA).1.buf=lvS:=⟨by kernel_rfl,by kernel_rfl,by kernel_rfl⟩
theorem lv_read:(Rdr.mk lvS 0 false).recd.2=(lvA,0):=by kernel_rfl
theorem lvA_check:lvA.check=true:=by kernel_rfl
theorem lvA_in:lvA.In:=⟨by decide,by decide,by decide⟩
theorem lv_line:lvA.line=lvT:=by
 unfold RR.line
 rw [show lvA.ttl.toNat=60 from rfl,show lvA.cl.toNat=1 from rfl,show lvA.ty.toNat=2 from rfl,dig_dec (by decide),dig_dec (by decide),dig_dec (by decide)]
 kernel_rfl
theorem lv_parse:parseR lvT=some lvA:=by rw [←lv_line]; exact parse_line lvA_check lvA_in (by decide)
theorem lv_none:parseR lvU=none:=by
 have h:candR (cutN 5 lvU)=some ⟨[1,97,0],2,1,60,[0]⟩:=by kernel_rfl
 unfold parseR
 rw [h]
 simp only
 rw [if_neg]
 rintro ⟨_,h⟩
 unfold RR.line at h
 rw [show (RR.mk [1,97,0] 2 1 60 [0]).ttl.toNat=60 from rfl,show (RR.mk [1,97,0] 2 1 60 [0]).cl.toNat=1 from rfl,show (RR.mk [1,97,0] 2 1 60 [0]).ty.toNat=2 from rfl,dig_dec (by decide),dig_dec (by decide),dig_dec (by decide)] at h
 exact absurd h (by decide +kernel)
theorem lv_same:sameR lvA lvB=true∧lessR lvA lvB=false∧lessR lvB lvA=true∧(RR.mk [] 0 0 0 []).check=false:=⟨by kernel_rfl,by kernel_rfl,by kernel_rfl,by kernel_rfl⟩
theorem lv_sort:sortRR [lvA,⟨[],0,0,0,[]⟩,lvB]=[lvB,lvA]:=by kernel_rfl
theorem wr100:(Wr.mk [] 100 false []).Ok:=⟨by decide,by decide,.inl rfl,fun e he=>by cases he⟩
set_option maxHeartbeats 16000000 in
theorem rlives_ok:FnOk Tryz.prog 15 [] (.d (.bool true)):=by
 refine fnOk_of_run (TT:=TT) (IN:=lookI []) TT_ok INok_nil mixed 1000 Tryz.func15 rfl (enters Tryz.func15 (by kernel_rfl) rfl) rfl 124 (by kernel_rfl) ?_
 conv=>whnf
 refine .rel _ (new_among (fun _=>rfl) (wnew_ok 100) [_,_] (fun _=>rfl)) (fun x ks' hR=>?_)
 obtain ⟨rfl,rfl⟩:=hR
 conv=>whnf
 repeat (first | (refine brF rfl ?_; conv=>whnf) | (refine brT rfl ?_; conv=>whnf))
 have hrec:=wrec_ok ⟨[],100,false,[]⟩ wr100 lvA (by decide) (by decide) (by decide)
 have hok1:=wr100.record lvA
 obtain ⟨f1,f2,f3⟩:=lv_write
 generalize (Wr.mk [] 100 false []).record lvA=W at hrec hok1 f1 f2 f3
 rw [f1] at hrec
 refine .rel _ (COk.thing Wr.fl hrec [_,_] [] _ rfl rfl) (fun x ks' hR=>?_)
 obtain ⟨_,_,⟨rfl,rfl⟩,rfl,rfl⟩:=hR
 conv=>whnf
 have ho:=out_ok W.1
 rw [if_neg (by rw [f2]; decide),f3] at ho
 refine .rel _ (COk.thing Wr.fl ho [_,_] [] _ rfl rfl) (fun x ks' hR=>?_)
 obtain ⟨_,_,⟨rfl,rfl⟩,rfl,rfl⟩:=hR
 conv=>whnf
 refine .rel _ (new_among (fun _=>rfl) (open_ok lvS) [_,_,_] (fun _=>rfl)) (fun x ks' hR=>?_)
 obtain ⟨rfl,rfl⟩:=hR
 conv=>whnf
 repeat (first | (refine brF rfl ?_; conv=>whnf) | (refine brT rfl ?_; conv=>whnf))
 have hrd:=rrec_ok ⟨lvS,0,false⟩ ⟨by decide,by decide⟩ (by decide)
 rw [lv_read] at hrd
 refine .rel _ (rdr_fam hrd [_,_,_] [] _ rfl rfl) (fun x ks' hR=>?_)
 obtain ⟨_,_,⟨rfl,rfl⟩,rfl,rfl⟩:=hR
 conv=>whnf
 refine .one (.data _ (line_ok lvA lvA_in) rfl rfl ?_)
 rw [show lvA.lineV=(lvT,0) by unfold RR.lineV; rw [lvA_check,lv_line]; rfl]
 conv=>whnf
 refine .one (.data _ (rparse_ok lvT (by decide)) rfl (by rw [lv_parse]; rfl) ?_)
 rw [lv_parse]
 conv=>whnf
 refine .one (.data _ (rparse_ok lvU (by decide)) rfl (by rw [lv_none]; rfl) ?_)
 rw [lv_none]
 conv=>whnf
 obtain ⟨s1,s2,s3,s4⟩:=lv_same
 repeat (first | (refine brF rfl ?_; conv=>whnf) | (refine brT rfl ?_; conv=>whnf))
 refine .data _ (rsame_ok lvA lvB) rfl rfl ?_
 rw [s1]
 conv=>whnf
 repeat (first | (refine brF rfl ?_; conv=>whnf) | (refine brT rfl ?_; conv=>whnf))
 refine .data _ (rless_ok lvA lvB) rfl rfl ?_
 rw [s2]
 conv=>whnf
 repeat (first | (refine brF rfl ?_; conv=>whnf) | (refine brT rfl ?_; conv=>whnf))
 refine .data _ (rless_ok lvB lvA) rfl rfl ?_
 rw [s3]
 conv=>whnf
 repeat (first | (refine brF rfl ?_; conv=>whnf) | (refine brT rfl ?_; conv=>whnf))
 refine .data _ (reccheck_ok ⟨[],0,0,0,[]⟩) rfl rfl ?_
 rw [s4]
 conv=>whnf
 repeat (first | (refine brF rfl ?_; conv=>whnf) | (refine brT rfl ?_; conv=>whnf))
 refine .fresh (r:=.d (rrsD false (sortRR [lvA,⟨[],0,0,0,[]⟩,lvB]))) (as':=[.d (.sl false 3 5 (chunk (lvA.enc++((RR.mk [] 0 0 0 []).enc++lvB.enc)) 5))]) (fr:=[7]) ((rsorts_ok false [lvA,⟨[],0,0,0,[]⟩,lvB] (by decide)).conv ⟨DS.rows fun i hi=>(match i,hi with
  | 0,_=>DSL.refl _
  | 1,_=>DSL.refl _
  | 2,_=>DSL.refl _),trivial⟩) ?_ rfl rfl ?_
 ·conv=>whnf
  exact ⟨rfl,rfl⟩
 rw [lv_sort]
 conv=>whnf
 refine .look (r:=.d (.bool true)) ?_ rfl ?_
 ·conv=>whnf
  have:=samel_ok false false [lvB,lvA] [lvB,lvA] (by decide)
  rw [decide_eq_true rfl] at this
  exact ⟨this.conv ⟨DS.refl _,DS.rows fun i hi=>(match i,hi with
  | 0,_=>DSL.refl _
  | 1,_=>DSL.refl _),trivial⟩,rfl⟩
 conv=>whnf
 repeat' (first | exact True.intro | exact rfl | exact fun _=>Iff.rfl | exact fun _ _=>rfl | exact renM_ent rfl _ | refine And.intro ?_ ?_)
end Go.Proofs.YtdfdlbnojmlpiaaGreatDoor
namespace Go.Proofs.YtdfdlbnojmlpiaaGreatDoor
open Go Go.Eng
set_option maxRecDepth 100000
theorem wr64:(Wr.mk [] 65536 false []).Ok:=⟨by decide,by decide,.inl rfl,fun e he=>by cases he⟩
theorem same_refl {x:RR}:x.same x=true:=decide_eq_true ⟨rfl,rfl,rfl,rfl⟩
theorem same_comm (x y:RR):x.same y=y.same x:=by
 unfold RR.same
 rw [decide_eq_decide]
 constructor <;> rintro ⟨a,b,c,d⟩ <;> exact ⟨a.symm,b.symm,c.symm,d.symm⟩
theorem one_of {x y:RR} (hx:x.check=true) (hy:y.check=true):(if lessR x y then 1 else 0)+(if lessR y x then 1 else 0)+(if decide (x=y) then 1 else 0)=1:=by
 have nx:nameR x:=check_name' hx
 have ny:nameR y:=check_name' hy
 have a1:=cw_ord.anti x y nx ny
 have a2:=cw_ord.anti y x ny nx
 unfold lessR
 rw [hx,hy]
 simp only [Bool.true_and]
 by_cases e:x=y
 ·subst e
  have:=cw_ord.refl x nx
  simp [this]
 ·have:ordR x y≠0:=fun h=>e (ord_zero h)
  by_cases h:ordR x y<0
  ·have:¬ ordR y x<0:=by omega
   simp [h,this,e]
  ·have:ordR y x<0:=by omega
   simp [h,this,e]
set_option maxHeartbeats 16000000 in
theorem rback_ok (x y:RR) (hx:x.In) (hy:y.In):FnOk Tryz.prog 6 [x.V,y.V] (.d (.bool true)):=by
 refine fnOk_of_run (TT:=TT) (IN:=lookI []) TT_ok INok_nil mixed 1000 Tryz.func6 rfl (enters Tryz.func6 (by kernel_rfl) rfl) rfl 134 (by kernel_rfl) ?_
 conv=>whnf
 refine .one (.data _ rlives_ok rfl rfl ?_)
 conv=>whnf
 repeat (first | (refine brF rfl ?_; conv=>whnf) | (refine brT rfl ?_; conv=>whnf))
 refine .rel _ (new_among (fun _=>rfl) (wnew_ok 65536) [_,_] (fun _=>rfl)) (fun z ks' hR=>?_)
 obtain ⟨rfl,rfl⟩:=hR
 conv=>whnf
 repeat (first | (refine brF rfl ?_; conv=>whnf) | (refine brT rfl ?_; conv=>whnf))
 refine .rel _ (COk.thing Wr.fl (wrec_ok ⟨[],65536,false,[]⟩ wr64 x hx.ty hx.cl hx.ttl) [_,_] [] _ rfl rfl) (fun z ks' hR=>?_)
 obtain ⟨_,_,⟨rfl,rfl⟩,rfl,rfl⟩:=hR
 cases hck:x.check with
 | false =>
  have hr:(Wr.mk [] 65536 false []).record x=(⟨[],65536,false,[]⟩,false):=by
   unfold Wr.record
   rw [hck]
   rfl
  rw [hr]
  conv=>whnf
  repeat (first | (refine brF rfl ?_; conv=>whnf) | (refine brT rfl ?_; conv=>whnf))
  refine .one (.data _ (reccheck_ok x) rfl rfl ?_)
  rw [hck]
  conv=>whnf
  repeat (first | (refine brF rfl ?_; conv=>whnf) | (refine brT rfl ?_; conv=>whnf))
  refine .rel _ (COk.thing Wr.fl (wlen_ok ⟨[],65536,false,[]⟩) [_,_] [] _ rfl rfl) (fun z ks' hR=>?_)
  obtain ⟨_,_,⟨rfl,rfl⟩,rfl,rfl⟩:=hR
  conv=>whnf
  repeat' (first | exact True.intro | exact rfl | exact fun _=>Iff.rfl | exact fun _ _=>rfl | exact renM_ent rfl _ | refine And.intro ?_ ?_)
 | true =>
  have hr:=rec_true (w:=⟨[],65536,false,[]⟩) hck
  have hfit:=record_fits (w:=⟨[],65536,false,[]⟩) (r:=x) rfl (by
   have:=nm_len hck
   have:=check_len hck
   show ((0+(x.nm.length+10+x.d.length):Nat):Int)≤65536
   omega)
  obtain ⟨_,_,_,hread⟩:=record_back wr64 (by decide) (fun e he=>by cases he) hck ⟨hx.ty,hx.cl,hx.ttl⟩ hfit
  have hread:=hread _ (List.prefix_refl _)
  have hokW:=wr64.record x
  have hlim:=record_lim ⟨[],65536,false,[]⟩ x
  rw [hr]
  generalize (Wr.mk [] 65536 false []).record x=W at hr hfit hread hokW hlim ⊢
  have hlen:W.1.buf.length≤65536:=by
   have:=hokW.len
   rw [hlim] at this
   rcases this with h | h
   ·omega
   ·exact Int.ofNat_le.1 h
  conv=>whnf
  repeat (first | (refine brF rfl ?_; conv=>whnf) | (refine brT rfl ?_; conv=>whnf))
  have ho:=out_ok W.1
  rw [if_neg (by rw [hfit]; decide)] at ho
  refine .rel _ (COk.thing Wr.fl ho [_,_] [] _ rfl rfl) (fun z ks' hR=>?_)
  obtain ⟨_,_,⟨rfl,rfl⟩,rfl,rfl⟩:=hR
  generalize hbf:W.1.buf=S at hread hlen ⊢
  conv=>whnf
  refine .rel _ (new_among (fun _=>rfl) (open_ok S) [_,_,_] (fun _=>rfl)) (fun z ks' hR=>?_)
  obtain ⟨rfl,rfl⟩:=hR
  conv=>whnf
  repeat (first | (refine brF rfl ?_; conv=>whnf) | (refine brT rfl ?_; conv=>whnf))
  have hrd:=rrec_ok ⟨S,0,false⟩ ⟨by show S.length<_; omega,Nat.zero_le _⟩ (by show S.length<_; omega)
  have hread:(Rdr.mk S 0 false).recd=(⟨S,S.length,false⟩,x,0):=hread
  rw [hread] at hrd
  refine .rel _ (rdr_fam hrd [_,_,_] [] _ rfl rfl) (fun z ks' hR=>?_)
  obtain ⟨_,_,⟨rfl,rfl⟩,rfl,rfl⟩:=hR
  conv=>whnf
  refine .one (.data _ (line_ok x hx) rfl rfl ?_)
  rw [show x.lineV=(x.line,0) by unfold RR.lineV; rw [hck]; rfl]
  conv=>whnf
  have hll:=line_len hck hx
  have hpx:parseR x.line=some x:=parse_line hck hx (check_len hck)
  refine .one (.data _ (rparse_ok x.line (by omega)) rfl (by rw [hpx]; rfl) ?_)
  rw [hpx]
  conv=>whnf
  repeat (first | (refine brF rfl ?_; conv=>whnf) | (refine brT rfl ?_; conv=>whnf))
  have hxx:(!eqR x x)=false:=by rw [eqR_eq,decide_eq_true rfl]; rfl
  refine brF hxx ?_
  conv=>whnf
  repeat (first | (refine brF rfl ?_; conv=>whnf) | (refine brT rfl ?_; conv=>whnf))
  have hlf:=left_ok ⟨S,S.length,false⟩ ⟨by show S.length<_; omega,Nat.le_refl _⟩
  rw [if_neg (show ¬ (false=true) by decide),Nat.sub_self] at hlf
  refine .rel _ (COk.frameX hlf [3] rfl rfl rfl) (fun z ks' hR=>?_)
  obtain ⟨_,_,⟨rfl,rfl⟩,rfl,rfl⟩:=hR
  conv=>whnf
  repeat (first | (refine brF rfl ?_; conv=>whnf) | (refine brT rfl ?_; conv=>whnf))
  refine brF hxx ?_
  conv=>whnf
  repeat (first | (refine brF rfl ?_; conv=>whnf) | (refine brT rfl ?_; conv=>whnf))
  refine .one (.data _ (reccheck_ok y) rfl rfl ?_)
  cases hcy:y.check with
  | false =>
   conv=>whnf
   repeat (first | (refine brF rfl ?_; conv=>whnf) | (refine brT rfl ?_; conv=>whnf))
   refine .one (.data _ (rsame_ok x y) rfl rfl ?_)
   rw [show sameR x y=false by unfold sameR; rw [hck,hcy]; rfl]
   conv=>whnf
   repeat (first | (refine brF rfl ?_; conv=>whnf) | (refine brT rfl ?_; conv=>whnf))
   refine .one (.data _ (rless_ok x y) rfl rfl ?_)
   rw [show lessR x y=false by unfold lessR; rw [hck,hcy]; rfl]
   conv=>whnf
   repeat' (first | exact True.intro | exact rfl | exact fun _=>Iff.rfl | exact fun _ _=>rfl | exact renM_ent rfl _ | refine And.intro ?_ ?_)
  | true =>
   conv=>whnf
   repeat (first | (refine brF rfl ?_; conv=>whnf) | (refine brT rfl ?_; conv=>whnf))
   have hone:=one_of hck hcy
   refine .data _ (rless_ok x y) rfl rfl ?_
   conv=>whnf
   refine .data _ (rless_ok y x) rfl rfl ?_
   conv=>whnf
   rw [show (x.nm == y.nm && (x.ty == y.ty && (x.cl == y.cl && (x.ttl == y.ttl && (x.d == y.d && true)))))=decide (x=y) from eqR_eq x y]
   generalize lessR x y=b1 at hone ⊢
   generalize lessR y x=b2 at hone ⊢
   generalize decide (x=y)=b3 at hone ⊢
   have h1:sameR x x=true:=by unfold sameR; rw [hck,same_refl]; rfl
   have h2:sameR x y=sameR y x:=by unfold sameR; rw [hck,hcy,same_comm]
   cases b1 <;> cases b2 <;> cases b3 <;> simp at hone
   all_goals
    repeat (first | (refine brT rfl ?_; conv=>whnf) | (refine brF rfl ?_; conv=>whnf) | (refine .once ?_; conv=>whnf) | (refine ⟨by decide,?_⟩; conv=>whnf) | (refine And.intro (Nat.le_of_ble_eq_true rfl) ?_; conv=>whnf))
    refine .data _ (rsame_ok x x) rfl rfl ?_
    rw [h1]
    conv=>whnf
    repeat (first | (refine brF rfl ?_; conv=>whnf) | (refine brT rfl ?_; conv=>whnf))
    refine .data _ (rsame_ok x y) rfl rfl ?_
    conv=>whnf
    refine .data _ (rsame_ok y x) rfl rfl ?_
    conv=>whnf
    exact congrArg DV.bool (by rw [h2]; simp)
end Go.Proofs.YtdfdlbnojmlpiaaGreatDoor
