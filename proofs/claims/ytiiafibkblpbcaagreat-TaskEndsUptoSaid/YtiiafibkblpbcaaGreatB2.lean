/-
  Part of the proof: lemmas about the functions that the row calls, and about the steps of a run. Conditions: those ahead of each lemma.
-/
import Derived.Laws.BitsAllLaws
import Derived.Test.YtiiafibkblpbcaaGreatB1
import Derived.Test.YtiiafibkblpbcaaGreatM1
import Derived.Test.YtiiafibkblpbcaaGreatM4
set_option linter.unusedVariables false
set_option linter.unusedSimpArgs false
set_option maxRecDepth 100000
set_option maxHeartbeats 64000000
namespace Go.Proofs.YtiiafibkblpbcaaGreat
open Go Go.Eng
def pickT(l:List (List UInt8 × Int × Th))(key:List UInt8)(kind least now:Int):Option Th:=match fnd l key kind with
 |none=>none
 |some y=>if now<y.til/\least<=y.rk then some y else none
def getT'(l:List (List UInt8 × Int × Th))(nm:List UInt8)(t least now:Int):Option Th:=match pickT l (fold nm) t least now with
 |some y=>some y
 |none=>pickT l (fold nm) 0 least now
def Th.found(y:Th)(now:Int):List SV:=[.d (.str y.nm),.d (.int .u16 y.ty),.d (.int .u32 (if 604800<y.til - now then 604800 else y.til - now)),.d (.sl y.ni y.ln 1 y.dg),.d (.int .u8 y.rk),.d (.bool y.no),.d (.bool y.nb)]
def noFound:List SV:=[.d (.str []),.d (.int .u16 0),.d (.int .u32 0),nilS,.d (.int .u8 0),.d .ff,.d .ff]
def getV(o:Option Th)(now:Int):SV:=match o with
 |some y=>.tup [.agg (y.found now),.d .tt]
 |none=>.tup [.agg noFound,.d .ff]
theorem CSt.Wf.of{c:CSt}(hw:c.Wf){a:List UInt8}{k:Int}{q:Nat}(h:fnd c.m a k=some q):c.dom q/\(c.ni q=true->c.ln q=0)/\c.ln q<=100000/\c.til q<=9223372036854775807:=by
 obtain⟨h1,_,_,h2,h3,h4⟩:=hw.hm _ (fnd_mem h)
 exact⟨h1,h2,h3,h4⟩
def CSt.cutG(c:CSt)(q:Nat):Nat->Nat:=upd c.bh (c.bf q) (c.bh q)
def CSt.cutF(c:CSt)(q:Nat):Nat->Nat:=upd c.bf (c.cutG q q) (c.bf q)
def CSt.useG(c:CSt)(q:Nat):Nat->Nat:=upd (upd (c.cutG q) q (c.cutG q c.r)) (upd (c.cutF q) q c.r q) q
def CSt.useF(c:CSt)(q:Nat):Nat->Nat:=upd (upd (c.cutF q) q c.r) (c.useG q q) q
theorem CSt.Wf.use{c:CSt}(hw:c.Wf){q:Nat}(hqd:c.dom q):(c.ring (c.useF q) (c.useG q)).Wf:=by
 refine hw.ring (fun n hn=>?_) (fun n hn=>?_)
 ·unfold CSt.useF CSt.cutF
  repeat'(first|assumption|exact hw.hr|apply hw.hbf|apply hw.hbh|(refine zq ?_ (fun _=>?_)))
 ·unfold CSt.useG CSt.cutG
  repeat'(first|assumption|exact hw.hr|apply hw.hbf|apply hw.hbh|(refine zq ?_ (fun _=>?_)))
def jv(c:CSt)(key:List UInt8)(kind least now:Int):Option Nat:=match fnd c.m key kind with
 |none=>none
 |some q=>if now<c.til q/\least<=c.rk q then some q else none
def hitQ(c:CSt)(nm:List UInt8)(t least now:Int):Option Nat:=match jv c (fold nm) t least now with
 |some q=>some q
 |none=>jv c (fold nm) 0 least now
def CSt.useO(c:CSt):Option Nat->CSt
 |none=>c
 |some q=>c.ring (c.useF q) (c.useG q)
def GetD(c:CSt)(o:Option Nat)(now:Int)(s:SV)(k:List KB):Prop:=s=getV (o.map c.th) now/\k=(c.useO o).ks 0
theorem get_ok(c:CSt)(hw:c.Wf)(nm:List UInt8)(ty least now:Int)(hnm:nm.length<9223372036854775808)(hn:0<=now) :
 COk Tryz.prog 106 [.ptr 0 0,.d (.str nm),.d (.int .u16 ty),.d (.int .u8 least),.d (.int .i64 now)] (c.ks 0) (GetD c (hitQ c nm ty least now) now):=by
 refine jk (TT:=TT) (IN:=qf [(155,Tryz.f155,1),(165,Tryz.f165,2),(160,Tryz.f160,2),(203,Tryz.f203,1)]) qe (qw (qw (qw (qw qi Tryz.func203 (by kernel_rfl) (by kernel_rfl)) Tryz.func160 (by kernel_rfl) (by kernel_rfl)) Tryz.func165 (by kernel_rfl) (by kernel_rfl)) Tryz.func155 (by kernel_rfl) (by kernel_rfl)) mixed 1000 Tryz.func106 rfl (qh Tryz.func106 (by kernel_rfl) rfl) 80 (by kernel_rfl) ?_
 have hr0:c.r≠0:=zk hw.h0 hw.hr
 conv=>whnf
 refine brF (by simp[hr0]) ?_
 conv=>whnf
 refine brF (by simp;omega) ?_
 conv=>whnf
 refine .once ?_
 conv=>whnf
 refine brT rfl ?_
 conv=>whnf
 refine⟨by decide,?_⟩
 conv=>whnf
 refine .data _ (qg7 _ _ hnm) rfl rfl ?_
 conv=>whnf
 refine⟨_,(qi3 1 c.m (fold nm) _),?_⟩
 rcases hq:fnd c.m (fold nm) ty with _|q
 ·rw[show(fnd c.m (fold nm) (zc [ty,0] 0))=none from hq]
  have hp1:jv c (fold nm) ty least now=none:=by simp[jv,hq]
  clear hq
  conv=>whnf
  refine .once ?_
  conv=>whnf
  refine brT rfl ?_
  conv=>whnf
  refine⟨by decide,?_⟩
  conv=>whnf
  refine .data _ (qg7 _ _ hnm) rfl rfl ?_
  conv=>whnf
  refine⟨_,(qi3 1 c.m (fold nm) _),?_⟩
  rcases hq:fnd c.m (fold nm) 0 with _|q
  ·rw[show(fnd c.m (fold nm) (zc [ty,0] (IntKind.i64.wrap (0+1))))=none from hq]
   have hpk:hitQ c nm ty least now=none:=by simp only[hitQ,hp1];simp[jv,hq]
   conv=>whnf
   refine .once ?_
   conv=>whnf
   refine brF rfl ?_
   conv=>whnf
   refine⟨[0,1,2],getV none now,c.ks 0,rfl,rfl,rfl,?_,?_⟩
   ·repeat'(first|exact ⟨⟩|exact rfl|exact fun _=>Iff.rfl|exact fun _ _=>rfl|exact qa rfl _|apply And.intro)
   ·rw[hpk];exact⟨rfl,rfl⟩
  ·rw[show(fnd c.m (fold nm) (zc [ty,0] (IntKind.i64.wrap (0+1))))=some q from hq]
   obtain⟨hqd,hqn,hql,hqt⟩:=hw.of hq
   have hq0:=zk hw.h0 hqd
   conv=>whnf
   refine⟨hqd,?_⟩
   conv=>whnf
   refine oD (qh3 _ _ _ _ _ _ _ _ _) rfl rfl ?_
   conv=>whnf
   refine⟨fun h4=>?_,fun h4=>?_⟩
   ·have hpk:hitQ c nm ty least now=none:=by
     simp only[hitQ,hp1]
     simp only[jv,hq]
     rw [if_neg (fun e=>by simp [show now<c.til q from e.1] at h4)]
    conv=>whnf
    refine .once ?_
    conv=>whnf
    refine brF rfl ?_
    conv=>whnf
    refine⟨[0,1,2],getV none now,c.ks 0,rfl,rfl,rfl,?_,?_⟩
    ·repeat'(first|exact ⟨⟩|exact rfl|exact fun _=>Iff.rfl|exact fun _ _=>rfl|exact qa rfl _|apply And.intro)
    ·rw[hpk];exact⟨rfl,rfl⟩
   ·conv=>whnf
    refine⟨hqd,?_⟩
    conv=>whnf
    refine⟨fun h5=>?_,fun h5=>?_⟩
    ·have hpk:hitQ c nm ty least now=none:=by
      simp only[hitQ,hp1]
      simp only[jv,hq]
      rw[if_neg (fun e=>by have:=of_decide_eq_true h5;have:=show least<=c.rk q from e.2;omega)]
     conv=>whnf
     refine .once ?_
     conv=>whnf
     refine brF rfl ?_
     conv=>whnf
     refine⟨[0,1,2],getV none now,c.ks 0,rfl,rfl,rfl,?_,?_⟩
     ·repeat'(first|exact ⟨⟩|exact rfl|exact fun _=>Iff.rfl|exact fun _ _=>rfl|exact qa rfl _|apply And.intro)
     ·rw[hpk];exact⟨rfl,rfl⟩
    conv=>whnf
    have hpk:hitQ c nm ty least now=some q:=by
     simp only[hitQ,hp1]
     simp only[jv,hq]
     rw[if_pos ⟨show now<c.til q by simpa using h4,show least<=c.rk q by have:=of_decide_eq_false h5;omega⟩]
    repeat(refine And.intro (by first|exact hr0|exact hw.hr|exact hqd|exact hq0|(repeat'(first|assumption|exact hw.hr|apply hw.hbf|apply hw.hbh|(refine zq ?_ (fun _=>?_))|exact zk hw.h0 (by repeat'(first|assumption|exact hw.hr|apply hw.hbf|apply hw.hbh|(refine zq ?_ (fun _=>?_))))))) ?_;conv=>whnf)
    refine oD (qb7 _ _ _ _ _ _ _ _ _ _ hqn (by omega)) rfl rfl ?_
    conv=>whnf
    refine⟨hqd,?_⟩
    conv=>whnf
    have h4':now<c.til q:=of_decide_eq_true (by simpa using h4)
    have hsub:IntKind.i64.wrap (c.til q - now)=c.til q - now:=qn _ (by have:c.til q<=9223372036854775807:=hqt;omega)
    have hu:IntKind.u32.wrap (if (604800:Int)<IntKind.i64.wrap (c.til q - now) then 604800 else IntKind.i64.wrap (c.til q - now))=if 604800<c.til q - now then 604800 else c.til q - now:=by
     rw[hsub,IntKind.wrap_u32]
     split <;> omega
    refine⟨[0,1,2],getV (some (c.th q)) now,(c.ring (c.useF q) (c.useG q)).ks 0,rfl,rfl,?_,?_,?_⟩
    ·show SV.tup _=SV.tup _
     rw[hu]
     rfl
    ·repeat'(first|exact ⟨⟩|exact rfl|exact fun _=>Iff.rfl|exact fun _ _=>rfl|exact qa rfl _|apply And.intro)
    ·rw[hpk];exact⟨rfl,rfl⟩
 ·rw[show(fnd c.m (fold nm) (zc [ty,0] 0))=some q from hq]
  obtain⟨hqd,hqn,hql,hqt⟩:=hw.of hq
  have hq0:=zk hw.h0 hqd
  conv=>whnf
  refine⟨hqd,?_⟩
  conv=>whnf
  refine oD (qh3 _ _ _ _ _ _ _ _ _) rfl rfl ?_
  conv=>whnf
  refine⟨fun h4=>?_,fun h4=>?_⟩
  ·have hp1:jv c (fold nm) ty least now=none:=by
    simp only[jv,hq]
    rw [if_neg (fun e=>by simp [show now<c.til q from e.1] at h4)]
   clear hq hqd hqn hql hqt hq0 h4
   conv=>whnf
   refine .once ?_
   conv=>whnf
   refine brT rfl ?_
   conv=>whnf
   refine⟨by decide,?_⟩
   conv=>whnf
   refine .data _ (qg7 _ _ hnm) rfl rfl ?_
   conv=>whnf
   refine⟨_,(qi3 1 c.m (fold nm) _),?_⟩
   rcases hq:fnd c.m (fold nm) 0 with _|q
   ·rw[show(fnd c.m (fold nm) (zc [ty,0] (IntKind.i64.wrap (0+1))))=none from hq]
    have hpk:hitQ c nm ty least now=none:=by simp only[hitQ,hp1];simp[jv,hq]
    conv=>whnf
    refine .once ?_
    conv=>whnf
    refine brF rfl ?_
    conv=>whnf
    refine⟨[0,1,2],getV none now,c.ks 0,rfl,rfl,rfl,?_,?_⟩
    ·repeat'(first|exact ⟨⟩|exact rfl|exact fun _=>Iff.rfl|exact fun _ _=>rfl|exact qa rfl _|apply And.intro)
    ·rw[hpk];exact⟨rfl,rfl⟩
   ·rw[show(fnd c.m (fold nm) (zc [ty,0] (IntKind.i64.wrap (0+1))))=some q from hq]
    obtain⟨hqd,hqn,hql,hqt⟩:=hw.of hq
    have hq0:=zk hw.h0 hqd
    conv=>whnf
    refine⟨hqd,?_⟩
    conv=>whnf
    refine oD (qh3 _ _ _ _ _ _ _ _ _) rfl rfl ?_
    conv=>whnf
    refine⟨fun h4=>?_,fun h4=>?_⟩
    ·have hpk:hitQ c nm ty least now=none:=by
      simp only[hitQ,hp1]
      simp only[jv,hq]
      rw [if_neg (fun e=>by simp [show now<c.til q from e.1] at h4)]
     conv=>whnf
     refine .once ?_
     conv=>whnf
     refine brF rfl ?_
     conv=>whnf
     refine⟨[0,1,2],getV none now,c.ks 0,rfl,rfl,rfl,?_,?_⟩
     ·repeat'(first|exact ⟨⟩|exact rfl|exact fun _=>Iff.rfl|exact fun _ _=>rfl|exact qa rfl _|apply And.intro)
     ·rw[hpk];exact⟨rfl,rfl⟩
    ·conv=>whnf
     refine⟨hqd,?_⟩
     conv=>whnf
     refine⟨fun h5=>?_,fun h5=>?_⟩
     ·have hpk:hitQ c nm ty least now=none:=by
       simp only[hitQ,hp1]
       simp only[jv,hq]
       rw[if_neg (fun e=>by have:=of_decide_eq_true h5;have:=show least<=c.rk q from e.2;omega)]
      conv=>whnf
      refine .once ?_
      conv=>whnf
      refine brF rfl ?_
      conv=>whnf
      refine⟨[0,1,2],getV none now,c.ks 0,rfl,rfl,rfl,?_,?_⟩
      ·repeat'(first|exact ⟨⟩|exact rfl|exact fun _=>Iff.rfl|exact fun _ _=>rfl|exact qa rfl _|apply And.intro)
      ·rw[hpk];exact⟨rfl,rfl⟩
     conv=>whnf
     have hpk:hitQ c nm ty least now=some q:=by
      simp only[hitQ,hp1]
      simp only[jv,hq]
      rw[if_pos ⟨show now<c.til q by simpa using h4,show least<=c.rk q by have:=of_decide_eq_false h5;omega⟩]
     repeat(refine And.intro (by first|exact hr0|exact hw.hr|exact hqd|exact hq0|(repeat'(first|assumption|exact hw.hr|apply hw.hbf|apply hw.hbh|(refine zq ?_ (fun _=>?_))|exact zk hw.h0 (by repeat'(first|assumption|exact hw.hr|apply hw.hbf|apply hw.hbh|(refine zq ?_ (fun _=>?_))))))) ?_;conv=>whnf)
     refine oD (qb7 _ _ _ _ _ _ _ _ _ _ hqn (by omega)) rfl rfl ?_
     conv=>whnf
     refine⟨hqd,?_⟩
     conv=>whnf
     have h4':now<c.til q:=of_decide_eq_true (by simpa using h4)
     have hsub:IntKind.i64.wrap (c.til q - now)=c.til q - now:=qn _ (by have:c.til q<=9223372036854775807:=hqt;omega)
     have hu:IntKind.u32.wrap (if (604800:Int)<IntKind.i64.wrap (c.til q - now) then 604800 else IntKind.i64.wrap (c.til q - now))=if 604800<c.til q - now then 604800 else c.til q - now:=by
      rw[hsub,IntKind.wrap_u32]
      split <;> omega
     refine⟨[0,1,2],getV (some (c.th q)) now,(c.ring (c.useF q) (c.useG q)).ks 0,rfl,rfl,?_,?_,?_⟩
     ·show SV.tup _=SV.tup _
      rw[hu]
      rfl
     ·repeat'(first|exact ⟨⟩|exact rfl|exact fun _=>Iff.rfl|exact fun _ _=>rfl|exact qa rfl _|apply And.intro)
     ·rw[hpk];exact⟨rfl,rfl⟩
  ·conv=>whnf
   refine⟨hqd,?_⟩
   conv=>whnf
   refine⟨fun h5=>?_,fun h5=>?_⟩
   ·have hp1:jv c (fold nm) ty least now=none:=by
     simp only[jv,hq]
     rw[if_neg (fun e=>by have:=of_decide_eq_true h5;have:=show least<=c.rk q from e.2;omega)]
    clear hq hqd hqn hql hqt hq0 h4 h5
    conv=>whnf
    refine .once ?_
    conv=>whnf
    refine brT rfl ?_
    conv=>whnf
    refine⟨by decide,?_⟩
    conv=>whnf
    refine .data _ (qg7 _ _ hnm) rfl rfl ?_
    conv=>whnf
    refine⟨_,(qi3 1 c.m (fold nm) _),?_⟩
    rcases hq:fnd c.m (fold nm) 0 with _|q
    ·rw[show(fnd c.m (fold nm) (zc [ty,0] (IntKind.i64.wrap (0+1))))=none from hq]
     have hpk:hitQ c nm ty least now=none:=by simp only[hitQ,hp1];simp[jv,hq]
     conv=>whnf
     refine .once ?_
     conv=>whnf
     refine brF rfl ?_
     conv=>whnf
     refine⟨[0,1,2],getV none now,c.ks 0,rfl,rfl,rfl,?_,?_⟩
     ·repeat'(first|exact ⟨⟩|exact rfl|exact fun _=>Iff.rfl|exact fun _ _=>rfl|exact qa rfl _|apply And.intro)
     ·rw[hpk];exact⟨rfl,rfl⟩
    ·rw[show(fnd c.m (fold nm) (zc [ty,0] (IntKind.i64.wrap (0+1))))=some q from hq]
     obtain⟨hqd,hqn,hql,hqt⟩:=hw.of hq
     have hq0:=zk hw.h0 hqd
     conv=>whnf
     refine⟨hqd,?_⟩
     conv=>whnf
     refine oD (qh3 _ _ _ _ _ _ _ _ _) rfl rfl ?_
     conv=>whnf
     refine⟨fun h4=>?_,fun h4=>?_⟩
     ·have hpk:hitQ c nm ty least now=none:=by
       simp only[hitQ,hp1]
       simp only[jv,hq]
       rw [if_neg (fun e=>by simp [show now<c.til q from e.1] at h4)]
      conv=>whnf
      refine .once ?_
      conv=>whnf
      refine brF rfl ?_
      conv=>whnf
      refine⟨[0,1,2],getV none now,c.ks 0,rfl,rfl,rfl,?_,?_⟩
      ·repeat'(first|exact ⟨⟩|exact rfl|exact fun _=>Iff.rfl|exact fun _ _=>rfl|exact qa rfl _|apply And.intro)
      ·rw[hpk];exact⟨rfl,rfl⟩
     ·conv=>whnf
      refine⟨hqd,?_⟩
      conv=>whnf
      refine⟨fun h5=>?_,fun h5=>?_⟩
      ·have hpk:hitQ c nm ty least now=none:=by
        simp only[hitQ,hp1]
        simp only[jv,hq]
        rw[if_neg (fun e=>by have:=of_decide_eq_true h5;have:=show least<=c.rk q from e.2;omega)]
       conv=>whnf
       refine .once ?_
       conv=>whnf
       refine brF rfl ?_
       conv=>whnf
       refine⟨[0,1,2],getV none now,c.ks 0,rfl,rfl,rfl,?_,?_⟩
       ·repeat'(first|exact ⟨⟩|exact rfl|exact fun _=>Iff.rfl|exact fun _ _=>rfl|exact qa rfl _|apply And.intro)
       ·rw[hpk];exact⟨rfl,rfl⟩
      conv=>whnf
      have hpk:hitQ c nm ty least now=some q:=by
       simp only[hitQ,hp1]
       simp only[jv,hq]
       rw[if_pos ⟨show now<c.til q by simpa using h4,show least<=c.rk q by have:=of_decide_eq_false h5;omega⟩]
      repeat(refine And.intro (by first|exact hr0|exact hw.hr|exact hqd|exact hq0|(repeat'(first|assumption|exact hw.hr|apply hw.hbf|apply hw.hbh|(refine zq ?_ (fun _=>?_))|exact zk hw.h0 (by repeat'(first|assumption|exact hw.hr|apply hw.hbf|apply hw.hbh|(refine zq ?_ (fun _=>?_))))))) ?_;conv=>whnf)
      refine oD (qb7 _ _ _ _ _ _ _ _ _ _ hqn (by omega)) rfl rfl ?_
      conv=>whnf
      refine⟨hqd,?_⟩
      conv=>whnf
      have h4':now<c.til q:=of_decide_eq_true (by simpa using h4)
      have hsub:IntKind.i64.wrap (c.til q - now)=c.til q - now:=qn _ (by have:c.til q<=9223372036854775807:=hqt;omega)
      have hu:IntKind.u32.wrap (if (604800:Int)<IntKind.i64.wrap (c.til q - now) then 604800 else IntKind.i64.wrap (c.til q - now))=if 604800<c.til q - now then 604800 else c.til q - now:=by
       rw[hsub,IntKind.wrap_u32]
       split <;> omega
      refine⟨[0,1,2],getV (some (c.th q)) now,(c.ring (c.useF q) (c.useG q)).ks 0,rfl,rfl,?_,?_,?_⟩
      ·show SV.tup _=SV.tup _
       rw[hu]
       rfl
      ·repeat'(first|exact ⟨⟩|exact rfl|exact fun _=>Iff.rfl|exact fun _ _=>rfl|exact qa rfl _|apply And.intro)
      ·rw[hpk];exact⟨rfl,rfl⟩
   conv=>whnf
   have hpk:hitQ c nm ty least now=some q:=by
    have:jv c (fold nm) ty least now=some q:=by
     simp only[jv,hq]
     rw[if_pos ⟨show now<c.til q by simpa using h4,show least<=c.rk q by have:=of_decide_eq_false h5;omega⟩]
    simp only[hitQ,this]
   repeat(refine And.intro (by first|exact hr0|exact hw.hr|exact hqd|exact hq0|(repeat'(first|assumption|exact hw.hr|apply hw.hbf|apply hw.hbh|(refine zq ?_ (fun _=>?_))|exact zk hw.h0 (by repeat'(first|assumption|exact hw.hr|apply hw.hbf|apply hw.hbh|(refine zq ?_ (fun _=>?_))))))) ?_;conv=>whnf)
   refine oD (qb7 _ _ _ _ _ _ _ _ _ _ hqn (by omega)) rfl rfl ?_
   conv=>whnf
   refine⟨hqd,?_⟩
   conv=>whnf
   have h4':now<c.til q:=of_decide_eq_true (by simpa using h4)
   have hsub:IntKind.i64.wrap (c.til q - now)=c.til q - now:=qn _ (by have:c.til q<=9223372036854775807:=hqt;omega)
   have hu:IntKind.u32.wrap (if (604800:Int)<IntKind.i64.wrap (c.til q - now) then 604800 else IntKind.i64.wrap (c.til q - now))=if 604800<c.til q - now then 604800 else c.til q - now:=by
    rw[hsub,IntKind.wrap_u32]
    split <;> omega
   refine⟨[0,1,2],getV (some (c.th q)) now,(c.ring (c.useF q) (c.useG q)).ks 0,rfl,rfl,?_,?_,?_⟩
   ·show SV.tup _=SV.tup _
    rw[hu]
    rfl
   ·repeat'(first|exact ⟨⟩|exact rfl|exact fun _=>Iff.rfl|exact fun _ _=>rfl|exact qa rfl _|apply And.intro)
   ·rw[hpk];exact⟨rfl,rfl⟩
theorem hit_abs(c:CSt)(nm:List UInt8)(t least now:Int):(hitQ c nm t least now).map c.th=getT' c.abs nm t least now:=by
 have h:∀ k,(jv c (fold nm) k least now).map c.th=pickT c.abs (fold nm) k least now:=fun k=>by
  unfold jv pickT
  rw[show fnd c.abs (fold nm) k=(fnd c.m (fold nm) k).map c.th from fnd_abs _ _ _ _]
  cases fnd c.m (fold nm) k with
  |none=>rfl
  |some q =>
   show Option.map c.th (if now<c.til q/\least<=c.rk q then some q else none)=if now<c.til q/\least<=c.rk q then some (c.th q) else none
   by_cases h:now<c.til q/\least<=c.rk q
   ·rw[if_pos h,if_pos h];rfl
   ·rw[if_neg h,if_neg h];rfl
 unfold hitQ getT'
 rw[<-h t,<-h 0]
 cases jv c (fold nm) t least now <;> rfl
theorem hit_dom{c:CSt}(hw:c.Wf){nm:List UInt8}{t least now:Int}{q:Nat}(h:hitQ c nm t least now=some q):c.dom q:=by
 have hp:∀ k,jv c (fold nm) k least now=some q->c.dom q:=fun k hk=>by
  unfold jv at hk
  split at hk
  ·cases hk
  ·rename_i x hx
   split at hk
   ·cases hk;exact(hw.of hx).1
   ·cases hk
 unfold hitQ at h
 split at h
 ·rename_i x hx
  cases h
  exact hp _ hx
 ·exact hp _ h
theorem CSt.Wf.useO{c:CSt}(hw:c.Wf){nm:List UInt8}{t least now:Int}:(c.useO (hitQ c nm t least now)).Wf:=by
 cases h:hitQ c nm t least now with
 |none=>exact hw
 |some q=>exact hw.use (hit_dom hw h)
def atP(a:List UInt8)(k:Int)(y:Held):Bool:=decide (fold y.nm=a/\y.ty=k)
structure Kn(c:CSt)(H:List Held):Prop where
 wf:c.Wf
 look:∀ a k,fnd c.abs a k=(H.find? (atP a k)).map Held.th
 rep:∃ L H1,c.Rep L H1/\H1.Perm H
 room:9<=c.room
theorem qu3{α β:Type}(f:α->β)(p:α->Bool)(q:β->Bool):∀ l:List α,(∀ x ∈ l,p x=q (f x))->(l.find? p).map f=(l.map f).find? q
 |[],_=>rfl
 |x :: l,h=>by
  rw[List.find?_cons,List.map_cons,List.find?_cons,<-h x (List.mem_cons_self ..)]
  cases p x
  ·exact qu3 f p q l fun y hy=>h y (List.mem_cons_of_mem _ hy)
  ·rfl
theorem CSt.Rep.knl{c:CSt}{L:List Nat}{H:List Held}(hr:c.Rep L H)(a:List UInt8)(k:Int):fnd c.abs a k=(H.find? (atP a k)).map Held.th:=by
 rw[show fnd c.abs a k=(fnd c.m a k).map c.th from fnd_abs _ _ _ _,hr.map,qu3 c.th _ (fun t=>decide (fold t.nm=a/\t.ty=k)) L (fun q hq=>by obtain⟨_,d2,d3⟩:=hr.dom q hq;rw[d2,d3];rfl),hr.th,qu3 Held.th (atP a k) (fun t=>decide (fold t.nm=a/\t.ty=k)) H (fun y _=>rfl)]
theorem CSt.Rep.kn{c:CSt}{L:List Nat}{H:List Held}(hr:c.Rep L H)(hm:9<=c.room):Kn c H:=⟨hr.wf,hr.knl,⟨L,H,hr,List.Perm.refl _⟩,hm⟩
def pkH(H:List Held)(a:List UInt8)(k least now:Int):Option Held:=match H.find? (atP a k) with
 |none=>none
 |some y=>if now<y.til/\least<=y.rank then some y else none
def getH(H:List Held)(nm:List UInt8)(t least now:Int):Option Held:=if now<0 then none else match pkH H (fold nm) t least now with
 |some y=>some y
 |none=>pkH H (fold nm) 0 least now
def jj(y:Held)(now:Int):Int:=if 604800<y.til - now then 604800 else y.til - now
def getHV(o:Option Held)(now:Int):SV:=match o with
 |some y=>.tup [.agg [.d (.str y.nm),.d (.int .u16 y.ty),.d (.int .u32 (jj y now)),.d (.sl y.z y.data.length 1 (strs y.data)),.d (.int .u8 y.rank),.d (.bool y.no),.d (.bool y.name)],.d .tt]
 |none=>.tup [.agg noFound,.d .ff]
theorem pk_kn{c:CSt}{H:List Held}(hk:Kn c H)(a:List UInt8)(k least now:Int):pickT c.abs a k least now=(pkH H a k least now).map Held.th:=by
 unfold pickT pkH
 rw[hk.look]
 cases H.find? (atP a k) with
 |none=>rfl
 |some y =>
  show(if now<y.til/\least<=y.rank then _ else _)=_
  by_cases h:now<y.til/\least<=y.rank
  ·simp only[if_pos h];rfl
  ·simp only[if_neg h];rfl
theorem get_kn{c:CSt}{H:List Held}(hk:Kn c H)(nm:List UInt8)(t least now:Int)(hn:0<=now):getT' c.abs nm t least now=(getH H nm t least now).map Held.th:=by
 unfold getT' getH
 rw[if_neg (by omega),pk_kn hk,pk_kn hk]
 cases pkH H (fold nm) t least now <;> rfl
theorem get0_ok(c:CSt)(hw:c.Wf)(nm:List UInt8)(ty least now:Int)(hn:now<0) :
 COk Tryz.prog 106 [.ptr 0 0,.d (.str nm),.d (.int .u16 ty),.d (.int .u8 least),.d (.int .i64 now)] (c.ks 0) (fun s k=>s=getV none now/\k=c.ks 0):=by
 refine jk (TT:=TT) (IN:=qf [(155,Tryz.f155,1),(165,Tryz.f165,2),(160,Tryz.f160,2),(203,Tryz.f203,1)]) qe (qw (qw (qw (qw qi Tryz.func203 (by kernel_rfl) (by kernel_rfl)) Tryz.func160 (by kernel_rfl) (by kernel_rfl)) Tryz.func165 (by kernel_rfl) (by kernel_rfl)) Tryz.func155 (by kernel_rfl) (by kernel_rfl)) mixed 1000 Tryz.func106 rfl (qh Tryz.func106 (by kernel_rfl) rfl) 80 (by kernel_rfl) ?_
 have hr0:c.r≠0:=zk hw.h0 hw.hr
 conv=>whnf
 refine brF (by simp[hr0]) ?_
 conv=>whnf
 refine brT (by simp;omega) ?_
 conv=>whnf
 refine⟨[0,1,2],getV none now,c.ks 0,rfl,rfl,rfl,?_,rfl,rfl⟩
 repeat'(first|exact ⟨⟩|exact rfl|exact fun _=>Iff.rfl|exact fun _ _=>rfl|exact qa rfl _|apply And.intro)
theorem find_front{α:Type}{p:α->Bool}{q:α}{A B:List α}(h:p q=true->∀ x ∈ A,p x=false):(A++q :: B).find? p=(q :: (A++B)).find? p:=by
 rw[List.find?_append,List.find?_cons,List.find?_cons]
 cases hq:p q with
 |false=>simp only[List.find?_append]
 |true =>
  rw[List.find?_eq_none.2 fun x hx=>by rw[h hq x hx];decide]
  rfl
theorem upd_upd{α:Type}(f:Nat->α)(p:Nat)(a b:α):upd (upd f p a) p b=upd f p b:=by
 funext j
 by_cases h:j=p
 ·subst h;rw[qm,qm]
 ·rw[ql _ _ h,ql _ _ h,ql _ _ h]
theorem CSt.Rep.use{c:CSt}{A B:List Nat}{q:Nat}{HA HB:List Held}{y:Held}(hr:c.Rep (A++q :: B) (HA++y :: HB))(hA:A.map c.th=HA.map Held.th)(hq:c.th q=y.th)(hB:B.map c.th=HB.map Held.th) :
 (c.ring (c.useF q) (c.useG q)).Rep (q :: (A++B)) (y :: (HA++HB)):=by
 have hqL:q ∈ A++q :: B:=by simp
 have hmem:∀ x,x ∈ q :: (A++B)↔x ∈ A++q :: B:=fun x=>List.perm_middle.mem_iff.symm
 have hmH:∀ x,x ∈ y :: (HA++HB)↔x ∈ HA++y :: HB:=fun x=>List.perm_middle.mem_iff.symm
 refine⟨hr.wf.use (hr.dom q hqL).1,?_,fun x hx=>hr.dom x ((hmem x).1 hx),?_,fun a k=>?_,?_,?_,fun x hx=>hr.good x ((hmH x).1 hx)⟩
 ·have h1:=hr.ring.cut
  have hnd:=hr.ring.nd
  have hqr:q≠c.r:=fun e=>by
   rw [List.nodup_cons] at hnd
   exact hnd.1 (e ▸ hqL)
  have hqn:q ∉ c.r :: (A++B):=fun hm=>by
   rcases List.mem_cons.1 hm with e|hm
   ·exact hqr e
   ·rw [List.nodup_cons,List.nodup_append,List.nodup_cons] at hnd
    rcases List.mem_append.1 hm with hm|hm
    ·exact hnd.2.2.2 q hm q (by simp) rfl
    ·exact hnd.2.2.1.1 hm
  have h2:=h1.ins hqn
  simp only [upd_upd] at h2
  rw [ql (upd c.bh (c.bf q) (c.bh q)) (i:=q) (j:=c.r) 0 (Ne.symm hqr)] at h2
  exact h2
 ·show(q :: (A++B)).map c.th=_
  rw[List.map_cons,List.map_append,List.map_cons,List.map_append,hA,hB,hq]
 ·show fnd c.m a k=(q :: (A++B)).find? (fun q=>decide (c.an q=a/\c.ak q=k))
  rw[hr.map,find_front]
  intro hp x hx
  have hp:c.an q=a/\c.ak q=k:=of_decide_eq_true hp
  rw[decide_eq_false_iff_not]
  intro hpx
  have hd:=hr.dist
  rw [List.pairwise_append] at hd
  have:c.th x ∈ HA.map Held.th:=by rw[<-hA];exact List.mem_map_of_mem hx
  obtain⟨z,hz,hzt⟩:=List.mem_map.1 this
  have h3:=hd.2.2 z hz y (List.mem_cons_self ..)
  obtain⟨_,d2,d3⟩:=hr.dom q hqL
  obtain⟨_,e2,e3⟩:=hr.dom x (List.mem_append_left _ hx)
  unfold plEq at h3
  rw [decide_eq_false_iff_not] at h3
  have n1:z.nm=c.nm x:=congrArg Th.nm hzt
  have n2:z.ty=c.ty x:=congrArg Th.ty hzt
  have n3:c.nm q=y.nm:=congrArg Th.nm hq
  have n4:c.ty q=y.ty:=congrArg Th.ty hq
  exact h3 ⟨by rw[n1,<-n3,<-d2,<-e2,hp.1,hpx.1],by rw[n2,<-n4,<-d3,<-e3,hp.2,hpx.2]⟩
 ·show c.m.length<=(q :: (A++B)).length
  have:=hr.len
  simp only [List.length_append,List.length_cons] at this ⊢
  omega
 ·have hd:=hr.dist
  rw [List.pairwise_append,List.pairwise_cons] at hd
  obtain⟨p1,⟨p2,p3⟩,p4⟩:=hd
  rw[List.pairwise_cons,List.pairwise_append]
  refine⟨fun x hx=>?_,p1,p3,fun a ha b hb=>p4 a ha b (List.mem_cons_of_mem _ hb)⟩
  rcases List.mem_append.1 hx with hx|hx
  ·have:=p4 x hx y (List.mem_cons_self ..)
   unfold plEq at this ⊢
   rw [decide_eq_false_iff_not] at this ⊢
   exact fun e=>this ⟨e.1.symm,e.2.symm⟩
  ·exact p2 x hx
theorem hit_fnd{c:CSt}{nm:List UInt8}{t least now:Int}{q:Nat}(h:hitQ c nm t least now=some q):∃ a k,fnd c.m a k=some q:=by
 have hp:∀ k,jv c (fold nm) k least now=some q->∃ a k,fnd c.m a k=some q:=fun k hk=>by
  unfold jv at hk
  split at hk
  ·cases hk
  ·rename_i x hx
   split at hk
   ·cases hk;exact⟨_,_,hx⟩
   ·cases hk
 unfold hitQ at h
 split at h
 ·rename_i x hx
  cases h
  exact hp _ hx
 ·exact hp _ h
theorem CSt.Rep.useO{c:CSt}{L:List Nat}{H:List Held}(hr:c.Rep L H)(nm:List UInt8)(t least now:Int):∃ L1 H1,(c.useO (hitQ c nm t least now)).Rep L1 H1/\H1.Perm H:=by
 cases h:hitQ c nm t least now with
 |none=>exact⟨L,H,hr,List.Perm.refl _⟩
 |some q =>
  obtain⟨a,k,hf⟩:=hit_fnd h
  rw [hr.map] at hf
  obtain⟨A,B,rfl⟩:=List.append_of_mem (List.mem_of_find?_eq_some hf)
  have ht:=hr.th
  rw [List.map_append,List.map_cons] at ht
  obtain⟨HA,T,rfl,t1,t2⟩:=List.append_eq_map_iff.1 ht
  obtain⟨y,HB,rfl,t3,t4⟩:=List.map_eq_cons_iff.1 t2
  exact⟨_,_,hr.use t1.symm t3.symm t4.symm,List.perm_middle.symm⟩
def getS(c:CSt)(nm:List UInt8)(t least now:Int):CSt:=if now<0 then c else c.useO (hitQ c nm t least now)
theorem Kn.get{c:CSt}{H:List Held}(hk:Kn c H)(nm:List UInt8)(t least now:Int):Kn (getS c nm t least now) H:=by
 unfold getS
 split
 ·exact hk
 ·refine⟨hk.wf.useO,fun a k=>?_,?_,by have:=hk.room;cases hitQ c nm t least now <;> exact this⟩
  ·rw[<-hk.look a k]
   cases hitQ c nm t least now <;> rfl
  ·obtain⟨L,H1,hr,hp⟩:=hk.rep
   obtain⟨L2,H2,hr2,hp2⟩:=hr.useO nm t least now
   exact⟨L2,H2,hr2,hp2.trans hp⟩
theorem get2_ok(c:CSt)(H:List Held)(hk:Kn c H)(nm:List UInt8)(ty least now:Int)(hnm:nm.length<9223372036854775808) :
 COk Tryz.prog 106 [.ptr 0 0,.d (.str nm),.d (.int .u16 ty),.d (.int .u8 least),.d (.int .i64 now)] (c.ks 0) (fun s k=>∃ c1,k=CSt.ks c1 0/\(s=getHV (getH H nm ty least now) now/\c1=getS c nm ty least now)):=by
 by_cases hn:now<0
 ·refine(get0_ok c hk.wf nm ty least now hn).imp fun s k ⟨h1,h2⟩=>⟨c,h2,?_,by unfold getS;rw[if_pos hn]⟩
  rw[h1]
  unfold getH
  rw[if_pos hn]
  rfl
 ·refine(get_ok c hk.wf nm ty least now hnm (by omega)).imp fun s k ⟨h1,h2⟩=>⟨_,h2,?_,by unfold getS;rw[if_neg hn]⟩
  rw[h1,hit_abs,get_kn hk nm ty least now (by omega)]
  cases getH H nm ty least now <;> rfl
theorem getq(c:CSt)(H:List Held)(hk:Kn c H)(nm:List UInt8)(ty least now:Int)(hnm:nm.length<9223372036854775808)(pre rest:List KB) :
 COk Tryz.prog 106 [.ptr pre.length 0,.d (.str nm),.d (.int .u16 ty),.d (.int .u8 least),.d (.int .i64 now)] (pre++(c.ks pre.length++rest)) (fun s k=>s=getHV (getH H nm ty least now) now/\k=pre++((getS c nm ty least now).ks pre.length++rest)):=by
 refine(ckq (get2_ok c H hk nm ty least now hnm) pre rest _ rfl rfl).imp fun s k ⟨s0,c1,⟨h1,h2⟩,h3,h4⟩=>⟨?_,by rw[h4,h2]⟩
 rw[h3,h1]
 cases getH H nm ty least now <;> rfl
structure Q where
 nm:List UInt8
 ty:Int
 cl:Int
deriving Inhabited
def Q.enc(q:Q):List DV:=[.str q.nm,.int .u16 q.ty,.int .u16 q.cl]
structure St where
 nm:List UInt8
 ty:Int
 ttl:Int
 z:Bool
 data:List (List UInt8)
instance:Inhabited St:=⟨⟨[],0,0,true,[]⟩⟩
def St.enc(s:St):List DV:=[.str s.nm,.int .u16 s.ty,.int .u32 s.ttl,.sl s.z s.data.length 1 (strs s.data)]
def stsF(l:List St)(i:Nat):List DV:=(l.getD i default).enc
structure LR where
 kind:Int
 chain:List St
 ans:St
 tgt:List UInt8
 ttl:Int
instance:Inhabited LR:=⟨⟨0,[],default,[],0⟩⟩
def LR.V(r:LR):SV:=.agg [.d (.int .u8 r.kind),.d (.sl (Nat.beq r.chain.length 0) r.chain.length 4 (stsF r.chain)),.d (.str r.ans.nm),.d (.int .u16 r.ans.ty),.d (.int .u32 r.ans.ttl),.d (.sl r.ans.z r.ans.data.length 1 (strs r.ans.data)),.d (.str r.tgt),.d (.int .u32 r.ttl)]
def yy(fo:Bool)(ttl x:Int):Int:=if fo=false\/x<ttl then x else ttl
def k9(tgt:List UInt8)(h:Held)(now:Int):St:=⟨tgt,h.ty,jj h now,h.z,h.data⟩
def lkGo(H:List Held)(t now:Int):Nat->List St->List UInt8->Int->Bool->LR
 |0,_,_,_,_=>default
 |k+1,ch,tgt,ttl,fo=>match getH H tgt t 4 now with
  |some h=>if h.name then ⟨3,ch,default,tgt,yy fo ttl (jj h now)⟩ else if h.no then ⟨4,ch,default,tgt,yy fo ttl (jj h now)⟩ else
   ⟨1,ch,k9 tgt h now,tgt,yy fo ttl (jj h now)⟩
  |none=>if t=5 then ⟨2,ch,default,tgt,0⟩ else match getH H tgt 5 4 now with
   |none=>⟨2,ch,default,tgt,0⟩
   |some h=>if h.no || (h.name || h.data.length == 0) then ⟨2,ch,default,tgt,0⟩ else if 8<=ch.length then default else
    lkGo H t now k (ch++[k9 tgt h now]) (h.data.getD 0 []) (yy fo ttl (jj h now)) true
def lkF(H:List Held)(q:Q)(now:Int):LR:=if qc q.nm then lkGo H q.ty now 9 [] q.nm 0 false else default
def FitH(H:List Held):Prop:=∀ y ∈ H,y.data.length<=100000/\∀ d ∈ y.data,d.length<=100000
def lkC(H:List Held)(t now:Int):Nat->CSt->Nat->List UInt8->CSt
 |0,c,_,_=>c
 |k+1,c,n,tgt=>match getH H tgt t 4 now with
  |some _=>getS c tgt t 4 now
  |none=>if t=5 then getS c tgt t 4 now else match getH H tgt 5 4 now with
   |none=>getS (getS c tgt t 4 now) tgt 5 4 now
   |some h=>if h.no || (h.name || h.data.length == 0) then getS (getS c tgt t 4 now) tgt 5 4 now else if 8<=n then getS (getS c tgt t 4 now) tgt 5 4 now else
    lkC H t now k (getS (getS c tgt t 4 now) tgt 5 4 now) (n+1) (h.data.getD 0 [])
theorem Kn.lk{H:List Held}(t now:Int):∀ (k:Nat) {c:CSt} (_:Kn c H) (n:Nat) (tgt:List UInt8),Kn (lkC H t now k c n tgt) H
 |0,_,hk,_,_=>hk
 |k+1,c,hk,n,tgt=>by
  unfold lkC
  repeat'(first|exact(hk.get _ _ _ _)|exact((hk.get _ _ _ _).get _ _ _ _)|exact Kn.lk t now k ((hk.get _ _ _ _).get _ _ _ _) _ _|split)
def lkQ(H:List Held)(c:CSt)(q:Q)(now:Int):CSt:=if qc q.nm then lkC H q.ty now 9 c 0 q.nm else c
theorem Kn.lkq{c:CSt}{H:List Held}(hk:Kn c H)(q:Q)(now:Int):Kn (lkQ H c q now) H:=by
 unfold lkQ
 split
 ·exact hk.lk _ _ _ _ _
 ·exact hk
structure LkSt where
 c:CSt
 ch:List St
 tgt:List UInt8
 ttl:Int
 fo:Bool
theorem pkH_mem{H:List Held}{a:List UInt8}{k l now:Int}{y:Held}(h:pkH H a k l now=some y):y ∈ H/\atP a k y=true/\now<y.til/\l<=y.rank:=by
 unfold pkH at h
 cases hf:H.find? (atP a k) with
 |none=>rw [hf] at h;cases h
 |some x =>
  rw [hf] at h
  simp only at h
  split at h
  ·rename_i h2
   cases h
   exact⟨List.mem_of_find?_eq_some hf,List.find?_some hf,h2⟩
  ·cases h
theorem qc7{H:List Held}{a:List UInt8}{k l now:Int}{y:Held}(h:getH H a k l now=some y):y ∈ H/\(atP (fold a) k y=true\/atP (fold a) 0 y=true)/\now<y.til/\l<=y.rank/\0<=now:=by
 unfold getH at h
 split at h
 ·cases h
 ·cases hp:pkH H (fold a) k l now with
  |some x =>
   rw [hp] at h;cases h
   have:=pkH_mem hp
   exact⟨this.1,.inl this.2.1,this.2.2.1,this.2.2.2,by omega⟩
  |none =>
   rw [hp] at h
   have:=pkH_mem h
   exact⟨this.1,.inr this.2.1,this.2.2.1,this.2.2.2,by omega⟩
theorem qe8(l:List St)(q:St)(j:Nat)(hj:j<l.length+1):catF l.length (stsF l) (q8 q.enc 4) j=stsF (l++[q]) j:=by
 unfold catF stsF
 split
 ·rename_i h
  rw[List.getD,List.getD,List.getElem?_append_left h]
 ·rename_i h
  have:j=l.length:=by omega
  subst this
  rw[Nat.sub_self,List.getD,List.getElem?_append_right (Nat.le_refl _),Nat.sub_self]
  rfl
def fdC(x:LkSt)(now:Int):KB:=.cells 135 [.d (.int .u8 0),.all 6,.d (.str []),.d (.int .u16 0),.d (.int .u32 0),nilS,.d (.str x.tgt),.d (.int .u32 x.ttl),.ptr 0 0,.d (.int .i64 now),.d (.bool x.fo)]
theorem named_ok(c:CSt)(q:Q)(x:LkSt)(now:Int)(h:Held)(v:Int)(n:Nat)(g:Nat->List DV) :
 COk Tryz.prog 108 [.ptr 5 0,.agg [.d (.str h.nm),.d (.int .u16 h.ty),.d (.int .u32 v),.d (.sl h.z h.data.length 1 (strs h.data))]] (c.ks 0++[.cells 27 [.d (.str q.nm),.d (.int .u16 q.ty),.d (.int .u16 q.cl)],.cells 56 [.d (.int .u8 0),nilS,.d (.str []),.d (.int .u16 0),.d (.int .u32 0),nilS,.d (.str []),.d (.int .u32 0)],fdC x now,.row 49 4 n .iff g,.cells 230 [.d (.str h.nm),.d (.int .u16 h.ty),.d (.int .u32 v),.d (.sl h.z h.data.length 1 (strs h.data)),.d (.int .u8 h.rank),.d (.bool h.no),.d (.bool h.name)]])
  (fun s k=>s = .agg [.d (.str x.tgt),.d (.int .u16 h.ty),.d (.int .u32 v),.d (.sl h.z h.data.length 1 (strs h.data))]/\k=(c.ks 0++[.cells 27 [.d (.str q.nm),.d (.int .u16 q.ty),.d (.int .u16 q.cl)],.cells 56 [.d (.int .u8 0),nilS,.d (.str []),.d (.int .u16 0),.d (.int .u32 0),nilS,.d (.str []),.d (.int .u32 0)],fdC x now,.row 49 4 n .iff g,.cells 230 [.d (.str h.nm),.d (.int .u16 h.ty),.d (.int .u32 v),.d (.sl h.z h.data.length 1 (strs h.data)),.d (.int .u8 h.rank),.d (.bool h.no),.d (.bool h.name)]])):=by
 refine jk (TT:=TT) (IN:=qf []) qe qi mixed 1000 Tryz.func108 rfl (qh Tryz.func108 (by kernel_rfl) rfl) 10 (by kernel_rfl) ?_
 conv=>whnf
 refine⟨[0,1,2,3,4,5,6,7],_,_,rfl,rfl,?_,?_,rfl,rfl⟩
 ·exact rfl
 repeat'(first|exact ⟨⟩|exact rfl|exact(fun _ _ _ _ h=>⟨qb _,h⟩)|exact fun _=>Iff.rfl|exact fun _ _=>rfl|apply And.intro)
 all_goals exact qa rfl _
theorem look0_ok(c:CSt)(H:List Held)(hk:Kn c H)(hH:FitH H)(q:Q)(now:Int) :
 COk Tryz.prog 13 [.ptr 0 0,.agg [.d (.str q.nm),.d (.int .u16 q.ty),.d (.int .u16 q.cl)],.d (.int .i64 now)] (c.ks 0) (fun s k=>∃ m k2 x y,k=(lkQ H c q now).ks 0++[k2]/\s = .agg m/\wv k m (fun x' y'=>x'=x/\y'=y)/\DenTo (.agg x) (lkF H q now).V/\∃ k3,qx y k=(lkQ H c q now).ks 0++[k3]):=by
 refine jk (TT:=TT) (IN:=qf [(44,Tryz.f44,2),(107,Tryz.f107,2),(108,Tryz.f108,2),(109,Tryz.f109,1)]) qe (qw (qw (qw (qw qi Tryz.func109 (by kernel_rfl) (by kernel_rfl)) Tryz.func108 (by kernel_rfl) (by kernel_rfl)) Tryz.func107 (by kernel_rfl) (by kernel_rfl)) Tryz.func44 (by kernel_rfl) (by kernel_rfl)) mixed 1000 Tryz.func13 rfl (qh Tryz.func13 (by kernel_rfl) rfl) 22 (by kernel_rfl) ?_
 conv=>whnf
 refine oD (wl q.nm) rfl rfl ?_
 by_cases hn:qc q.nm
 case neg =>
  have hF:lkF H q now=default:=by unfold lkF;rw[if_neg hn]
  have hC:lkQ H c q now=c:=by unfold lkQ;rw[if_neg hn]
  rw[if_neg hn,hF,hC]
  conv=>whnf
  repeat(first|(refine brF rfl ?_;conv=>whnf)|(refine brT rfl ?_;conv=>whnf))
  refine⟨[0,1,2,3],.agg [.d (.int .u8 0),nilS,.d (.str []),.d (.int .u16 0),.d (.int .u32 0),nilS,.d (.str []),.d (.int .u32 0)],c.ks 0++[.cells 27 [.d (.str q.nm),.d (.int .u16 q.ty),.d (.int .u16 q.cl)]],rfl,rfl,rfl,?_,?_⟩
  ·repeat'(first|exact ⟨⟩|exact rfl|exact(fun _ _ _ _ h=>⟨qb _,h⟩)|exact fun _=>Iff.rfl|exact fun _ _=>rfl|apply And.intro)
   all_goals exact qa rfl _
  ·refine⟨_,_,_,_,rfl,rfl,⟨rfl,rfl⟩,?_⟩
   exact⟨DenTo.agg ⟨.refl _,.of (.none _ _ _ _ _),.refl _,.refl _,.refl _,.of (.none _ _ _ _ _),.refl _,.refl _,trivial⟩,_,rfl⟩
 have hF:lkF H q now=lkGo H q.ty now 9 [] q.nm 0 false:=by unfold lkF;rw[if_pos hn]
 have hC:lkQ H c q now=lkC H q.ty now 9 c 0 q.nm:=by unfold lkQ;rw[if_pos hn]
 generalize lkF H q now=R at hF ⊢
 generalize lkQ H c q now=C at hC ⊢
 rw[if_pos hn]
 have hql:q.nm.length<=255:=hn.2.1
 conv=>whnf
 repeat(first|(refine brF rfl ?_;conv=>whnf)|(refine brT rfl ?_;conv=>whnf))
 refine .nilC 5 1 49 4 (stsF []) _ _ _ _ rfl rfl ?_
 refine .inv LkSt (fun x=>x.ch.length<=8/\Kn x.c H/\x.tgt.length<=100000/\R=lkGo H q.ty now (9 - x.ch.length) x.ch x.tgt x.ttl x.fo/\C=lkC H q.ty now (9 - x.ch.length) x.c x.ch.length x.tgt) (fun _=>[]) (fun x=>x.c.klq 0++[(5,fdC x now),(6,.row 49 4 x.ch.length .iff (stsF x.ch))]) (fun x=>9 - x.ch.length) ⟨⟨c,[],q.nm,0,false⟩,[0,1,2,3,4,5,6],⟨Nat.zero_le _,hk,by show q.nm.length<=_;omega,hF,hC⟩,?_⟩ ?_
 ·conv=>whnf
  repeat'(first|exact ⟨⟩|exact rfl|exact(fun _ _ _ _ h=>⟨qb _,h⟩)|exact fun _=>Iff.rfl|exact fun _ _=>rfl|apply And.intro)
  all_goals exact qa rfl _
 rintro ⟨c1,ch,tgt,ttl,fo⟩ ⟨h1,h2,h3,h4,h5⟩
 replace h1:ch.length<=8:=h1
 replace h2:Kn c1 H:=h2
 replace h3:tgt.length<=100000:=h3
 obtain⟨k,hkk⟩:∃ k,9 - ch.length=k+1:=⟨8 - ch.length,by omega⟩
 replace h4:R=lkGo H q.ty now (k+1) ch tgt ttl fo:=by rw[<-hkk];exact h4
 replace h5:C=lkC H q.ty now (k+1) c1 ch.length tgt:=by rw[<-hkk];exact h5
 unfold lkGo at h4
 unfold lkC at h5
 have g1:=getq c1 H h2 tgt q.ty 4 now (by omega) []
 have g2:=getq (getS c1 tgt q.ty 4 now) H (h2.get _ _ _ _) tgt 5 4 now (by omega) []
 cases hg:getH H tgt q.ty 4 now with
 |some h =>
  rw [hg] at h4 h5 g1
  conv=>whnf
  apply Exists.intro
  apply Exists.intro
  refine⟨?_,?_⟩
  ·conv=>whnf
   repeat'(first|exact ⟨⟩|exact⟨rfl,rfl⟩|refine .mem _ _ (g1 [_,_,_,_]) ?_|refine .mem _ _ (g1 [_,_,_,_,_]) ?_|apply And.intro|(conv=>whnf))
  replace h5:C=getS c1 tgt q.ty 4 now:=h5
  clear hC hF
  generalize getS c1 tgt q.ty 4 now=CC at h5 ⊢
  subst h5
  clear hg g1 g2
  cases hnm:h.name with
  |true =>
   replace h4:R=⟨3,ch,default,tgt,yy fo ttl (jj h now)⟩:=h4.trans (by simp[hnm])
   conv=>whnf
   repeat(first|(refine brF rfl ?_;conv=>whnf)|(refine brT rfl ?_;conv=>whnf))
   cases fo
   ·conv=>whnf
    repeat(first|(refine brF rfl ?_;conv=>whnf)|(refine brT rfl ?_;conv=>whnf))
    have hv:yy false ttl (jj h now)=jj h now:=if_pos (.inl rfl)
    rw [hv] at h4
    first
     |(
      refine⟨[0,1,2,6],.agg [.d (.int .u8 _),.all 3,.d (.str []),.d (.int .u16 0),.d (.int .u32 0),nilS,.d (.str tgt),.d (.int .u32 _)],C.ks 0++[.row 49 4 ch.length .iff (stsF ch)],rfl,rfl,rfl,?_,?_⟩
      ·repeat'(first|exact ⟨⟩|exact rfl|exact(fun _ _ _ _ h=>⟨qb _,h⟩)|exact fun _=>Iff.rfl|exact fun _ _=>rfl|apply And.intro)
       all_goals exact qa rfl _
      ·refine⟨_,_,_,_,rfl,rfl,⟨rfl,rfl⟩,?_⟩
       subst h4
       exact⟨DenTo.agg ⟨.refl _,.refl _,.refl _,.refl _,.refl _,.of (.none _ _ _ _ _),.refl _,.refl _,trivial⟩,_,rfl⟩)
     |(
      refine⟨[0,1,2,6],.agg [.d (.int .u8 _),.all 3,.d (.str tgt),.d (.int .u16 h.ty),.d (.int .u32 _),.d (.sl h.z h.data.length 1 (strs h.data)),.d (.str tgt),.d (.int .u32 _)],C.ks 0++[.row 49 4 ch.length .iff (stsF ch)],rfl,rfl,rfl,?_,?_⟩
      ·repeat'(first|exact ⟨⟩|exact rfl|exact(fun _ _ _ _ h=>⟨qb _,h⟩)|exact fun _=>Iff.rfl|exact fun _ _=>rfl|apply And.intro)
       all_goals exact qa rfl _
      ·refine⟨_,_,_,_,rfl,rfl,⟨rfl,rfl⟩,?_⟩
       subst h4
       exact⟨DenTo.refl _,_,rfl⟩)
   ·conv=>whnf
    repeat(first|(refine brF rfl ?_;conv=>whnf)|(refine brT rfl ?_;conv=>whnf))
    refine⟨fun hl=>?_,fun hl=>?_⟩
    ·have hv:yy true ttl (jj h now)=jj h now:=if_pos (.inr (of_decide_eq_true hl))
     rw [hv] at h4
     conv=>whnf
     repeat(first|(refine brF rfl ?_;conv=>whnf)|(refine brT rfl ?_;conv=>whnf))
     first
      |(
       refine⟨[0,1,2,6],.agg [.d (.int .u8 _),.all 3,.d (.str []),.d (.int .u16 0),.d (.int .u32 0),nilS,.d (.str tgt),.d (.int .u32 _)],C.ks 0++[.row 49 4 ch.length .iff (stsF ch)],rfl,rfl,rfl,?_,?_⟩
       ·repeat'(first|exact ⟨⟩|exact rfl|exact(fun _ _ _ _ h=>⟨qb _,h⟩)|exact fun _=>Iff.rfl|exact fun _ _=>rfl|apply And.intro)
        all_goals exact qa rfl _
       ·refine⟨_,_,_,_,rfl,rfl,⟨rfl,rfl⟩,?_⟩
        subst h4
        exact⟨DenTo.agg ⟨.refl _,.refl _,.refl _,.refl _,.refl _,.of (.none _ _ _ _ _),.refl _,.refl _,trivial⟩,_,rfl⟩)
      |(
       refine⟨[0,1,2,6],.agg [.d (.int .u8 _),.all 3,.d (.str tgt),.d (.int .u16 h.ty),.d (.int .u32 _),.d (.sl h.z h.data.length 1 (strs h.data)),.d (.str tgt),.d (.int .u32 _)],C.ks 0++[.row 49 4 ch.length .iff (stsF ch)],rfl,rfl,rfl,?_,?_⟩
       ·repeat'(first|exact ⟨⟩|exact rfl|exact(fun _ _ _ _ h=>⟨qb _,h⟩)|exact fun _=>Iff.rfl|exact fun _ _=>rfl|apply And.intro)
        all_goals exact qa rfl _
       ·refine⟨_,_,_,_,rfl,rfl,⟨rfl,rfl⟩,?_⟩
        subst h4
        exact⟨DenTo.refl _,_,rfl⟩)
    ·have hv:yy true ttl (jj h now)=ttl:=if_neg (fun e=>e.elim (fun e=>by cases e) (fun e=>absurd (decide_eq_true e) (by rw[hl];decide)))
     rw [hv] at h4
     conv=>whnf
     repeat(first|(refine brF rfl ?_;conv=>whnf)|(refine brT rfl ?_;conv=>whnf))
     first
      |(
       refine⟨[0,1,2,6],.agg [.d (.int .u8 _),.all 3,.d (.str []),.d (.int .u16 0),.d (.int .u32 0),nilS,.d (.str tgt),.d (.int .u32 _)],C.ks 0++[.row 49 4 ch.length .iff (stsF ch)],rfl,rfl,rfl,?_,?_⟩
       ·repeat'(first|exact ⟨⟩|exact rfl|exact(fun _ _ _ _ h=>⟨qb _,h⟩)|exact fun _=>Iff.rfl|exact fun _ _=>rfl|apply And.intro)
        all_goals exact qa rfl _
       ·refine⟨_,_,_,_,rfl,rfl,⟨rfl,rfl⟩,?_⟩
        subst h4
        exact⟨DenTo.agg ⟨.refl _,.refl _,.refl _,.refl _,.refl _,.of (.none _ _ _ _ _),.refl _,.refl _,trivial⟩,_,rfl⟩)
      |(
       refine⟨[0,1,2,6],.agg [.d (.int .u8 _),.all 3,.d (.str tgt),.d (.int .u16 h.ty),.d (.int .u32 _),.d (.sl h.z h.data.length 1 (strs h.data)),.d (.str tgt),.d (.int .u32 _)],C.ks 0++[.row 49 4 ch.length .iff (stsF ch)],rfl,rfl,rfl,?_,?_⟩
       ·repeat'(first|exact ⟨⟩|exact rfl|exact(fun _ _ _ _ h=>⟨qb _,h⟩)|exact fun _=>Iff.rfl|exact fun _ _=>rfl|apply And.intro)
        all_goals exact qa rfl _
       ·refine⟨_,_,_,_,rfl,rfl,⟨rfl,rfl⟩,?_⟩
        subst h4
        exact⟨DenTo.refl _,_,rfl⟩)
  |false =>
   cases hno:h.no with
   |true =>
    replace h4:R=⟨4,ch,default,tgt,yy fo ttl (jj h now)⟩:=h4.trans (by simp[hnm,hno])
    conv=>whnf
    repeat(first|(refine brF rfl ?_;conv=>whnf)|(refine brT rfl ?_;conv=>whnf))
    cases fo
    ·conv=>whnf
     repeat(first|(refine brF rfl ?_;conv=>whnf)|(refine brT rfl ?_;conv=>whnf))
     have hv:yy false ttl (jj h now)=jj h now:=if_pos (.inl rfl)
     rw [hv] at h4
     first
      |(
       refine⟨[0,1,2,6],.agg [.d (.int .u8 _),.all 3,.d (.str []),.d (.int .u16 0),.d (.int .u32 0),nilS,.d (.str tgt),.d (.int .u32 _)],C.ks 0++[.row 49 4 ch.length .iff (stsF ch)],rfl,rfl,rfl,?_,?_⟩
       ·repeat'(first|exact ⟨⟩|exact rfl|exact(fun _ _ _ _ h=>⟨qb _,h⟩)|exact fun _=>Iff.rfl|exact fun _ _=>rfl|apply And.intro)
        all_goals exact qa rfl _
       ·refine⟨_,_,_,_,rfl,rfl,⟨rfl,rfl⟩,?_⟩
        subst h4
        exact⟨DenTo.agg ⟨.refl _,.refl _,.refl _,.refl _,.refl _,.of (.none _ _ _ _ _),.refl _,.refl _,trivial⟩,_,rfl⟩)
      |(
       refine⟨[0,1,2,6],.agg [.d (.int .u8 _),.all 3,.d (.str tgt),.d (.int .u16 h.ty),.d (.int .u32 _),.d (.sl h.z h.data.length 1 (strs h.data)),.d (.str tgt),.d (.int .u32 _)],C.ks 0++[.row 49 4 ch.length .iff (stsF ch)],rfl,rfl,rfl,?_,?_⟩
       ·repeat'(first|exact ⟨⟩|exact rfl|exact(fun _ _ _ _ h=>⟨qb _,h⟩)|exact fun _=>Iff.rfl|exact fun _ _=>rfl|apply And.intro)
        all_goals exact qa rfl _
       ·refine⟨_,_,_,_,rfl,rfl,⟨rfl,rfl⟩,?_⟩
        subst h4
        exact⟨DenTo.refl _,_,rfl⟩)
    ·conv=>whnf
     repeat(first|(refine brF rfl ?_;conv=>whnf)|(refine brT rfl ?_;conv=>whnf))
     refine⟨fun hl=>?_,fun hl=>?_⟩
     ·have hv:yy true ttl (jj h now)=jj h now:=if_pos (.inr (of_decide_eq_true hl))
      rw [hv] at h4
      conv=>whnf
      repeat(first|(refine brF rfl ?_;conv=>whnf)|(refine brT rfl ?_;conv=>whnf))
      first
       |(
        refine⟨[0,1,2,6],.agg [.d (.int .u8 _),.all 3,.d (.str []),.d (.int .u16 0),.d (.int .u32 0),nilS,.d (.str tgt),.d (.int .u32 _)],C.ks 0++[.row 49 4 ch.length .iff (stsF ch)],rfl,rfl,rfl,?_,?_⟩
        ·repeat'(first|exact ⟨⟩|exact rfl|exact(fun _ _ _ _ h=>⟨qb _,h⟩)|exact fun _=>Iff.rfl|exact fun _ _=>rfl|apply And.intro)
         all_goals exact qa rfl _
        ·refine⟨_,_,_,_,rfl,rfl,⟨rfl,rfl⟩,?_⟩
         subst h4
         exact⟨DenTo.agg ⟨.refl _,.refl _,.refl _,.refl _,.refl _,.of (.none _ _ _ _ _),.refl _,.refl _,trivial⟩,_,rfl⟩)
       |(
        refine⟨[0,1,2,6],.agg [.d (.int .u8 _),.all 3,.d (.str tgt),.d (.int .u16 h.ty),.d (.int .u32 _),.d (.sl h.z h.data.length 1 (strs h.data)),.d (.str tgt),.d (.int .u32 _)],C.ks 0++[.row 49 4 ch.length .iff (stsF ch)],rfl,rfl,rfl,?_,?_⟩
        ·repeat'(first|exact ⟨⟩|exact rfl|exact(fun _ _ _ _ h=>⟨qb _,h⟩)|exact fun _=>Iff.rfl|exact fun _ _=>rfl|apply And.intro)
         all_goals exact qa rfl _
        ·refine⟨_,_,_,_,rfl,rfl,⟨rfl,rfl⟩,?_⟩
         subst h4
         exact⟨DenTo.refl _,_,rfl⟩)
     ·have hv:yy true ttl (jj h now)=ttl:=if_neg (fun e=>e.elim (fun e=>by cases e) (fun e=>absurd (decide_eq_true e) (by rw[hl];decide)))
      rw [hv] at h4
      conv=>whnf
      repeat(first|(refine brF rfl ?_;conv=>whnf)|(refine brT rfl ?_;conv=>whnf))
      first
       |(
        refine⟨[0,1,2,6],.agg [.d (.int .u8 _),.all 3,.d (.str []),.d (.int .u16 0),.d (.int .u32 0),nilS,.d (.str tgt),.d (.int .u32 _)],C.ks 0++[.row 49 4 ch.length .iff (stsF ch)],rfl,rfl,rfl,?_,?_⟩
        ·repeat'(first|exact ⟨⟩|exact rfl|exact(fun _ _ _ _ h=>⟨qb _,h⟩)|exact fun _=>Iff.rfl|exact fun _ _=>rfl|apply And.intro)
         all_goals exact qa rfl _
        ·refine⟨_,_,_,_,rfl,rfl,⟨rfl,rfl⟩,?_⟩
         subst h4
         exact⟨DenTo.agg ⟨.refl _,.refl _,.refl _,.refl _,.refl _,.of (.none _ _ _ _ _),.refl _,.refl _,trivial⟩,_,rfl⟩)
       |(
        refine⟨[0,1,2,6],.agg [.d (.int .u8 _),.all 3,.d (.str tgt),.d (.int .u16 h.ty),.d (.int .u32 _),.d (.sl h.z h.data.length 1 (strs h.data)),.d (.str tgt),.d (.int .u32 _)],C.ks 0++[.row 49 4 ch.length .iff (stsF ch)],rfl,rfl,rfl,?_,?_⟩
        ·repeat'(first|exact ⟨⟩|exact rfl|exact(fun _ _ _ _ h=>⟨qb _,h⟩)|exact fun _=>Iff.rfl|exact fun _ _=>rfl|apply And.intro)
         all_goals exact qa rfl _
        ·refine⟨_,_,_,_,rfl,rfl,⟨rfl,rfl⟩,?_⟩
         subst h4
         exact⟨DenTo.refl _,_,rfl⟩)
   |false =>
    replace h4:R=⟨1,ch,k9 tgt h now,tgt,yy fo ttl (jj h now)⟩:=h4.trans (by simp[hnm,hno])
    conv=>whnf
    repeat(first|(refine brF rfl ?_;conv=>whnf)|(refine brT rfl ?_;conv=>whnf))
    cases fo
    ·conv=>whnf
     repeat(first|(refine brF rfl ?_;conv=>whnf)|(refine brT rfl ?_;conv=>whnf))
     have hv:yy false ttl (jj h now)=jj h now:=if_pos (.inl rfl)
     rw [hv] at h4
     first
      |(
       refine⟨[0,1,2,6],.agg [.d (.int .u8 _),.all 3,.d (.str []),.d (.int .u16 0),.d (.int .u32 0),nilS,.d (.str tgt),.d (.int .u32 _)],C.ks 0++[.row 49 4 ch.length .iff (stsF ch)],rfl,rfl,rfl,?_,?_⟩
       ·repeat'(first|exact ⟨⟩|exact rfl|exact(fun _ _ _ _ h=>⟨qb _,h⟩)|exact fun _=>Iff.rfl|exact fun _ _=>rfl|apply And.intro)
        all_goals exact qa rfl _
       ·refine⟨_,_,_,_,rfl,rfl,⟨rfl,rfl⟩,?_⟩
        subst h4
        exact⟨DenTo.agg ⟨.refl _,.refl _,.refl _,.refl _,.refl _,.of (.none _ _ _ _ _),.refl _,.refl _,trivial⟩,_,rfl⟩)
      |(
       refine⟨[0,1,2,6],.agg [.d (.int .u8 _),.all 3,.d (.str tgt),.d (.int .u16 h.ty),.d (.int .u32 _),.d (.sl h.z h.data.length 1 (strs h.data)),.d (.str tgt),.d (.int .u32 _)],C.ks 0++[.row 49 4 ch.length .iff (stsF ch)],rfl,rfl,rfl,?_,?_⟩
       ·repeat'(first|exact ⟨⟩|exact rfl|exact(fun _ _ _ _ h=>⟨qb _,h⟩)|exact fun _=>Iff.rfl|exact fun _ _=>rfl|apply And.intro)
        all_goals exact qa rfl _
       ·refine⟨_,_,_,_,rfl,rfl,⟨rfl,rfl⟩,?_⟩
        subst h4
        exact⟨DenTo.refl _,_,rfl⟩)
    ·conv=>whnf
     repeat(first|(refine brF rfl ?_;conv=>whnf)|(refine brT rfl ?_;conv=>whnf))
     refine⟨fun hl=>?_,fun hl=>?_⟩
     ·have hv:yy true ttl (jj h now)=jj h now:=if_pos (.inr (of_decide_eq_true hl))
      rw [hv] at h4
      conv=>whnf
      repeat(first|(refine brF rfl ?_;conv=>whnf)|(refine brT rfl ?_;conv=>whnf))
      first
       |(
        refine⟨[0,1,2,6],.agg [.d (.int .u8 _),.all 3,.d (.str []),.d (.int .u16 0),.d (.int .u32 0),nilS,.d (.str tgt),.d (.int .u32 _)],C.ks 0++[.row 49 4 ch.length .iff (stsF ch)],rfl,rfl,rfl,?_,?_⟩
        ·repeat'(first|exact ⟨⟩|exact rfl|exact(fun _ _ _ _ h=>⟨qb _,h⟩)|exact fun _=>Iff.rfl|exact fun _ _=>rfl|apply And.intro)
         all_goals exact qa rfl _
        ·refine⟨_,_,_,_,rfl,rfl,⟨rfl,rfl⟩,?_⟩
         subst h4
         exact⟨DenTo.agg ⟨.refl _,.refl _,.refl _,.refl _,.refl _,.of (.none _ _ _ _ _),.refl _,.refl _,trivial⟩,_,rfl⟩)
       |(
        refine⟨[0,1,2,6],.agg [.d (.int .u8 _),.all 3,.d (.str tgt),.d (.int .u16 h.ty),.d (.int .u32 _),.d (.sl h.z h.data.length 1 (strs h.data)),.d (.str tgt),.d (.int .u32 _)],C.ks 0++[.row 49 4 ch.length .iff (stsF ch)],rfl,rfl,rfl,?_,?_⟩
        ·repeat'(first|exact ⟨⟩|exact rfl|exact(fun _ _ _ _ h=>⟨qb _,h⟩)|exact fun _=>Iff.rfl|exact fun _ _=>rfl|apply And.intro)
         all_goals exact qa rfl _
        ·refine⟨_,_,_,_,rfl,rfl,⟨rfl,rfl⟩,?_⟩
         subst h4
         exact⟨DenTo.refl _,_,rfl⟩)
     ·have hv:yy true ttl (jj h now)=ttl:=if_neg (fun e=>e.elim (fun e=>by cases e) (fun e=>absurd (decide_eq_true e) (by rw[hl];decide)))
      rw [hv] at h4
      conv=>whnf
      repeat(first|(refine brF rfl ?_;conv=>whnf)|(refine brT rfl ?_;conv=>whnf))
      first
       |(
        refine⟨[0,1,2,6],.agg [.d (.int .u8 _),.all 3,.d (.str []),.d (.int .u16 0),.d (.int .u32 0),nilS,.d (.str tgt),.d (.int .u32 _)],C.ks 0++[.row 49 4 ch.length .iff (stsF ch)],rfl,rfl,rfl,?_,?_⟩
        ·repeat'(first|exact ⟨⟩|exact rfl|exact(fun _ _ _ _ h=>⟨qb _,h⟩)|exact fun _=>Iff.rfl|exact fun _ _=>rfl|apply And.intro)
         all_goals exact qa rfl _
        ·refine⟨_,_,_,_,rfl,rfl,⟨rfl,rfl⟩,?_⟩
         subst h4
         exact⟨DenTo.agg ⟨.refl _,.refl _,.refl _,.refl _,.refl _,.of (.none _ _ _ _ _),.refl _,.refl _,trivial⟩,_,rfl⟩)
       |(
        refine⟨[0,1,2,6],.agg [.d (.int .u8 _),.all 3,.d (.str tgt),.d (.int .u16 h.ty),.d (.int .u32 _),.d (.sl h.z h.data.length 1 (strs h.data)),.d (.str tgt),.d (.int .u32 _)],C.ks 0++[.row 49 4 ch.length .iff (stsF ch)],rfl,rfl,rfl,?_,?_⟩
        ·repeat'(first|exact ⟨⟩|exact rfl|exact(fun _ _ _ _ h=>⟨qb _,h⟩)|exact fun _=>Iff.rfl|exact fun _ _=>rfl|apply And.intro)
         all_goals exact qa rfl _
        ·refine⟨_,_,_,_,rfl,rfl,⟨rfl,rfl⟩,?_⟩
         subst h4
         exact⟨DenTo.refl _,_,rfl⟩)
 |none =>
  rw [hg] at h4 h5 g1
  replace h4:=id h4
  conv=>whnf
  apply Exists.intro
  apply Exists.intro
  refine⟨?_,?_⟩
  ·conv=>whnf
   repeat'(first|exact ⟨⟩|exact⟨rfl,rfl⟩|refine .mem _ _ (g1 [_,_,_,_]) ?_|refine .mem _ _ (g1 [_,_,_,_,_]) ?_|apply And.intro|(conv=>whnf))
  clear g1 hg hF hC
  conv=>whnf
  repeat(first|(refine brF rfl ?_;conv=>whnf)|(refine brT rfl ?_;conv=>whnf))
  by_cases ht:q.ty=5
  ·replace h4:R=⟨2,ch,default,tgt,0⟩:=h4.trans (by simp[ht])
   replace h5:C=getS c1 tgt q.ty 4 now:=h5.trans (by simp[ht])
   clear g2
   generalize getS c1 tgt q.ty 4 now=CC at h5 ⊢
   subst h5
   refine brT (by rw[beq_iff_eq];exact ht) ?_
   conv=>whnf
   repeat(first|(refine brF rfl ?_;conv=>whnf)|(refine brT rfl ?_;conv=>whnf))
   first
    |(
     refine⟨[0,1,2,6],.agg [.d (.int .u8 _),.all 3,.d (.str []),.d (.int .u16 0),.d (.int .u32 0),nilS,.d (.str tgt),.d (.int .u32 _)],C.ks 0++[.row 49 4 ch.length .iff (stsF ch)],rfl,rfl,rfl,?_,?_⟩
     ·repeat'(first|exact ⟨⟩|exact rfl|exact(fun _ _ _ _ h=>⟨qb _,h⟩)|exact fun _=>Iff.rfl|exact fun _ _=>rfl|apply And.intro)
      all_goals exact qa rfl _
     ·refine⟨_,_,_,_,rfl,rfl,⟨rfl,rfl⟩,?_⟩
      subst h4
      exact⟨DenTo.agg ⟨.refl _,.refl _,.refl _,.refl _,.refl _,.of (.none _ _ _ _ _),.refl _,.refl _,trivial⟩,_,rfl⟩)
    |(
     refine⟨[0,1,2,6],.agg [.d (.int .u8 _),.all 3,.d (.str tgt),.d (.int .u16 h.ty),.d (.int .u32 _),.d (.sl h.z h.data.length 1 (strs h.data)),.d (.str tgt),.d (.int .u32 _)],C.ks 0++[.row 49 4 ch.length .iff (stsF ch)],rfl,rfl,rfl,?_,?_⟩
     ·repeat'(first|exact ⟨⟩|exact rfl|exact(fun _ _ _ _ h=>⟨qb _,h⟩)|exact fun _=>Iff.rfl|exact fun _ _=>rfl|apply And.intro)
      all_goals exact qa rfl _
     ·refine⟨_,_,_,_,rfl,rfl,⟨rfl,rfl⟩,?_⟩
      subst h4
      exact⟨DenTo.refl _,_,rfl⟩)
  refine brF (by rw[beq_eq_false_iff_ne];exact ht) ?_
  simp only [if_neg ht] at h4 h5
  conv=>whnf
  cases hg:getH H tgt 5 4 now with
  |none =>
   rw [hg] at h4 h5 g2
   apply Exists.intro
   apply Exists.intro
   refine⟨?_,?_⟩
   ·conv=>whnf
    repeat'(first|exact ⟨⟩|exact⟨rfl,rfl⟩|refine .mem _ _ (g2 [_,_,_,_,_]) ?_|apply And.intro|(conv=>whnf))
   replace h4:R=⟨2,ch,default,tgt,0⟩:=h4
   replace h5:C=getS (getS c1 tgt q.ty 4 now) tgt 5 4 now:=h5
   clear g2
   generalize getS (getS c1 tgt q.ty 4 now) tgt 5 4 now=CC at h5 ⊢
   subst h5
   conv=>whnf
   repeat(first|(refine brF rfl ?_;conv=>whnf)|(refine brT rfl ?_;conv=>whnf))
   first
    |(
     refine⟨[0,1,2,6],.agg [.d (.int .u8 _),.all 3,.d (.str []),.d (.int .u16 0),.d (.int .u32 0),nilS,.d (.str tgt),.d (.int .u32 _)],C.ks 0++[.row 49 4 ch.length .iff (stsF ch)],rfl,rfl,rfl,?_,?_⟩
     ·repeat'(first|exact ⟨⟩|exact rfl|exact(fun _ _ _ _ h=>⟨qb _,h⟩)|exact fun _=>Iff.rfl|exact fun _ _=>rfl|apply And.intro)
      all_goals exact qa rfl _
     ·refine⟨_,_,_,_,rfl,rfl,⟨rfl,rfl⟩,?_⟩
      subst h4
      exact⟨DenTo.agg ⟨.refl _,.refl _,.refl _,.refl _,.refl _,.of (.none _ _ _ _ _),.refl _,.refl _,trivial⟩,_,rfl⟩)
    |(
     refine⟨[0,1,2,6],.agg [.d (.int .u8 _),.all 3,.d (.str tgt),.d (.int .u16 h.ty),.d (.int .u32 _),.d (.sl h.z h.data.length 1 (strs h.data)),.d (.str tgt),.d (.int .u32 _)],C.ks 0++[.row 49 4 ch.length .iff (stsF ch)],rfl,rfl,rfl,?_,?_⟩
     ·repeat'(first|exact ⟨⟩|exact rfl|exact(fun _ _ _ _ h=>⟨qb _,h⟩)|exact fun _=>Iff.rfl|exact fun _ _=>rfl|apply And.intro)
      all_goals exact qa rfl _
     ·refine⟨_,_,_,_,rfl,rfl,⟨rfl,rfl⟩,?_⟩
      subst h4
      exact⟨DenTo.refl _,_,rfl⟩)
  |some h =>
   rw [hg] at h4 h5 g2
   apply Exists.intro
   apply Exists.intro
   refine⟨?_,?_⟩
   ·conv=>whnf
    repeat'(first|exact ⟨⟩|exact⟨rfl,rfl⟩|refine .mem _ _ (g2 [_,_,_,_,_]) ?_|apply And.intro|(conv=>whnf))
   have hk2:Kn (getS (getS c1 tgt q.ty 4 now) tgt 5 4 now) H:=(h2.get _ _ _ _).get _ _ _ _
   have hh:=qc7 hg
   clear g2
   generalize getS (getS c1 tgt q.ty 4 now) tgt 5 4 now=CC at h5 hk2 ⊢
   by_cases hb:(h.no || (h.name || h.data.length == 0))=true
   ·replace h4:R=⟨2,ch,default,tgt,0⟩:=h4.trans (by simp only[hb,if_true])
    replace h5:C=CC:=h5.trans (by simp only[hb,if_true])
    subst h5
    cases hno:h.no with
    |true =>
     conv=>whnf
     repeat(first|(refine brF rfl ?_;conv=>whnf)|(refine brT rfl ?_;conv=>whnf))
     first
      |(
       refine⟨[0,1,2,6],.agg [.d (.int .u8 _),.all 3,.d (.str []),.d (.int .u16 0),.d (.int .u32 0),nilS,.d (.str tgt),.d (.int .u32 _)],C.ks 0++[.row 49 4 ch.length .iff (stsF ch)],rfl,rfl,rfl,?_,?_⟩
       ·repeat'(first|exact ⟨⟩|exact rfl|exact(fun _ _ _ _ h=>⟨qb _,h⟩)|exact fun _=>Iff.rfl|exact fun _ _=>rfl|apply And.intro)
        all_goals exact qa rfl _
       ·refine⟨_,_,_,_,rfl,rfl,⟨rfl,rfl⟩,?_⟩
        subst h4
        exact⟨DenTo.agg ⟨.refl _,.refl _,.refl _,.refl _,.refl _,.of (.none _ _ _ _ _),.refl _,.refl _,trivial⟩,_,rfl⟩)
      |(
       refine⟨[0,1,2,6],.agg [.d (.int .u8 _),.all 3,.d (.str tgt),.d (.int .u16 h.ty),.d (.int .u32 _),.d (.sl h.z h.data.length 1 (strs h.data)),.d (.str tgt),.d (.int .u32 _)],C.ks 0++[.row 49 4 ch.length .iff (stsF ch)],rfl,rfl,rfl,?_,?_⟩
       ·repeat'(first|exact ⟨⟩|exact rfl|exact(fun _ _ _ _ h=>⟨qb _,h⟩)|exact fun _=>Iff.rfl|exact fun _ _=>rfl|apply And.intro)
        all_goals exact qa rfl _
       ·refine⟨_,_,_,_,rfl,rfl,⟨rfl,rfl⟩,?_⟩
        subst h4
        exact⟨DenTo.refl _,_,rfl⟩)
    |false =>
     cases hnm:h.name with
     |true =>
      conv=>whnf
      repeat(first|(refine brF rfl ?_;conv=>whnf)|(refine brT rfl ?_;conv=>whnf))
      first
       |(
        refine⟨[0,1,2,6],.agg [.d (.int .u8 _),.all 3,.d (.str []),.d (.int .u16 0),.d (.int .u32 0),nilS,.d (.str tgt),.d (.int .u32 _)],C.ks 0++[.row 49 4 ch.length .iff (stsF ch)],rfl,rfl,rfl,?_,?_⟩
        ·repeat'(first|exact ⟨⟩|exact rfl|exact(fun _ _ _ _ h=>⟨qb _,h⟩)|exact fun _=>Iff.rfl|exact fun _ _=>rfl|apply And.intro)
         all_goals exact qa rfl _
        ·refine⟨_,_,_,_,rfl,rfl,⟨rfl,rfl⟩,?_⟩
         subst h4
         exact⟨DenTo.agg ⟨.refl _,.refl _,.refl _,.refl _,.refl _,.of (.none _ _ _ _ _),.refl _,.refl _,trivial⟩,_,rfl⟩)
       |(
        refine⟨[0,1,2,6],.agg [.d (.int .u8 _),.all 3,.d (.str tgt),.d (.int .u16 h.ty),.d (.int .u32 _),.d (.sl h.z h.data.length 1 (strs h.data)),.d (.str tgt),.d (.int .u32 _)],C.ks 0++[.row 49 4 ch.length .iff (stsF ch)],rfl,rfl,rfl,?_,?_⟩
        ·repeat'(first|exact ⟨⟩|exact rfl|exact(fun _ _ _ _ h=>⟨qb _,h⟩)|exact fun _=>Iff.rfl|exact fun _ _=>rfl|apply And.intro)
         all_goals exact qa rfl _
        ·refine⟨_,_,_,_,rfl,rfl,⟨rfl,rfl⟩,?_⟩
         subst h4
         exact⟨DenTo.refl _,_,rfl⟩)
     |false =>
      have hl:h.data.length=0:=by simpa[hno,hnm] using hb
      conv=>whnf
      repeat(first|(refine brF rfl ?_;conv=>whnf)|(refine brT rfl ?_;conv=>whnf))
      refine brT (by rw[beq_iff_eq];omega) ?_
      conv=>whnf
      repeat(first|(refine brF rfl ?_;conv=>whnf)|(refine brT rfl ?_;conv=>whnf))
      first
       |(
        refine⟨[0,1,2,6],.agg [.d (.int .u8 _),.all 3,.d (.str []),.d (.int .u16 0),.d (.int .u32 0),nilS,.d (.str tgt),.d (.int .u32 _)],C.ks 0++[.row 49 4 ch.length .iff (stsF ch)],rfl,rfl,rfl,?_,?_⟩
        ·repeat'(first|exact ⟨⟩|exact rfl|exact(fun _ _ _ _ h=>⟨qb _,h⟩)|exact fun _=>Iff.rfl|exact fun _ _=>rfl|apply And.intro)
         all_goals exact qa rfl _
        ·refine⟨_,_,_,_,rfl,rfl,⟨rfl,rfl⟩,?_⟩
         subst h4
         exact⟨DenTo.agg ⟨.refl _,.refl _,.refl _,.refl _,.refl _,.of (.none _ _ _ _ _),.refl _,.refl _,trivial⟩,_,rfl⟩)
       |(
        refine⟨[0,1,2,6],.agg [.d (.int .u8 _),.all 3,.d (.str tgt),.d (.int .u16 h.ty),.d (.int .u32 _),.d (.sl h.z h.data.length 1 (strs h.data)),.d (.str tgt),.d (.int .u32 _)],C.ks 0++[.row 49 4 ch.length .iff (stsF ch)],rfl,rfl,rfl,?_,?_⟩
        ·repeat'(first|exact ⟨⟩|exact rfl|exact(fun _ _ _ _ h=>⟨qb _,h⟩)|exact fun _=>Iff.rfl|exact fun _ _=>rfl|apply And.intro)
         all_goals exact qa rfl _
        ·refine⟨_,_,_,_,rfl,rfl,⟨rfl,rfl⟩,?_⟩
         subst h4
         exact⟨DenTo.refl _,_,rfl⟩)
   dsimp only at h4 h5
   rw [if_neg hb] at h4 h5
   have hno:h.no=false:=by cases e:h.no <;> simp_all
   have hnm:h.name=false:=by cases e:h.name <;> simp_all
   have hl:h.data.length≠0:=fun e=>hb (by simp[e])
   clear hb
   have hnq:=named_ok CC q ⟨c1,ch,tgt,ttl,fo⟩ now h (jj h now) ch.length (stsF ch)
   rw [hno,hnm] at hnq
   rw[hno,hnm]
   conv=>whnf
   repeat(first|(refine brF rfl ?_;conv=>whnf)|(refine brT rfl ?_;conv=>whnf))
   refine brF (by rw[beq_eq_false_iff_ne];omega) ?_
   conv=>whnf
   by_cases h8:8<=ch.length
   ·rw [if_pos h8] at h4 h5
    subst h5
    refine brT (decide_eq_true (show((ch.length:Nat):Int) >= 8 by omega)) ?_
    conv=>whnf
    repeat(first|(refine brF rfl ?_;conv=>whnf)|(refine brT rfl ?_;conv=>whnf))
    refine⟨[0,1,2,6],.agg [.d (.int .u8 0),nilS,.d (.str []),.d (.int .u16 0),.d (.int .u32 0),nilS,.d (.str []),.d (.int .u32 0)],C.ks 0++[.row 49 4 ch.length .iff (stsF ch)],rfl,rfl,rfl,?_,?_⟩
    ·repeat'(first|exact ⟨⟩|exact rfl|exact(fun _ _ _ _ h=>⟨qb _,h⟩)|exact fun _=>Iff.rfl|exact fun _ _=>rfl|apply And.intro)
     all_goals exact qa rfl _
    ·refine⟨_,_,_,_,rfl,rfl,⟨rfl,rfl⟩,?_⟩
     subst h4
     exact⟨DenTo.agg ⟨.refl _,.of (.none _ _ _ _ _),.refl _,.refl _,.refl _,.of (.none _ _ _ _ _),.refl _,.refl _,trivial⟩,_,rfl⟩
   rw [if_neg h8] at h4 h5
   refine brF (decide_eq_false (show ¬ ((ch.length:Nat):Int) >= 8 by omega)) ?_
   conv=>whnf
   apply Exists.intro
   apply Exists.intro
   refine⟨?_,?_⟩
   ·conv=>whnf
    repeat'(first|exact ⟨⟩|exact⟨rfl,rfl⟩|refine .mem _ _ hnq ?_|refine And.intro (by omega) ?_|apply And.intro|(conv=>whnf))
   clear hnq
   have hd0:(h.data.getD 0 []).length<=100000:=by
    rw[List.getD,List.getElem?_eq_getElem (by omega)]
    exact(hH h hh.1).2 _ (List.getElem_mem _)
   cases fo
   ·conv=>whnf
    repeat(first|(refine brF rfl ?_;conv=>whnf)|(refine brT rfl ?_;conv=>whnf))
    rw [show yy false ttl (jj h now)=jj h now from if_pos (.inl rfl)] at h4
    refine⟨by omega,?_⟩
    conv=>whnf
    refine⟨⟨CC,ch++[k9 tgt h now],h.data.getD 0 [],jj h now,true⟩,[0,1,2,3,4,5,9],⟨?_,hk2,?_,?_,?_⟩,?_,?_⟩
    ·show(ch++[_]).length<=8
     rw[List.length_append,List.length_singleton];omega
    ·exact hd0
    ·show R=lkGo H q.ty now (9 - (ch++[_]).length) _ _ _ _
     rw[List.length_append,List.length_singleton,show 9 - (ch.length+1)=k by omega]
     exact h4
    ·show C=lkC H q.ty now (9 - (ch++[_]).length) _ (ch++[_]).length _
     rw[List.length_append,List.length_singleton,show 9 - (ch.length+1)=k by omega]
     exact h5
    ·show 9 - (ch++[_]).length<9 - ch.length
     rw[List.length_append,List.length_singleton];omega
    ·conv=>whnf
     repeat'(first|exact ⟨⟩|exact rfl|exact(fun _ _ _ _ h=>⟨qb _,h⟩)|exact fun _=>Iff.rfl|exact fun _ _=>rfl|apply And.intro)
     all_goals first
      |exact qa rfl _
      |exact(show ch.length+1=(ch++[_]).length by rw[List.length_append];rfl)
      |exact fun j hj=>qe8 ch (k9 tgt h now) j hj
      |trace_state
   ·conv=>whnf
    repeat(first|(refine brF rfl ?_;conv=>whnf)|(refine brT rfl ?_;conv=>whnf))
    refine⟨fun hl=>?_,fun hl=>?_⟩
    ·rw [show yy true ttl (jj h now)=jj h now from if_pos (.inr (of_decide_eq_true hl))] at h4
     conv=>whnf
     repeat(first|(refine brF rfl ?_;conv=>whnf)|(refine brT rfl ?_;conv=>whnf))
     refine⟨by omega,?_⟩
     conv=>whnf
     refine⟨⟨CC,ch++[k9 tgt h now],h.data.getD 0 [],jj h now,true⟩,[0,1,2,3,4,5,9],⟨?_,hk2,?_,?_,?_⟩,?_,?_⟩
     ·show(ch++[_]).length<=8
      rw[List.length_append,List.length_singleton];omega
     ·exact hd0
     ·show R=lkGo H q.ty now (9 - (ch++[_]).length) _ _ _ _
      rw[List.length_append,List.length_singleton,show 9 - (ch.length+1)=k by omega]
      exact h4
     ·show C=lkC H q.ty now (9 - (ch++[_]).length) _ (ch++[_]).length _
      rw[List.length_append,List.length_singleton,show 9 - (ch.length+1)=k by omega]
      exact h5
     ·show 9 - (ch++[_]).length<9 - ch.length
      rw[List.length_append,List.length_singleton];omega
     ·conv=>whnf
      repeat'(first|exact ⟨⟩|exact rfl|exact(fun _ _ _ _ h=>⟨qb _,h⟩)|exact fun _=>Iff.rfl|exact fun _ _=>rfl|apply And.intro)
      all_goals first
       |exact qa rfl _
       |exact(show ch.length+1=(ch++[_]).length by rw[List.length_append];rfl)
       |exact fun j hj=>qe8 ch (k9 tgt h now) j hj
       |trace_state
    ·rw [show yy true ttl (jj h now)=ttl from if_neg (fun e=>e.elim (fun e=>by cases e) (fun e=>absurd (decide_eq_true e) (by rw [hl];decide)))] at h4
     conv=>whnf
     repeat(first|(refine brF rfl ?_;conv=>whnf)|(refine brT rfl ?_;conv=>whnf))
     refine⟨by omega,?_⟩
     conv=>whnf
     refine⟨⟨CC,ch++[k9 tgt h now],h.data.getD 0 [],ttl,true⟩,[0,1,2,3,4,5,9],⟨?_,hk2,?_,?_,?_⟩,?_,?_⟩
     ·show(ch++[_]).length<=8
      rw[List.length_append,List.length_singleton];omega
     ·exact hd0
     ·show R=lkGo H q.ty now (9 - (ch++[_]).length) _ _ _ _
      rw[List.length_append,List.length_singleton,show 9 - (ch.length+1)=k by omega]
      exact h4
     ·show C=lkC H q.ty now (9 - (ch++[_]).length) _ (ch++[_]).length _
      rw[List.length_append,List.length_singleton,show 9 - (ch.length+1)=k by omega]
      exact h5
     ·show 9 - (ch++[_]).length<9 - ch.length
      rw[List.length_append,List.length_singleton];omega
     ·conv=>whnf
      repeat'(first|exact ⟨⟩|exact rfl|exact(fun _ _ _ _ h=>⟨qb _,h⟩)|exact fun _=>Iff.rfl|exact fun _ _=>rfl|apply And.intro)
      all_goals first
       |exact qa rfl _
       |exact(show ch.length+1=(ch++[_]).length by rw[List.length_append];rfl)
       |exact fun j hj=>qe8 ch (k9 tgt h now) j hj
       |trace_state
theorem lookof_ok(c:CSt)(H:List Held)(hk:Kn c H)(hH:FitH H)(q:Q)(now:Int) :
 COk Tryz.prog 13 [.ptr 0 0,.agg [.d (.str q.nm),.d (.int .u16 q.ty),.d (.int .u16 q.cl)],.d (.int .i64 now)] (c.ks 0) (fun s k=>s=(lkF H q now).V/\k=(lkQ H c q now).ks 0):=by
 have h1:COk Tryz.prog 13 [.ptr 0 0,.agg [.d (.str q.nm),.d (.int .u16 q.ty),.d (.int .u16 q.cl)],.d (.int .i64 now)] (c.ks 0) (fun s k=>∃ k3,s=(lkF H q now).V/\k=(lkQ H c q now).ks 0++[k3]):=by
  refine(look0_ok c H hk hH q now).froz ?_
  rintro s k ⟨m,k2,x,y,rfl,rfl,hv,hd,k3,h3⟩
  exact⟨m,x,_,y,rfl,hv,hd,k3,rfl,h3⟩
 refine h1.pick ?_
 rintro s k ⟨k3,rfl,rfl⟩
 refine⟨[0,1,2],_,_,rfl,rfl,?_,?_,rfl,rfl⟩
 ·exact rfl
 ·repeat'(first|exact ⟨⟩|exact rfl|exact(fun _ _ _ _ h=>⟨qb _,h⟩)|exact fun _=>Iff.rfl|exact fun _ _=>rfl|apply And.intro)
  all_goals exact qa rfl _
def labN(n:List UInt8):List (List UInt8):=(kf n).getD []
def fl(n:List UInt8):List (List UInt8):=(labN n).map fold
theorem vn{n:List UInt8}(h:qc n):n.length<=255/\(∀ l ∈ labN n,okL l)/\n=mk (labN n):=by
 obtain⟨ls,e⟩:=Option.isSome_iff_exists.1 ((qw5 n).1 h)
 have:=qz1 e
 unfold labN
 rw[e]
 exact this
theorem qq1(s:List UInt8):(fold s).length=s.length:=by simp[fold]
theorem okL_fold{l:List UInt8}(h:okL l):okL (fold l):=by unfold okL at *;rw [qq1];exact h
theorem low_small{k:Nat}(h:k<=63):low (UInt8.ofNat k)=UInt8.ofNat k:=by
 apply UInt8.toNat_inj.1
 rw[uj,qx7 (by omega)]
 rw[if_neg (by omega)]
theorem fold_lab{l:List UInt8}(h:okL l):fold (lab l)=lab (fold l):=by
 unfold lab
 rw[qq1]
 show low (UInt8.ofNat l.length) :: fold l=_
 rw[low_small h.2]
theorem fold_append(a b:List UInt8):fold (a++b)=fold a++fold b:=by unfold fold;rw[List.map_append]
theorem fold_mk:∀ {ls:List (List UInt8)},(∀ l ∈ ls,okL l)->fold (mk ls)=mk (ls.map fold)
 |[],_=>rfl
 |l :: ls,h=>by
  show fold (lab l++mk ls)=lab (fold l)++mk (ls.map fold)
  rw[fold_append,fold_lab (h l (by simp)),fold_mk (fun x hx=>h x (by simp[hx]))]
theorem fl_ok{n:List UInt8}(h:qc n):∀ l ∈ fl n,okL l:=fun l hl=>by
 obtain⟨x,hx,rfl⟩:=List.mem_map.1 hl
 exact okL_fold ((vn h).2.1 x hx)
theorem fold_fl{n:List UInt8}(h:qc n):fold n=mk (fl n):=by
 obtain⟨_,h2,h3⟩:=vn h
 conv=>lhs;rw[h3]
 exact fold_mk h2
def ja(ls:List (List UInt8))(i:Nat):Nat:=(labs (ls.take i)).length
theorem jb3{ls:List (List UInt8)}{i:Nat}{l:List UInt8}(h:ls[i]? = some l):ja ls (i+1)=ja ls i+1+l.length:=by
 unfold ja
 rw[List.take_add_one,h]
 show(labs (ls.take i++[l])).length=_
 rw[qz0,List.length_append]
 show _+(lab l++[]).length=_
 rw[List.append_nil,vm];omega
theorem qo1:∀ (a b:List (List UInt8)),mk (a++b)=labs a++mk b
 |[],_=>rfl
 |l :: a,b=>by
  show lab l++mk (a++b)=(lab l++labs a)++mk b
  rw[qo1 a b,List.append_assoc]
theorem qu5(ls:List (List UInt8))(i:Nat):(mk ls).drop (ja ls i)=mk (ls.drop i):=by
 have e:mk ls=labs (ls.take i)++mk (ls.drop i):=by rw[<-qo1,List.take_append_drop]
 unfold ja
 conv=>lhs;rw[e]
 rw[List.drop_left]
theorem pos_lt(ls:List (List UInt8))(i:Nat):ja ls i<(mk ls).length:=by
 have e:mk ls=labs (ls.take i)++mk (ls.drop i):=by rw[<-qo1,List.take_append_drop]
 rw[e,List.length_append]
 have:=qc9 (ls.drop i)
 unfold ja;omega
theorem pos_len(ls:List (List UInt8))(i:Nat):ja ls i+(mk (ls.drop i)).length=(mk ls).length:=by
 have e:mk ls=labs (ls.take i)++mk (ls.drop i):=by rw[<-qo1,List.take_append_drop]
 conv=>rhs;rw[e]
 rw[List.length_append];rfl
theorem bt_pos{ls:List (List UInt8)}(h:∀ l ∈ ls,okL l){i:Nat}{l:List UInt8}(hi:ls[i]? = some l):bt (mk ls) (ja ls i)=l.length:=by
 have hd:=qu5 ls i
 have hlt:=(List.getElem?_eq_some_iff.1 hi).1
 have e:ls.drop i=l :: ls.drop (i+1):=by
  rw[List.drop_eq_getElem_cons hlt,(List.getElem?_eq_some_iff.1 hi).2]
 have:=qa6 (mk ls) (ja ls i) 0
 rw [Nat.add_zero] at this
 rw[<-this,hd,e]
 exact wz l (mk (ls.drop (i+1))) (h l (List.mem_of_getElem? hi))
theorem bt_end(ls:List (List UInt8)):bt (mk ls) (ja ls ls.length)=0:=by
 have hd:=qu5 ls ls.length
 have:=qa6 (mk ls) (ja ls ls.length) 0
 rw [Nat.add_zero] at this
 rw[<-this,hd,List.drop_length];rfl
theorem pos_mono{ls:List (List UInt8)}{i j:Nat}(h:i<j)(hj:j<=ls.length):ja ls i<ja ls j:=by
 induction j with
 |zero=>omega
 |succ j ih =>
  have hs:ls[j]? = some ls[j]:=List.getElem?_eq_getElem (by omega)
  have:=jb3 hs
  rcases Nat.lt_or_ge i j with hl|hl
  ·have:=ih hl (by omega);omega
  ·have:i=j:=by omega
   subst this;omega
def ye(n z:List UInt8):Bool:=decide (qc n) && (decide (qc z) && (fl z).isSuffixOf (fl n))
theorem withinN_iff{n z:List UInt8}:ye n z=true↔qc n/\qc z/\∃ j,j<=(labN n).length/\(fl n).drop j=fl z:=by
 unfold ye
 simp only[Bool.and_eq_true,decide_eq_true_eq,List.isSuffixOf_iff_suffix]
 refine and_congr_right fun h1=>and_congr_right fun h2=>?_
 constructor
 ·intro h
  have hl:=h.length_le
  refine⟨(fl n).length - (fl z).length,by unfold fl;simp,?_⟩
  exact(List.suffix_iff_eq_drop.1 h).symm
 ·rintro ⟨j,_,e⟩
  rw[<-e];exact List.drop_suffix j (fl n)
theorem within_at{n z:List UInt8}(hn:qc n)(hz:qc z){j:Nat}(hp:ja (labN n) j+z.length=n.length):(fold (n.drop (ja (labN n) j))=fold z)↔(fl n).drop j=fl z:=by
 obtain⟨_,h2,h3⟩:=vn hn
 have hd:n.drop (ja (labN n) j)=mk ((labN n).drop j):=by
  have:=qu5 (labN n) j
  rw [<-h3] at this
  exact this
 have h4:∀ l ∈ (labN n).drop j,okL l:=fun l hl=>h2 l (List.mem_of_mem_drop hl)
 rw[hd,fold_mk h4,fold_fl hz]
 have e:((labN n).drop j).map fold=(fl n).drop j:=by unfold fl;rw[List.map_drop]
 rw[e]
 refine⟨fun h=>mk_inj (fun l hl=>fl_ok hn l (List.mem_of_mem_drop hl)) (fl_ok hz) h,fun h=>by rw[h]⟩
theorem qp8:∀ {ls:List (List UInt8)},(mk (ls.map fold)).length=(mk ls).length
 |[]=>rfl
 |l :: ls=>by
  show(lab (fold l)++mk (ls.map fold)).length=(lab l++mk ls).length
  rw[List.length_append,List.length_append,vm,vm,qq1,qp8]
theorem ja3{n z:List UInt8}(hn:qc n)(hz:qc z){j:Nat}(h:(fl n).drop j=fl z):ja (labN n) j+z.length=n.length:=by
 obtain⟨_,_,h3⟩:=vn hn
 obtain⟨_,_,h4⟩:=vn hz
 have e:(mk ((labN n).drop j)).length=z.length:=by
  have:mk (((labN n).drop j).map fold)=mk ((labN z).map fold):=by
   rw[List.map_drop]
   exact congrArg mk h
  have:=congrArg List.length this
  rw [qp8,qp8,<-h4] at this
  exact this
 rw[<-e]
 conv=>rhs;rw[h3]
 exact pos_len (labN n) j
instance (s:List UInt8):Decidable (qc s):=by unfold qc;infer_instance
theorem ql9(s:List UInt8)(a:Nat):sub s (a:Int) (s.length:Int)=s.drop a:=by
 unfold sub
 rw[Int.toNat_natCast,Int.toNat_natCast,List.take_of_length_le (by simp)]
theorem within_law{n z:List UInt8}(hn:qc n)(hz:qc z)(hl:z.length<=n.length)(b:Bool)(hb:b=true↔∃ j,j<=(labN n).length/\ja (labN n) j=n.length - z.length) :
 (b && (fold (n.drop (n.length - z.length)) == fold z))=ye n z:=by
 rw[Bool.eq_iff_iff,withinN_iff,Bool.and_eq_true,hb,beq_iff_eq]
 constructor
 ·rintro ⟨⟨j,hj,hp⟩,hf⟩
  refine⟨hn,hz,j,hj,?_⟩
  exact(within_at hn hz (j:=j) (by omega)).1 (by rw[hp];exact hf)
 ·rintro ⟨_,_,j,hj,hf⟩
  have hp:=ja3 hn hz hf
  refine⟨⟨j,hj,by omega⟩,?_⟩
  have:=(within_at hn hz (j:=j) hp).2 hf
  rwa [show ja (labN n) j=n.length - z.length by omega] at this
theorem within_long{n z:List UInt8}(hl:n.length<z.length):ye n z=false:=by
 cases h:ye n z
 ·rfl
 ·obtain⟨hn,hz,j,_,hf⟩:=withinN_iff.1 h
  have:=ja3 hn hz hf
  omega
theorem within_ok(n z:List UInt8):FnOk Tryz.prog 16 [.d (.str n),.d (.str z)] (.d (.bool (ye n z))):=by
 refine qs (TT:=TT) (IN:=qf [(50,Tryz.f50,1),(115,Tryz.f115,2)]) qe (qw (qw qi Tryz.func115 (by kernel_rfl) (by kernel_rfl)) Tryz.func50 (by kernel_rfl) (by kernel_rfl)) mixed 1000 Tryz.func16 rfl (qh Tryz.func16 (by kernel_rfl) rfl) rfl 50 (by kernel_rfl) ?_
 conv=>whnf
 refine oD (wl n) rfl rfl ?_
 by_cases hn:qc n
 case neg =>
  rw[if_neg hn,show ye n z=false by unfold ye;rw[decide_eq_false hn];rfl]
  conv=>whnf
  repeat(first|(refine brT rfl ?_;conv=>whnf))
  try exact rfl
 rw[if_pos hn]
 conv=>whnf
 refine brF rfl ?_
 conv=>whnf
 refine oD (wl z) rfl rfl ?_
 by_cases hz:qc z
 case neg =>
  rw[if_neg hz,show ye n z=false by unfold ye;rw[decide_eq_false hz,Bool.false_and,Bool.and_false]]
  conv=>whnf
  repeat(first|(refine brT rfl ?_;conv=>whnf))
  try exact rfl
 rw[if_pos hz]
 conv=>whnf
 refine brF rfl ?_
 conv=>whnf
 refine⟨fun h1=>?_,fun h1=>?_⟩
 ·have h1:(z.length:Int) > n.length:=of_decide_eq_true h1
  rw[within_long (by omega)]
  conv=>whnf
  try exact rfl
 have h1:¬ (z.length:Int) > n.length:=of_decide_eq_false h1
 obtain⟨hn1,hn2,hn3⟩:=vn hn
 have hz1:=hz.2.1
 have hmw:IntKind.i64.wrap ((n.length:Int) - (z.length:Int))=((n.length - z.length:Nat):Int):=by rw[qn _ (by omega)];omega
 have hlaw:=within_law hn hz (by omega)
 have hzero:(((n.length - z.length:Nat):Int) == 0)=decide (n.length - z.length=0):=by rw[Bool.eq_iff_iff];simp
 conv=>whnf
 rw[hmw,hzero]
 have hend:∀ i,ja (labN n) i<n.length:=fun i=>by have:=pos_lt (labN n) i;rw [<-hn3] at this;exact this
 have hbt:∀ i l,(labN n)[i]? = some l->bt n (ja (labN n) i)=l.length:=fun i l h=>by
  have:=bt_pos hn2 h
  rw [<-hn3] at this;exact this
 have hbe:bt n (ja (labN n) (labN n).length)=0:=by
  have:=bt_end (labN n)
  rw [<-hn3] at this;exact this
 generalize labN n=ls at hn2 hn3 hlaw hend hbt hbe
 obtain⟨m,hm⟩:∃ m,n.length - z.length=m:=⟨_,rfl⟩
 rw [hm] at hlaw ⊢
 refine .inv Nat (fun i=>i<=ls.length/\∀ j,0<j->j<=i->ja ls j<m) (fun i=>[(3,iV (ja ls i))]) (fun _=>[]) (fun i=>ls.length - i) ⟨0,[0,1,2,3],⟨Nat.zero_le _,fun j h1 h2=>by omega⟩,?_⟩ ?_
 ·conv=>whnf
  repeat'(first|exact ⟨⟩|exact rfl|exact qu _|exact .inr rfl|exact fun _ _=>rfl|exact noI|apply And.intro)
 intro i hi
 obtain⟨hi1,hi2⟩:=hi
 have hp:=hend i
 conv=>whnf
 refine brT (decide_eq_true (by omega)) ?_
 conv=>whnf
 refine⟨by omega,?_⟩
 conv=>whnf
 rw[zf,qn (bt n (ja ls i):Int) (by have:=uy n (ja ls i);omega)]
 rcases Nat.lt_or_ge i ls.length with hlt|hge
 ·have hli:ls[i]? = some ls[i]:=List.getElem?_eq_getElem hlt
  have hb:=hbt i _ hli
  have hok:=hn2 _ (List.getElem_mem hlt)
  have hps:=jb3 hli
  have hp2:=hend (i+1)
  rw[hb]
  generalize ls[i]=l at hli hb hok hps
  obtain⟨ho1,ho2⟩:=hok
  refine brF (by rw[beq_eq_false_iff_ne];omega) ?_
  conv=>whnf
  refine brF (decide_eq_false (by omega)) ?_
  conv=>whnf
  have e1:IntKind.i64.wrap ((n.length:Int) - (ja ls i:Int))=((n.length - ja ls i:Nat):Int):=by rw[qn _ (by omega)];omega
  rw[e1]
  refine brF (decide_eq_false (by omega)) ?_
  conv=>whnf
  have e2:IntKind.i64.wrap ((ja ls i:Int)+IntKind.i64.wrap (1+(l.length:Int)))=((ja ls (i+1):Nat):Int):=by rw[qn (1+(l.length:Int)) (by omega),qn _ (by omega)];omega
  rw[e2]
  refine⟨fun h2=>?_,fun h2=>?_⟩
  ·have h2:m<=ja ls (i+1):=by
    have h:((ja ls (i+1):Nat):Int) >= (m:Int):=of_decide_eq_true h2
    omega
   conv=>whnf
   refine⟨fun h3=>?_,fun h3=>?_⟩
   ·have h3:m=0:=of_decide_eq_true h3
    conv=>whnf
    rw[<-hlaw true ⟨fun _=>⟨0,Nat.zero_le _,h3.symm⟩,fun _=>rfl⟩]
    refine⟨by omega,?_⟩
    conv=>whnf
    rw[ql9]
    refine oD (vq _ (by rw[List.length_drop];omega)) rfl rfl ?_
    conv=>whnf
    refine oD (vq z (by omega)) rfl rfl ?_
    conv=>whnf
    try exact rfl
   ·have h3:¬ m=0:=of_decide_eq_false h3
    conv=>whnf
    refine⟨fun h4=>?_,fun h4=>?_⟩
    ·have h4:ja ls (i+1)=m:=by simp at h4;omega
     conv=>whnf
     rw[<-hlaw true ⟨fun _=>⟨i+1,hlt,h4⟩,fun _=>rfl⟩]
     refine⟨by omega,?_⟩
     conv=>whnf
     rw[ql9]
     refine oD (vq _ (by rw[List.length_drop];omega)) rfl rfl ?_
     conv=>whnf
     refine oD (vq z (by omega)) rfl rfl ?_
     conv=>whnf
     try exact rfl
    ·have h4:¬ ja ls (i+1)=m:=by simp at h4;omega
     have hno:¬ ∃ j,j<=ls.length/\ja ls j=m:=by
      rintro ⟨j,j1,j2⟩
      rcases Nat.lt_trichotomy j (i+1) with x|x|x
      ·rcases Nat.eq_zero_or_pos j with y|y
       ·subst y;exact h3 j2.symm
       ·have:=hi2 j y (by omega);omega
      ·subst x;exact h4 j2
      ·have:=pos_mono x j1;omega
     rw[<-hlaw false ⟨fun h=>(by cases h),fun h=>absurd h hno⟩]
     conv=>whnf
     try exact rfl
  ·have h2:ja ls (i+1)<m:=by
    have h:¬ ((ja ls (i+1):Nat):Int) >= (m:Int):=of_decide_eq_false h2
    omega
   conv=>whnf
   refine⟨i+1,[0,1,2,3],⟨hlt,fun j k1 k2=>?_⟩,by omega,?_⟩
   ·rcases Nat.lt_or_ge j (i+1) with x|x
    ·exact hi2 j k1 (by omega)
    ·rw[show j=i+1 by omega];exact h2
   conv=>whnf
   repeat'(first|exact ⟨⟩|exact rfl|exact qu _|exact .inr rfl|exact fun _ _=>rfl|exact noI|apply And.intro)
 ·have hil:i=ls.length:=by omega
  subst hil
  rw[hbe]
  conv=>whnf
  refine brT rfl ?_
  conv=>whnf
  refine⟨fun h3=>?_,fun h3=>?_⟩
  ·have h3:m=0:=of_decide_eq_true h3
   conv=>whnf
   rw[<-hlaw true ⟨fun _=>⟨0,Nat.zero_le _,h3.symm⟩,fun _=>rfl⟩]
   refine⟨by omega,?_⟩
   conv=>whnf
   rw[ql9]
   refine oD (vq _ (by rw[List.length_drop];omega)) rfl rfl ?_
   conv=>whnf
   refine oD (vq z (by omega)) rfl rfl ?_
   conv=>whnf
   try exact rfl
  ·have h3:¬ m=0:=of_decide_eq_false h3
   have hno:¬ ∃ j,j<=ls.length/\ja ls j=m:=by
    rintro ⟨j,j1,j2⟩
    rcases Nat.eq_zero_or_pos j with y|y
    ·subst y;exact h3 j2.symm
    ·have:=hi2 j y j1;omega
   rw[<-hlaw false ⟨fun h=>(by cases h),fun h=>absurd h hno⟩]
   conv=>whnf
   try exact rfl
def upN(n:List UInt8):List UInt8:=n.drop (1+bt n 0)
def yo(n:List UInt8):List UInt8 × Int:=if qc n then (if n=[0] then ([],3) else (upN n,0)) else ([],2)
theorem qo0{n:List UInt8}(h:qc n)(hn:n≠[0]):1+bt n 0<=n.length/\bt n 0<=63:=by
 obtain⟨h1,h2,h3⟩:=vn h
 cases hl:labN n with
 |nil=>rw [hl] at h3;exact absurd h3 hn
 |cons l ls =>
  rw [hl] at h2 h3
  have hok:=h2 l (by simp)
  have hb:bt n 0=l.length:=by rw[h3];exact wz l (mk ls) hok
  rw[hb]
  have:=hok.2
  refine⟨?_,this⟩
  conv=>rhs;rw[h3]
  show _<=(lab l++mk ls).length
  rw[List.length_append,vm];omega
theorem qs2(n:List UInt8):FnOk Tryz.prog 261 [.d (.str n)] (.tup [.d (.str (yo n).1),.d (.int .i64 (yo n).2)]):=by
 refine qs (TT:=TT) (IN:=qf []) qe qi mixed 1000 Tryz.func261 rfl (qh Tryz.func261 (by kernel_rfl) rfl) rfl 14 (by kernel_rfl) ?_
 conv=>whnf
 refine oD (wl n) rfl rfl ?_
 by_cases hn:qc n
 ·rw[if_pos hn]
  conv=>whnf
  refine brF rfl ?_
  conv=>whnf
  refine⟨fun h1=>?_,fun h1=>?_⟩
  ·have h1:n=[0]:=by simpa using h1
   rw[show yo n=([],3) by unfold yo;rw[if_pos hn,if_pos h1]]
   conv=>whnf
   repeat'(first|exact ⟨⟩|exact rfl|exact .inr rfl|exact .inl rfl|exact fun _ _=>rfl|exact noI|apply And.intro)
  ·have h1:n≠[0]:=by simpa using h1
   rw[show yo n=(upN n,0) by unfold yo;rw[if_pos hn,if_neg h1]]
   obtain⟨k1,k2⟩:=qo0 hn h1
   have hpos:=hn.1
   have e1:IntKind.i64.wrap (1+IntKind.i64.wrap (yg n 0))=((1+bt n 0:Nat):Int):=by
    have:=zf n 0
    rw [show ((0:Nat):Int)=0 from rfl] at this
    rw[this,qn (bt n 0:Int) (by omega),qn _ (by omega)];omega
   conv=>whnf
   refine⟨by omega,?_⟩
   conv=>whnf
   rw[e1]
   refine⟨by omega,?_⟩
   conv=>whnf
   rw[ql9]
   repeat'(first|exact ⟨⟩|exact rfl|exact .inr rfl|exact .inl rfl|exact fun _ _=>rfl|exact noI|apply And.intro)
 ·rw[if_neg hn]
  rw[show yo n=([],2) by unfold yo;rw[if_neg hn]]
  conv=>whnf
  refine brT rfl ?_
  conv=>whnf
  repeat'(first|exact ⟨⟩|exact rfl|exact .inr rfl|exact .inl rfl|exact fun _ _=>rfl|exact noI|apply And.intro)
theorem qe7{n:List UInt8}(h:qc n)(hn:n≠[0]):qc (upN n):=by
 obtain⟨h1,h2,h3⟩:=vn h
 cases hl:labN n with
 |nil=>rw [hl] at h3;exact absurd h3 hn
 |cons l ls =>
  rw [hl] at h2 h3
  have hok:=h2 l (by simp)
  have hb:bt n 0=l.length:=by rw[h3];exact wz l (mk ls) hok
  have hu:upN n=mk ls:=by
   unfold upN
   rw[hb,h3]
   show(UInt8.ofNat l.length :: (l++mk ls)).drop (1+l.length)=_
   rw[Nat.add_comm,List.drop_succ_cons,List.drop_left]
  rw[hu]
  refine(qk8 _).2 ⟨?_,ls,fun x hx=>h2 x (by simp[hx]),rfl⟩
  rw [h3] at h1
  have:(mk (l :: ls)).length=(lab l).length+(mk ls).length:=by
   show(lab l++mk ls).length=_
   rw[List.length_append]
  omega
def xh(H:List Held)(now:Int):Nat->List UInt8->Option St
 |0,_=>none
 |k+1,n=>match getH H n 2 2 now with
  |some h=>if h.no || h.name then (if n=[0] then none else xh H now k (upN n)) else some (k9 n h now)
  |none=>if n=[0] then none else xh H now k (upN n)
def clC(H:List Held)(now:Int):Nat->CSt->List UInt8->CSt
 |0,c,_=>c
 |k+1,c,n=>match getH H n 2 2 now with
  |some h=>if h.no || h.name then (if n=[0] then getS c n 2 2 now else clC H now k (getS c n 2 2 now) (upN n)) else getS c n 2 2 now
  |none=>if n=[0] then getS c n 2 2 now else clC H now k (getS c n 2 2 now) (upN n)
def z1(H:List Held)(n:List UInt8)(now:Int):Option St:=if qc n then xh H now n.length n else none
def wm(H:List Held)(c:CSt)(n:List UInt8)(now:Int):CSt:=if qc n then clC H now n.length c n else c
theorem Kn.closeC{H:List Held}(now:Int):∀ (k:Nat) {c:CSt} (_:Kn c H) (n:List UInt8),Kn (clC H now k c n) H
 |0,_,hk,_=>hk
 |k+1,c,hk,n=>by
  unfold clC
  repeat'(first|exact(hk.get _ _ _ _)|exact Kn.closeC now k (hk.get _ _ _ _) _|split)
theorem Kn.close{c:CSt}{H:List Held}(hk:Kn c H)(n:List UInt8)(now:Int):Kn (wm H c n now) H:=by
 unfold wm
 split
 ·exact hk.closeC _ _ _
 ·exact hk
def uq(n:List UInt8)(o:Option St):SV:=match o with
 |some s=>.tup [.agg [.d (.str s.nm),.d (.int .u16 s.ty),.d (.int .u32 s.ttl),.d (.sl s.z s.data.length 1 (strs s.data))],.d (.int .i64 0)]
 |none=>.tup [.agg [.d (.str []),.d (.int .u16 0),.d (.int .u32 0),nilS],.d (.int .i64 (if qc n then 3 else 2))]
structure CuSt where
 c:CSt
 n:List UInt8
 k:Nat
theorem closest_ok(c:CSt)(H:List Held)(hk:Kn c H)(name:List UInt8)(now:Int) :
 COk Tryz.prog 166 [.ptr 0 0,.d (.str name),.d (.int .i64 now)] (c.ks 0) (fun s k=>s=uq name (z1 H name now)/\k=(wm H c name now).ks 0):=by
 refine jk (TT:=TT) (IN:=qf [(211,Tryz.f211,3),(240,Tryz.f240,4),(231,Tryz.f231,1),(260,Tryz.f260,2)]) qe (qw (qw (qw (qw qi Tryz.func260 (by kernel_rfl) (by kernel_rfl)) Tryz.func231 (by kernel_rfl) (by kernel_rfl)) Tryz.func240 (by kernel_rfl) (by kernel_rfl)) Tryz.func211 (by kernel_rfl) (by kernel_rfl)) mixed 1000 Tryz.func166 rfl (qh Tryz.func166 (by kernel_rfl) rfl) 17 (by kernel_rfl) ?_
 conv=>whnf
 refine oD (wl name) rfl rfl ?_
 by_cases hn:qc name
 case neg =>
  have hF:z1 H name now=none:=by unfold z1;rw[if_neg hn]
  have hC:wm H c name now=c:=by unfold wm;rw[if_neg hn]
  rw[if_neg hn,hF,hC]
  conv=>whnf
  repeat(first|(refine brF rfl ?_;conv=>whnf)|(refine brT rfl ?_;conv=>whnf))
  refine⟨[0,1,2],.tup [.agg [.d (.str []),.d (.int .u16 0),.d (.int .u32 0),nilS],.d (.int .i64 2)],c.ks 0,rfl,rfl,rfl,?_,?_,rfl⟩
  ·repeat'(first|exact ⟨⟩|exact rfl|exact(fun _ _ _ _ h=>⟨qb _,h⟩)|exact fun _=>Iff.rfl|exact fun _ _=>rfl|apply And.intro)
   all_goals exact qa rfl _
  ·unfold uq;rw[if_neg hn]
 have hF:z1 H name now=xh H now name.length name:=by unfold z1;rw[if_pos hn]
 have hC:wm H c name now=clC H now name.length c name:=by unfold wm;rw[if_pos hn]
 generalize z1 H name now=R at hF ⊢
 generalize wm H c name now=C at hC ⊢
 have hV:uq name none = .tup [.agg [.d (.str []),.d (.int .u16 0),.d (.int .u32 0),nilS],.d (.int .i64 3)]:=by unfold uq;rw[if_pos hn]
 rw[if_pos hn]
 conv=>whnf
 repeat(first|(refine brF rfl ?_;conv=>whnf)|(refine brT rfl ?_;conv=>whnf))
 refine oD (wl name) rfl rfl ?_
 rw[if_pos hn]
 conv=>whnf
 repeat(first|(refine brF rfl ?_;conv=>whnf)|(refine brT rfl ?_;conv=>whnf))
 refine .inv CuSt (fun x=>qc x.n/\x.n.length<=x.k/\Kn x.c H/\R=xh H now x.k x.n/\C=clC H now x.k x.c x.n) (fun x=>[(3,.d (.str x.n))]) (fun x=>x.c.klq 0) (fun x=>x.k) ⟨⟨c,name,name.length⟩,[0,1,2,3,4,5,6,7,8,9,10,11],⟨hn,Nat.le_refl _,hk,hF,hC⟩,?_⟩ ?_
 ·conv=>whnf
  repeat'(first|exact ⟨⟩|exact rfl|exact(fun _ _ _ _ h=>⟨qb _,h⟩)|exact fun _=>Iff.rfl|exact fun _ _=>rfl|apply And.intro)
  all_goals exact qa rfl _
 clear hF hC hk hn
 rintro ⟨c,n,k⟩ ⟨g1,g2,hk,g4,g5⟩
 replace g1:qc n:=g1
 replace g2:n.length<=k:=g2
 replace hk:Kn c H:=hk
 obtain⟨k,rfl⟩:∃ k',k=k'+1:=⟨k - 1,by have:=g1.1;omega⟩
 replace g4:R=xh H now (k+1) n:=g4
 replace g5:C=clC H now (k+1) c n:=g5
 unfold xh at g4
 unfold clC at g5
 have hnl:n.length<=255:=g1.2.1
 have hq:=getq c H hk n 2 2 now (by omega) []
 have hk2:=hk.get n 2 2 now
 conv=>whnf
 refine .rel _ (hq [_,_,_,_,_,_,_,_,_]) (fun r ks' hR=>?_)
 obtain⟨rfl,rfl⟩:=hR
 clear hq
 generalize getS c n 2 2 now=CC at g5 hk2 ⊢
 cases hg:getH H n 2 2 now with
 |none =>
  rw [hg] at g4 g5
  dsimp only at g4 g5
  conv=>whnf
  repeat(first|(refine brF rfl ?_;conv=>whnf)|(refine brT rfl ?_;conv=>whnf))
  refine oD (qs2 n) rfl rfl ?_
  by_cases hz:n=[0]
  ·have hp:yo n=([],3):=by unfold yo;rw[if_pos g1,if_pos hz]
   rw [if_pos hz] at g4 g5
   subst g4 g5
   rw[hp]
   conv=>whnf
   repeat(first|(refine brF rfl ?_;conv=>whnf)|(refine brT rfl ?_;conv=>whnf))
   refine⟨[0,1,2],.tup [.agg [.d (.str []),.d (.int .u16 0),.d (.int .u32 0),nilS],.d (.int .i64 3)],CSt.ks _ 0,rfl,rfl,rfl,?_,hV.symm,rfl⟩
   repeat'(first|exact ⟨⟩|exact rfl|exact(fun _ _ _ _ h=>⟨qb _,h⟩)|exact fun _=>Iff.rfl|exact fun _ _=>rfl|apply And.intro)
   all_goals exact qa rfl _
  ·have hp:yo n=(upN n,0):=by unfold yo;rw[if_pos g1,if_neg hz]
   rw [if_neg hz] at g4 g5
   rw[hp]
   conv=>whnf
   repeat(first|(refine brF rfl ?_;conv=>whnf)|(refine brT rfl ?_;conv=>whnf))
   refine⟨⟨CC,upN n,k⟩,[0,1,2,3,4,5,6,7,8,9,10,11],⟨qe7 g1 hz,?_,hk2,g4,g5⟩,Nat.lt_succ_self k,?_⟩
   ·have:=qo0 g1 hz
    show(upN n).length<=k
    unfold upN
    rw[List.length_drop]
    omega
   ·conv=>whnf
    repeat'(first|exact ⟨⟩|exact rfl|exact(fun _ _ _ _ h=>⟨qb _,h⟩)|exact fun _=>Iff.rfl|exact fun _ _=>rfl|apply And.intro)
    all_goals exact qa rfl _
 |some h =>
  rw [hg] at g4 g5
  dsimp only at g4 g5
  obtain⟨nm,ty,ttl,z,data,rank,no,nb,til⟩:=h
  cases no with
  |true =>
   replace g4:R=if n=[0] then none else xh H now k (upN n):=g4
   replace g5:C=if n=[0] then CC else clC H now k CC (upN n):=g5
   conv=>whnf
   repeat(first|(refine brF rfl ?_;conv=>whnf)|(refine brT rfl ?_;conv=>whnf))
   refine oD (qs2 n) rfl rfl ?_
   by_cases hz:n=[0]
   ·have hp:yo n=([],3):=by unfold yo;rw[if_pos g1,if_pos hz]
    rw [if_pos hz] at g4 g5
    subst g4 g5
    rw[hp]
    conv=>whnf
    repeat(first|(refine brF rfl ?_;conv=>whnf)|(refine brT rfl ?_;conv=>whnf))
    refine⟨[0,1,2],.tup [.agg [.d (.str []),.d (.int .u16 0),.d (.int .u32 0),nilS],.d (.int .i64 3)],CSt.ks _ 0,rfl,rfl,rfl,?_,hV.symm,rfl⟩
    repeat'(first|exact ⟨⟩|exact rfl|exact(fun _ _ _ _ h=>⟨qb _,h⟩)|exact fun _=>Iff.rfl|exact fun _ _=>rfl|apply And.intro)
    all_goals exact qa rfl _
   ·have hp:yo n=(upN n,0):=by unfold yo;rw[if_pos g1,if_neg hz]
    rw [if_neg hz] at g4 g5
    rw[hp]
    conv=>whnf
    repeat(first|(refine brF rfl ?_;conv=>whnf)|(refine brT rfl ?_;conv=>whnf))
    refine⟨⟨CC,upN n,k⟩,[0,1,2,3,4,5,6,7,8,9,10,11],⟨qe7 g1 hz,?_,hk2,g4,g5⟩,Nat.lt_succ_self k,?_⟩
    ·have:=qo0 g1 hz
     show(upN n).length<=k
     unfold upN
     rw[List.length_drop]
     omega
    ·conv=>whnf
     repeat'(first|exact ⟨⟩|exact rfl|exact(fun _ _ _ _ h=>⟨qb _,h⟩)|exact fun _=>Iff.rfl|exact fun _ _=>rfl|apply And.intro)
     all_goals exact qa rfl _
  |false =>
   cases nb with
   |true =>
    replace g4:R=if n=[0] then none else xh H now k (upN n):=g4
    replace g5:C=if n=[0] then CC else clC H now k CC (upN n):=g5
    conv=>whnf
    repeat(first|(refine brF rfl ?_;conv=>whnf)|(refine brT rfl ?_;conv=>whnf))
    refine oD (qs2 n) rfl rfl ?_
    by_cases hz:n=[0]
    ·have hp:yo n=([],3):=by unfold yo;rw[if_pos g1,if_pos hz]
     rw [if_pos hz] at g4 g5
     subst g4 g5
     rw[hp]
     conv=>whnf
     repeat(first|(refine brF rfl ?_;conv=>whnf)|(refine brT rfl ?_;conv=>whnf))
     refine⟨[0,1,2],.tup [.agg [.d (.str []),.d (.int .u16 0),.d (.int .u32 0),nilS],.d (.int .i64 3)],CSt.ks _ 0,rfl,rfl,rfl,?_,hV.symm,rfl⟩
     repeat'(first|exact ⟨⟩|exact rfl|exact(fun _ _ _ _ h=>⟨qb _,h⟩)|exact fun _=>Iff.rfl|exact fun _ _=>rfl|apply And.intro)
     all_goals exact qa rfl _
    ·have hp:yo n=(upN n,0):=by unfold yo;rw[if_pos g1,if_neg hz]
     rw [if_neg hz] at g4 g5
     rw[hp]
     conv=>whnf
     repeat(first|(refine brF rfl ?_;conv=>whnf)|(refine brT rfl ?_;conv=>whnf))
     refine⟨⟨CC,upN n,k⟩,[0,1,2,3,4,5,6,7,8,9,10,11],⟨qe7 g1 hz,?_,hk2,g4,g5⟩,Nat.lt_succ_self k,?_⟩
     ·have:=qo0 g1 hz
      show(upN n).length<=k
      unfold upN
      rw[List.length_drop]
      omega
     ·conv=>whnf
      repeat'(first|exact ⟨⟩|exact rfl|exact(fun _ _ _ _ h=>⟨qb _,h⟩)|exact fun _=>Iff.rfl|exact fun _ _=>rfl|apply And.intro)
      all_goals exact qa rfl _
   |false =>
    replace g4:R=some (k9 n ⟨nm,ty,ttl,z,data,rank,false,false,til⟩ now):=g4
    replace g5:C=CC:=g5
    subst g4 g5
    conv=>whnf
    repeat(first|(refine brF rfl ?_;conv=>whnf)|(refine brT rfl ?_;conv=>whnf))
    refine⟨[0,1,2],uq name (some (k9 n ⟨nm,ty,ttl,z,data,rank,false,false,til⟩ now)),C.ks 0,rfl,rfl,rfl,?_,rfl,rfl⟩
    repeat'(first|exact ⟨⟩|exact rfl|exact(fun _ _ _ _ h=>⟨qb _,h⟩)|exact fun _=>Iff.rfl|exact fun _ _=>rfl|apply And.intro)
    all_goals exact qa rfl _
def ddp(a:List Int)(x:Int):List Int:=if x ∈ a then a else a++[x]
def jb(l:List Int):List Int:=l.foldl ddp []
def entC(P:List Int)(x:Int):List DV × List SV:=([.int .u32 x],[.d (.int .i64 (P.count x:Nat))])
def cm(P:List Int):List (List DV × List SV):=(jb P).map (entC P)
theorem qt6(P:List Int)(x:Int):jb (P++[x])=ddp (jb P) x:=by unfold jb;rw[List.foldl_append];rfl
theorem once_go:∀ (l a:List Int),(∀ x,x ∈ l.foldl ddp a↔x ∈ l\/x ∈ a)/\(a.Nodup->(l.foldl ddp a).Nodup)
 |[],a=>⟨fun x=>by simp,fun h=>h⟩
 |y :: l,a=>by
  obtain⟨h1,h2⟩:=once_go l (ddp a y)
  refine⟨fun x=>?_,fun h=>?_⟩
  ·rw[List.foldl_cons,h1]
   unfold ddp
   split
   ·rename_i hy
    constructor
    ·rintro (h|h)
     ·exact .inl (List.mem_cons_of_mem _ h)
     ·exact .inr h
    ·rintro (h|h)
     ·rcases List.mem_cons.1 h with rfl|h
      ·exact .inr hy
      ·exact .inl h
     ·exact .inr h
   ·simp only[List.mem_append,List.mem_cons,List.not_mem_nil,or_false]
    constructor
    ·rintro (h|h|h)
     ·exact .inl (.inr h)
     ·exact .inr h
     ·exact .inl (.inl h)
    ·rintro ((h|h)|h)
     ·exact .inr (.inr h)
     ·exact .inl h
     ·exact .inr (.inl h)
  ·rw[List.foldl_cons]
   refine h2 ?_
   unfold ddp
   split
   ·exact h
   ·rename_i hy
    rw[List.nodup_append]
    refine⟨h,by simp,fun a ha b hb=>?_⟩
    rw [List.mem_singleton] at hb
    subst hb
    exact fun e=>hy (e ▸ ha)
theorem vj(P:List Int)(x:Int):x ∈ jb P↔x ∈ P:=by unfold jb;rw[(once_go P []).1];simp
theorem once_nodup(P:List Int):(jb P).Nodup:=(once_go P []).2 List.nodup_nil
theorem qs4(a b:Int):jy [.int .u32 a] [.int .u32 b]=decide (a=b):=by
 rw[Bool.eq_iff_iff]
 simp[jy,dEq,kEq]
theorem findM_map(f:Int->List SV)(x:Int):∀ l:List Int,wb (l.map fun y=>([DV.int .u32 y],f y)) [.int .u32 x]=if x ∈ l then some (f x) else none
 |[]=>rfl
 |y :: l=>by
  show(if jy [.int .u32 x] [.int .u32 y] then some (f y) else wb (l.map fun y=>([DV.int .u32 y],f y)) [.int .u32 x])=_
  rw[qs4,findM_map f x l]
  by_cases h:x=y
  ·subst h;simp
  ·simp[h]
theorem kr(P:List Int)(x:Int):wb (cm P) [.int .u32 x]=if x ∈ P then some [.d (.int .i64 (P.count x:Nat))] else none:=by
 show wb ((jb P).map fun y=>([DV.int .u32 y],[.d (.int .i64 (P.count y:Nat))])) _=_
 rw[findM_map]
 by_cases h:x ∈ P
 ·rw[if_pos h,if_pos ((vj P x).2 h)]
 ·rw[if_neg h,if_neg (fun e=>h ((vj P x).1 e))]
theorem putM_in(f g:Int->List SV)(x:Int)(hg:∀ y,y≠x->f y=g y):∀ l:List Int,l.Nodup->x ∈ l->putM (l.map fun y=>([DV.int .u32 y],f y)) [.int .u32 x] (g x)=l.map fun y=>([DV.int .u32 y],g y)
 |[],_,h=>by cases h
 |y :: l,hn,h=>by
  show(if jy [.int .u32 x] [.int .u32 y] then ([DV.int .u32 x],g x) :: l.map (fun y=>([DV.int .u32 y],f y)) else ([DV.int .u32 y],f y) :: putM (l.map fun y=>([DV.int .u32 y],f y)) [.int .u32 x] (g x))=_
  rw[qs4]
  rw [List.nodup_cons] at hn
  by_cases e:x=y
  ·subst e
   simp only[decide_true,if_true,List.map_cons]
   congr 1
   refine List.map_congr_left fun z hz=>?_
   rw[hg z (fun e=>hn.1 (e ▸ hz))]
  ·rw[if_neg (by simpa using e),List.map_cons,putM_in f g x hg l hn.2 ((List.mem_cons.1 h).resolve_left e),hg y (Ne.symm e)]
theorem putM_out(f g:Int->List SV)(x:Int)(hg:∀ y,y≠x->f y=g y):∀ l:List Int,x ∉ l->putM (l.map fun y=>([DV.int .u32 y],f y)) [.int .u32 x] (g x)=(l++[x]).map fun y=>([DV.int .u32 y],g y)
 |[],_=>rfl
 |y :: l,h=>by
  show(if jy [.int .u32 x] [.int .u32 y] then ([DV.int .u32 x],g x) :: l.map (fun y=>([DV.int .u32 y],f y)) else ([DV.int .u32 y],f y) :: putM (l.map fun y=>([DV.int .u32 y],f y)) [.int .u32 x] (g x))=_
  have e:x≠y:=fun e=>h (e ▸ List.mem_cons_self ..)
  rw[qs4,if_neg (by simpa using e),putM_out f g x hg l (fun hm=>h (List.mem_cons_of_mem _ hm)),hg y (Ne.symm e)]
  rfl
theorem cm_put(P:List Int)(x:Int):putM (cm P) [.int .u32 x] [.d (.int .i64 ((P.count x+1:Nat):Int))]=cm (P++[x]):=by
 have hc:∀ y,y≠x->[SV.d (.int .i64 (P.count y:Nat))]=[SV.d (.int .i64 ((P++[x]).count y:Nat))]:=fun y h=>by
  rw[List.count_append,List.count_singleton,if_neg (by simpa using Ne.symm h),Nat.add_zero]
 have hx:P.count x+1=(P++[x]).count x:=by rw[List.count_append,List.count_singleton,if_pos (by simp)]
 rw[hx]
 unfold cm
 rw[qt6]
 unfold ddp
 by_cases h:x ∈ P
 ·rw[if_pos ((vj P x).2 h)]
  exact putM_in (fun y=>[.d (.int .i64 (P.count y:Nat))]) (fun y=>[.d (.int .i64 ((P++[x]).count y:Nat))]) x hc (jb P) (once_nodup P) ((vj P x).2 h)
 ·rw[if_neg (fun e=>h ((vj P x).1 e))]
  exact putM_out (fun y=>[.d (.int .i64 (P.count y:Nat))]) (fun y=>[.d (.int .i64 ((P++[x]).count y:Nat))]) x hc (jb P) (fun e=>h ((vj P x).1 e))
theorem yj(ρ:List Nat)(P:List Int):renM ρ (cm P)=cm P:=by
 unfold cm
 generalize jb P=l
 induction l with
 |nil=>rfl
 |cons y l ih=>exact congrArg (entC P y :: ·) ih
structure Rdr where
 s:List UInt8
 p:Nat
 bad:Bool
def Rdr.kb(r:Rdr):KB:=.cells 252 [.d (.str r.s),.d (.int .i64 r.p),.d (.bool r.bad)]
structure Rdr.Ok(r:Rdr):Prop where
 len:r.s.length<4611686018427387904
 p:r.p<=r.s.length
def Rdr.raw(r:Rdr)(n:Int):Rdr × List UInt8:=if r.bad then (r,[]) else if n<0\/n > r.s.length - r.p then ({ r with bad:=true },[]) else ({ r with p:=r.p+n.toNat },(r.s.drop r.p).take n.toNat)
theorem Rdr.Ok.raw{r:Rdr}(h:r.Ok)(n:Int):(r.raw n).1.Ok:=by
 unfold Rdr.raw
 split
 ·exact h
 ·split
  ·exact⟨h.len,h.p⟩
  ·refine⟨h.len,?_⟩
   show r.p+n.toNat<=r.s.length
   omega
theorem open_ok(s:List UInt8):COk Tryz.prog 57 [.d (.str s)] [] (fun r k=>r = .ptr 0 0/\k=[Rdr.kb ⟨s,0,false⟩]):=by
 refine jk (TT:=TT) (IN:=qf []) qe qi mixed 1000 Tryz.func57 rfl (qh Tryz.func57 (by kernel_rfl) rfl) 5 (by kernel_rfl) ?_
 conv=>whnf
 refine⟨[0],.ptr 0 0,_,rfl,rfl,rfl,?_,rfl,rfl⟩
 repeat'(first|exact ⟨⟩|exact rfl|exact fun _=>Iff.rfl|exact fun _ _=>rfl|exact qa rfl _|apply And.intro)
theorem raw_ok(r:Rdr)(hr:r.Ok)(n:Int)(hn : -9223372036854775808<=n/\n<=9223372036854775807):COk Tryz.prog 122 [.ptr 0 0,.d (.int .i64 n)] [r.kb] (fun s k=>∃ r1,k=[Rdr.kb r1]/\(s = .d (.str (r.raw n).2)/\r1=(r.raw n).1)):=by
 refine jk (TT:=TT) (IN:=qf [(67,Tryz.f67,1),(121,Tryz.f121,1)]) qe (qw (qw qi Tryz.func121 (by kernel_rfl) (by kernel_rfl)) Tryz.func67 (by kernel_rfl) (by kernel_rfl)) mixed 1000 Tryz.func122 rfl (qh Tryz.func122 (by kernel_rfl) rfl) 46 (by kernel_rfl) ?_
 have hlen:=hr.len
 have hp:=hr.p
 have hwr:IntKind.i64.wrap ((r.s.length:Int) - r.p)=(r.s.length:Int) - r.p:=qn _ (by omega)
 conv=>whnf
 refine⟨fun h1=>?_,fun h1=>?_⟩
 ·have e:r.raw n=(r,[]):=by unfold Rdr.raw;rw[if_pos h1]
  rw[e]
  conv=>whnf
  refine⟨[0],.d (.str []),[r.kb],rfl,rfl,rfl,?_,_,rfl,rfl,rfl⟩
  repeat'(first|exact ⟨⟩|exact rfl|exact fun _=>Iff.rfl|exact fun _ _=>rfl|exact qa rfl _|apply And.intro)
 conv=>whnf
 refine⟨fun h2=>?_,fun h2=>?_⟩
 ·have h2':n<0:=of_decide_eq_true h2
  have e:r.raw n=({ r with bad:=true },[]):=by unfold Rdr.raw;rw[if_neg (by simp[h1]),if_pos (.inl h2')]
  rw[e]
  conv=>whnf
  repeat(first|(refine brT rfl ?_;conv=>whnf)|(refine brF rfl ?_;conv=>whnf)|(refine .once ?_;conv=>whnf)|(refine⟨by decide,?_⟩;conv=>whnf)|(refine And.intro (Nat.le_of_ble_eq_true rfl) ?_;conv=>whnf))
  refine⟨[0],.d (.str []),[Rdr.kb { r with bad:=true }],rfl,rfl,rfl,?_,_,rfl,rfl,rfl⟩
  repeat'(first|exact ⟨⟩|exact rfl|exact fun _=>Iff.rfl|exact fun _ _=>rfl|exact qa rfl _|apply And.intro)
 have h2':¬ n<0:=of_decide_eq_false h2
 conv=>whnf
 rw[hwr]
 refine⟨fun h3=>?_,fun h3=>?_⟩
 ·have h3':n > (r.s.length:Int) - r.p:=of_decide_eq_true h3
  have e:r.raw n=({ r with bad:=true },[]):=by unfold Rdr.raw;rw[if_neg (by simp[h1]),if_pos (.inr h3')]
  rw[e]
  conv=>whnf
  repeat(first|(refine brT rfl ?_;conv=>whnf)|(refine brF rfl ?_;conv=>whnf)|(refine .once ?_;conv=>whnf)|(refine⟨by decide,?_⟩;conv=>whnf)|(refine And.intro (Nat.le_of_ble_eq_true rfl) ?_;conv=>whnf))
  refine⟨[0],.d (.str []),[Rdr.kb { r with bad:=true }],rfl,rfl,rfl,?_,_,rfl,rfl,rfl⟩
  repeat'(first|exact ⟨⟩|exact rfl|exact fun _=>Iff.rfl|exact fun _ _=>rfl|exact qa rfl _|apply And.intro)
 ·have h3':¬ n > (r.s.length:Int) - r.p:=of_decide_eq_false h3
  have e:r.raw n=({ r with p:=r.p+n.toNat },(r.s.drop r.p).take n.toNat):=by unfold Rdr.raw;rw[if_neg (by simp[h1]),if_neg (by omega)]
  have e1:IntKind.i64.wrap ((r.p:Int)+n)=((r.p+n.toNat:Nat):Int):=by rw[qn _ (by omega)];omega
  have e2:IntKind.i64.wrap (((r.p+n.toNat:Nat):Int) - n)=(r.p:Int):=by rw[qn _ (by omega)];omega
  have e3:sub r.s (r.p:Int) ((r.p+n.toNat:Nat):Int)=(r.s.drop r.p).take n.toNat:=by
   unfold sub
   rw[Int.toNat_natCast,Int.toNat_natCast,show r.p+n.toNat - r.p=n.toNat by omega]
  rw[e]
  conv=>whnf
  rw[e1,e2]
  refine⟨by omega,?_⟩
  rw[e3]
  conv=>whnf
  refine⟨[0],.d (.str ((r.s.drop r.p).take n.toNat)),[Rdr.kb { r with p:=r.p+n.toNat }],rfl,rfl,rfl,?_,_,rfl,rfl,rfl⟩
  repeat'(first|exact ⟨⟩|exact rfl|exact fun _=>Iff.rfl|exact fun _ _=>rfl|exact qa rfl _|apply And.intro)
theorem qn7{P:Program}{f:FuncId}{al al':List SV}{a:Rdr}{Q:SV->Rdr->Prop}(h:COk P f al [a.kb] (fun s k=>∃ a1,k=[Rdr.kb a1]/\Q s a1))(pre rest:List KB)(σ:Nat->Nat)(hσ:σ=sig (List.range' pre.length 1) (pre.length+(1+rest.length)))(ha:mapL σ al=al') :
 COk P f al' (pre++(a.kb :: rest)) (fun s k=>∃ s0 a1,Q s0 a1/\s=mapV σ s0/\k=pre++(Rdr.kb a1 :: rest)) :=
 COk.fam (fun a _=>[Rdr.kb a]) 1 (fun _ _=>rfl) (fun _ _ _ _=>rfl) h pre rest σ hσ ha
theorem Rdr.raw_len{r:Rdr}(n:Nat)(h:(r.raw n).1.bad=false):(r.raw n).2.length=n:=by
 unfold Rdr.raw at h ⊢
 split
 ·rename_i hb;rw [if_pos hb] at h;rw [hb] at h;cases h
 ·rename_i hb
  rw [if_neg hb] at h
  split
  ·rename_i hc;rw [if_pos hc] at h;cases h
  ·simp
   omega
theorem acc1(x y:Nat)(hx:x<72057594037927936)(hy:y<256):bits .or .u64 (IntKind.u64.wrap ((x:Int) * 2 ^ 8)) (IntKind.u64.wrap (y:Int))=((x * 256+y:Nat):Int):=by
 have e1:IntKind.u64.wrap ((x:Int) * 2 ^ 8)=((x * 256:Nat):Int):=by rw[IntKind.wrap_u64];omega
 have e2:IntKind.u64.wrap (y:Int)=(y:Int):=by rw[IntKind.wrap_u64];omega
 rw[e1,e2,u64_or_nat _ _ (by omega) (by omega)]
 have:=Nat.two_pow_add_eq_or_of_lt (i:=8) (show y<2 ^ 8 by omega) x
 rw[show x * 256=2 ^ 8 * x by omega,<-this]
theorem acc8(y0 y1 y2 y3 y4 y5 y6 y7:Nat)(h0:y0<256)(h1:y1<256)(h2:y2<256)(h3:y3<256)(h4:y4<256)(h5:y5<256)(h6:y6<256)(h7:y7<256) :
 bits .or .u64 (IntKind.u64.wrap (bits .or .u64 (IntKind.u64.wrap (bits .or .u64 (IntKind.u64.wrap (bits .or .u64 (IntKind.u64.wrap (bits .or .u64 (IntKind.u64.wrap (bits .or .u64 (IntKind.u64.wrap (bits .or .u64 (IntKind.u64.wrap (bits .or .u64 (IntKind.u64.wrap (0 * 2 ^ 8)) (IntKind.u64.wrap (y0:Int)) * 2 ^ 8)) (IntKind.u64.wrap (y1:Int)) * 2 ^ 8)) (IntKind.u64.wrap (y2:Int)) * 2 ^ 8)) (IntKind.u64.wrap (y3:Int)) * 2 ^ 8)) (IntKind.u64.wrap (y4:Int)) * 2 ^ 8)) (IntKind.u64.wrap (y5:Int)) * 2 ^ 8)) (IntKind.u64.wrap (y6:Int)) * 2 ^ 8)) (IntKind.u64.wrap (y7:Int)) =
 ((((((((((0 * 256+y0) * 256+y1) * 256+y2) * 256+y3) * 256+y4) * 256+y5) * 256+y6) * 256+y7:Nat)):Int):=by
 have e0:=acc1 0 y0 (by omega) h0
 rw [show ((0:Nat):Int)=0 from rfl] at e0
 rw[e0,acc1 _ y1 (by omega) h1,acc1 _ y2 (by omega) h2,acc1 _ y3 (by omega) h3,acc1 _ y4 (by omega) h4,acc1 _ y5 (by omega) h5,acc1 _ y6 (by omega) h6,acc1 _ y7 (by omega) h7]
theorem xg{α:Type}{l:List α}{n:Nat}(h:l.length=n+1):∃ a t,l=a :: t/\t.length=n:=by
 cases l with
 |nil=>simp at h
 |cons a t=>exact⟨a,t,rfl,by simpa using h⟩
def uv(s:List UInt8):Nat:=s.foldl (fun n b=>n * 256+b.toNat) 0
def wideN(n:Nat):Prop:=n=1\/n=2\/n=4\/n=8
def Rdr.num(r:Rdr)(width:Nat):Rdr × Nat:=((r.raw width).1,if (r.raw width).1.bad then 0 else uv (r.raw width).2)
theorem rnum_ok(r:Rdr)(hr:r.Ok)(width:Nat)(hw:wideN width):COk Tryz.prog 58 [.ptr 0 0,.d (.int .i64 width)] [r.kb] (fun s k=>∃ r1,k=[Rdr.kb r1]/\(s = .d (.int .u64 (r.num width).2)/\r1=(r.num width).1)):=by
 refine jk (TT:=TT) (IN:=qf [(120,Tryz.f120,1),(67,Tryz.f67,1)]) qe (qw (qw qi Tryz.func67 (by kernel_rfl) (by kernel_rfl)) Tryz.func120 (by kernel_rfl) (by kernel_rfl)) mixed 1000 Tryz.func58 rfl (qh Tryz.func58 (by kernel_rfl) rfl) 34 (by kernel_rfl) ?_
 rcases hw with rfl|rfl|rfl|rfl
 ·conv=>whnf
  repeat(first|(refine brT rfl ?_;conv=>whnf)|(refine brF rfl ?_;conv=>whnf)|(refine .once ?_;conv=>whnf)|(refine⟨by decide,?_⟩;conv=>whnf)|(refine And.intro (Nat.le_of_ble_eq_true rfl) ?_;conv=>whnf))
  refine .rel _ (qn7 (raw_ok r hr 1 (by omega)) [] [] _ rfl rfl) (fun x ks' hR=>?_)
  obtain⟨_,r1,⟨rfl,rfl⟩,rfl,rfl⟩:=hR
  conv=>whnf
  refine⟨fun h1=>?_,fun h1=>?_⟩
  ·have e:r.num 1=((r.raw 1).1,0):=by unfold Rdr.num;rw[if_pos (show(r.raw ((1:Nat):Int)).1.bad=true from h1)];rfl
   rw[e]
   conv=>whnf
   refine⟨[0],.d (.int .u64 0),[(r.raw 1).1.kb],rfl,rfl,rfl,?_,_,rfl,rfl,rfl⟩
   repeat'(first|exact ⟨⟩|exact rfl|exact fun _=>Iff.rfl|exact fun _ _=>rfl|exact qa rfl _|apply And.intro)
  ·have hrl:(r.raw ((1:Nat):Int)).2.length=1:=Rdr.raw_len 1 h1
   have e:r.num 1=((r.raw 1).1,uv (r.raw ((1:Nat):Int)).2):=by unfold Rdr.num;rw[if_neg (by rw[show(r.raw ((1:Nat):Int)).1.bad=false from h1];simp)];rfl
   rw[e]
   obtain⟨b0,t0,e0,l0⟩:=xg hrl
   have e9:=List.length_eq_zero_iff.1 l0
   subst e9
   rw[e0]
   rw[show(r.raw 1).2=[b0] from e0]
   conv=>whnf
   repeat(first|(refine brT rfl ?_;conv=>whnf)|(refine brF rfl ?_;conv=>whnf)|(refine .once ?_;conv=>whnf)|(refine⟨by decide,?_⟩;conv=>whnf)|(refine And.intro (Nat.le_of_ble_eq_true rfl) ?_;conv=>whnf))
   refine⟨[0],.d (.int .u64 (uv [b0])),[(r.raw 1).1.kb],rfl,rfl,?_,?_,_,rfl,rfl,rfl⟩
   ·exact congrArg (fun z=>SV.d (DV.int .u64 z)) (acc8 (0) (0) (0) (0) (0) (0) (0) (b0.toNat) (by omega) (by omega) (by omega) (by omega) (by omega) (by omega) (by omega) (UInt8.toNat_lt _))
   ·repeat'(first|exact ⟨⟩|exact rfl|exact fun _=>Iff.rfl|exact fun _ _=>rfl|exact qa rfl _|apply And.intro)
 ·conv=>whnf
  repeat(first|(refine brT rfl ?_;conv=>whnf)|(refine brF rfl ?_;conv=>whnf)|(refine .once ?_;conv=>whnf)|(refine⟨by decide,?_⟩;conv=>whnf)|(refine And.intro (Nat.le_of_ble_eq_true rfl) ?_;conv=>whnf))
  refine .rel _ (qn7 (raw_ok r hr 2 (by omega)) [] [] _ rfl rfl) (fun x ks' hR=>?_)
  obtain⟨_,r1,⟨rfl,rfl⟩,rfl,rfl⟩:=hR
  conv=>whnf
  refine⟨fun h1=>?_,fun h1=>?_⟩
  ·have e:r.num 2=((r.raw 2).1,0):=by unfold Rdr.num;rw[if_pos (show(r.raw ((2:Nat):Int)).1.bad=true from h1)];rfl
   rw[e]
   conv=>whnf
   refine⟨[0],.d (.int .u64 0),[(r.raw 2).1.kb],rfl,rfl,rfl,?_,_,rfl,rfl,rfl⟩
   repeat'(first|exact ⟨⟩|exact rfl|exact fun _=>Iff.rfl|exact fun _ _=>rfl|exact qa rfl _|apply And.intro)
  ·have hrl:(r.raw ((2:Nat):Int)).2.length=2:=Rdr.raw_len 2 h1
   have e:r.num 2=((r.raw 2).1,uv (r.raw ((2:Nat):Int)).2):=by unfold Rdr.num;rw[if_neg (by rw[show(r.raw ((2:Nat):Int)).1.bad=false from h1];simp)];rfl
   rw[e]
   obtain⟨b0,t0,e0,l0⟩:=xg hrl
   obtain⟨b1,t1,e1,l1⟩:=xg l0
   subst e1
   have e9:=List.length_eq_zero_iff.1 l1
   subst e9
   rw[e0]
   rw[show(r.raw 2).2=[b0,b1] from e0]
   conv=>whnf
   repeat(first|(refine brT rfl ?_;conv=>whnf)|(refine brF rfl ?_;conv=>whnf)|(refine .once ?_;conv=>whnf)|(refine⟨by decide,?_⟩;conv=>whnf)|(refine And.intro (Nat.le_of_ble_eq_true rfl) ?_;conv=>whnf))
   refine⟨[0],.d (.int .u64 (uv [b0,b1])),[(r.raw 2).1.kb],rfl,rfl,?_,?_,_,rfl,rfl,rfl⟩
   ·exact congrArg (fun z=>SV.d (DV.int .u64 z)) (acc8 (0) (0) (0) (0) (0) (0) (b0.toNat) (b1.toNat) (by omega) (by omega) (by omega) (by omega) (by omega) (by omega) (UInt8.toNat_lt _) (UInt8.toNat_lt _))
   ·repeat'(first|exact ⟨⟩|exact rfl|exact fun _=>Iff.rfl|exact fun _ _=>rfl|exact qa rfl _|apply And.intro)
 ·conv=>whnf
  repeat(first|(refine brT rfl ?_;conv=>whnf)|(refine brF rfl ?_;conv=>whnf)|(refine .once ?_;conv=>whnf)|(refine⟨by decide,?_⟩;conv=>whnf)|(refine And.intro (Nat.le_of_ble_eq_true rfl) ?_;conv=>whnf))
  refine .rel _ (qn7 (raw_ok r hr 4 (by omega)) [] [] _ rfl rfl) (fun x ks' hR=>?_)
  obtain⟨_,r1,⟨rfl,rfl⟩,rfl,rfl⟩:=hR
  conv=>whnf
  refine⟨fun h1=>?_,fun h1=>?_⟩
  ·have e:r.num 4=((r.raw 4).1,0):=by unfold Rdr.num;rw[if_pos (show(r.raw ((4:Nat):Int)).1.bad=true from h1)];rfl
   rw[e]
   conv=>whnf
   refine⟨[0],.d (.int .u64 0),[(r.raw 4).1.kb],rfl,rfl,rfl,?_,_,rfl,rfl,rfl⟩
   repeat'(first|exact ⟨⟩|exact rfl|exact fun _=>Iff.rfl|exact fun _ _=>rfl|exact qa rfl _|apply And.intro)
  ·have hrl:(r.raw ((4:Nat):Int)).2.length=4:=Rdr.raw_len 4 h1
   have e:r.num 4=((r.raw 4).1,uv (r.raw ((4:Nat):Int)).2):=by unfold Rdr.num;rw[if_neg (by rw[show(r.raw ((4:Nat):Int)).1.bad=false from h1];simp)];rfl
   rw[e]
   obtain⟨b0,t0,e0,l0⟩:=xg hrl
   obtain⟨b1,t1,e1,l1⟩:=xg l0
   obtain⟨b2,t2,e2,l2⟩:=xg l1
   obtain⟨b3,t3,e3,l3⟩:=xg l2
   subst e1
   subst e2
   subst e3
   have e9:=List.length_eq_zero_iff.1 l3
   subst e9
   rw[e0]
   rw[show(r.raw 4).2=[b0,b1,b2,b3] from e0]
   conv=>whnf
   repeat(first|(refine brT rfl ?_;conv=>whnf)|(refine brF rfl ?_;conv=>whnf)|(refine .once ?_;conv=>whnf)|(refine⟨by decide,?_⟩;conv=>whnf)|(refine And.intro (Nat.le_of_ble_eq_true rfl) ?_;conv=>whnf))
   refine⟨[0],.d (.int .u64 (uv [b0,b1,b2,b3])),[(r.raw 4).1.kb],rfl,rfl,?_,?_,_,rfl,rfl,rfl⟩
   ·exact congrArg (fun z=>SV.d (DV.int .u64 z)) (acc8 (0) (0) (0) (0) (b0.toNat) (b1.toNat) (b2.toNat) (b3.toNat) (by omega) (by omega) (by omega) (by omega) (UInt8.toNat_lt _) (UInt8.toNat_lt _) (UInt8.toNat_lt _) (UInt8.toNat_lt _))
   ·repeat'(first|exact ⟨⟩|exact rfl|exact fun _=>Iff.rfl|exact fun _ _=>rfl|exact qa rfl _|apply And.intro)
 ·conv=>whnf
  repeat(first|(refine brT rfl ?_;conv=>whnf)|(refine brF rfl ?_;conv=>whnf)|(refine .once ?_;conv=>whnf)|(refine⟨by decide,?_⟩;conv=>whnf)|(refine And.intro (Nat.le_of_ble_eq_true rfl) ?_;conv=>whnf))
  refine .rel _ (qn7 (raw_ok r hr 8 (by omega)) [] [] _ rfl rfl) (fun x ks' hR=>?_)
  obtain⟨_,r1,⟨rfl,rfl⟩,rfl,rfl⟩:=hR
  conv=>whnf
  refine⟨fun h1=>?_,fun h1=>?_⟩
  ·have e:r.num 8=((r.raw 8).1,0):=by unfold Rdr.num;rw[if_pos (show(r.raw ((8:Nat):Int)).1.bad=true from h1)];rfl
   rw[e]
   conv=>whnf
   refine⟨[0],.d (.int .u64 0),[(r.raw 8).1.kb],rfl,rfl,rfl,?_,_,rfl,rfl,rfl⟩
   repeat'(first|exact ⟨⟩|exact rfl|exact fun _=>Iff.rfl|exact fun _ _=>rfl|exact qa rfl _|apply And.intro)
  ·have hrl:(r.raw ((8:Nat):Int)).2.length=8:=Rdr.raw_len 8 h1
   have e:r.num 8=((r.raw 8).1,uv (r.raw ((8:Nat):Int)).2):=by unfold Rdr.num;rw[if_neg (by rw[show(r.raw ((8:Nat):Int)).1.bad=false from h1];simp)];rfl
   rw[e]
   obtain⟨b0,t0,e0,l0⟩:=xg hrl
   obtain⟨b1,t1,e1,l1⟩:=xg l0
   obtain⟨b2,t2,e2,l2⟩:=xg l1
   obtain⟨b3,t3,e3,l3⟩:=xg l2
   obtain⟨b4,t4,e4,l4⟩:=xg l3
   obtain⟨b5,t5,e5,l5⟩:=xg l4
   obtain⟨b6,t6,e6,l6⟩:=xg l5
   obtain⟨b7,t7,e7,l7⟩:=xg l6
   subst e1
   subst e2
   subst e3
   subst e4
   subst e5
   subst e6
   subst e7
   have e9:=List.length_eq_zero_iff.1 l7
   subst e9
   rw[e0]
   rw[show(r.raw 8).2=[b0,b1,b2,b3,b4,b5,b6,b7] from e0]
   conv=>whnf
   repeat(first|(refine brT rfl ?_;conv=>whnf)|(refine brF rfl ?_;conv=>whnf)|(refine .once ?_;conv=>whnf)|(refine⟨by decide,?_⟩;conv=>whnf)|(refine And.intro (Nat.le_of_ble_eq_true rfl) ?_;conv=>whnf))
   refine⟨[0],.d (.int .u64 (uv [b0,b1,b2,b3,b4,b5,b6,b7])),[(r.raw 8).1.kb],rfl,rfl,?_,?_,_,rfl,rfl,rfl⟩
   ·exact congrArg (fun z=>SV.d (DV.int .u64 z)) (acc8 (b0.toNat) (b1.toNat) (b2.toNat) (b3.toNat) (b4.toNat) (b5.toNat) (b6.toNat) (b7.toNat) (UInt8.toNat_lt _) (UInt8.toNat_lt _) (UInt8.toNat_lt _) (UInt8.toNat_lt _) (UInt8.toNat_lt _) (UInt8.toNat_lt _) (UInt8.toNat_lt _) (UInt8.toNat_lt _))
   ·repeat'(first|exact ⟨⟩|exact rfl|exact fun _=>Iff.rfl|exact fun _ _=>rfl|exact qa rfl _|apply And.intro)
theorem DenTo.tup[Dr]{l m:List SV}(h:DenToL l m):DenTo (.tup l) (.tup m):=fun w M β v hd=>by
 cases hd with
 |tup _ vs h1 h2 =>
  refine .tup _ vs (by rw[<-h.len];exact h1) (fun j t u ht hu=>?_)
  have hj:j<l.length:=by rw[h.len];exact(List.getElem?_eq_some_iff.1 ht).1
  exact h.at j _ t (List.getElem?_eq_getElem hj) ht _ _ _ _ (h2 j _ u (List.getElem?_eq_getElem hj) hu)
theorem COk.resD[Dr]{P:Program}{f:FuncId}{args:List SV}{ks:List KB}{R R':SV->List KB->Prop}(h:COk P f args ks R)(hR:∀ s k,R s k->∃ s',DenTo s s'/\R' s' k):COk P f args ks R' :=
 ⟨h.1,fun X w β fp vs hM hl hd=>(h.2 X w β fp vs hM hl hd).mono (fun e w' h=>by
  obtain⟨r,s,ks',β',fp',h1,h2,h3,h4⟩:=h
  obtain⟨s',hs,hR'⟩:=hR s ks' h2
  exact⟨r,s',ks',β',fp',h1,hR',h3,hs _ _ _ _ h4⟩)⟩
def ve(d:List UInt8):Int:=IntKind.u32.wrap ((Rdr.num ⟨d,0,false⟩ 4).2:Nat)
def addrLV(d:List UInt8):SV:=if qr 1 d then .tup [.d (.int .u32 (ve d)),.d (.int .i64 0)] else .tup [.d (.int .u32 0),.d (.int .i64 2)]
theorem raddr_ok(d:List UInt8)(hd:d.length<=100000):FnOk Tryz.prog 213 [.d (.str d)] (addrLV d):=by
 refine qs (TT:=TT) (IN:=qf []) qe qi mixed 1000 Tryz.func213 rfl (qh Tryz.func213 (by kernel_rfl) rfl) rfl 10 (by kernel_rfl) ?_
 conv=>whnf
 refine oD (rcheck_ok 1 d) rfl rfl ?_
 unfold addrLV
 cases hc:qr 1 d with
 |false =>
  conv=>whnf
  repeat(first|(refine brF rfl ?_;conv=>whnf)|(refine brT rfl ?_;conv=>whnf))
  repeat'(first|exact ⟨⟩|exact rfl|exact .inr rfl|exact .inl rfl|exact fun _ _=>rfl|exact noI|apply And.intro)
 |true =>
  conv=>whnf
  repeat(first|(refine brF rfl ?_;conv=>whnf)|(refine brT rfl ?_;conv=>whnf))
  refine .rel _ (open_ok d) (fun x ks' hR=>?_)
  obtain⟨rfl,rfl⟩:=hR
  conv=>whnf
  refine .rel _ (rnum_ok ⟨d,0,false⟩ ⟨by show d.length<_;omega,Nat.zero_le _⟩ 4 (.inr (.inr (.inl rfl)))) (fun x ks' hR=>?_)
  obtain⟨_,rfl,rfl,rfl⟩:=hR
  conv=>whnf
  repeat'(first|exact ⟨⟩|exact rfl|exact .inr rfl|exact .inl rfl|exact fun _ _=>rfl|exact noI|apply And.intro)
def jg(l:List Int)(i:Nat):List DV:=[.int .u32 (l.getD i 0)]
theorem ints_cat(l:List Int)(x:Int)(j:Nat)(hj:j<l.length+1):catF l.length (jg l) (q8 [.int .u32 x] 1) j=jg (l++[x]) j:=by
 unfold catF jg
 split
 ·rename_i h
  rw[List.getD,List.getD,List.getElem?_append_left h]
 ·rename_i h
  have:j=l.length:=by omega
  subst this
  rw[Nat.sub_self,List.getD,List.getElem?_append_right (Nat.le_refl _),Nat.sub_self]
  rfl
def addD(a:List Int)(d:List UInt8):List Int:=if qr 1 d then ddp a (ve d) else a
def xz(H:List Held)(now:Int)(x:List Int × List (List UInt8))(host:List UInt8):List Int × List (List UInt8):=match getH H host 1 1 now with
 |some h=>if h.no || h.name then (x.1,x.2++[host]) else (h.data.foldl addD x.1,x.2)
 |none=>(x.1,x.2++[host])
def servF(H:List Held)(hosts:List (List UInt8))(now:Int):List Int × List (List UInt8):=hosts.foldl (xz H now) ([],[])
def servC(now:Int)(c:CSt)(hosts:List (List UInt8)):CSt:=hosts.foldl (fun c h=>getS c h 1 1 now) c
def nsOk(s:St):Bool:=s.ty == 2 && jn s.nm s.ty s.ttl s.data
def srvF(H:List Held)(s:St)(now:Int):List Int × List (List UInt8):=if nsOk s then servF H s.data now else ([],[])
def srvQ(c:CSt)(s:St)(now:Int):CSt:=if nsOk s then servC now c s.data else c
theorem Kn.serv{H:List Held}(now:Int):∀ (hosts:List (List UInt8)) {c:CSt},Kn c H->Kn (servC now c hosts) H
 |[],_,hk=>hk
 |h :: l,_,hk=>Kn.serv now l (hk.get h 1 1 now)
theorem Kn.srv{c:CSt}{H:List Held}(hk:Kn c H)(s:St)(now:Int):Kn (srvQ c s now) H:=by
 unfold srvQ
 split
 ·exact hk.serv _ _
 ·exact hk
theorem isns_ok(s:St):FnOk Tryz.prog 212 [.agg [.d (.str s.nm),.d (.int .u16 s.ty),.d (.int .u32 s.ttl),.d (.sl s.z s.data.length 1 (strs s.data))]] (.d (.bool (nsOk s))):=by
 refine qs (TT:=TT) (IN:=qf []) qe qi mixed 1000 Tryz.func212 rfl (qh Tryz.func212 (by kernel_rfl) rfl) rfl 10 (by kernel_rfl) ?_
 conv=>whnf
 unfold nsOk
 cases h:s.ty == 2 with
 |true =>
  refine brT rfl ?_
  conv=>whnf
  refine oD (scheck_ok s.nm s.ty s.ttl s.z s.data) rfl rfl ?_
  rw[Bool.true_and]
  cases jn s.nm s.ty s.ttl s.data
  ·conv=>whnf
   repeat(first|(refine brF rfl ?_;conv=>whnf)|(refine brT rfl ?_;conv=>whnf))
   repeat'(first|exact ⟨⟩|exact rfl|exact .inr rfl|exact .inl rfl|exact fun _ _=>rfl|exact noI|apply And.intro)
  ·conv=>whnf
   repeat(first|(refine brF rfl ?_;conv=>whnf)|(refine brT rfl ?_;conv=>whnf))
   repeat'(first|exact ⟨⟩|exact rfl|exact .inr rfl|exact .inl rfl|exact fun _ _=>rfl|exact noI|apply And.intro)
 |false =>
  refine brF rfl ?_
  conv=>whnf
  repeat(first|(refine brF rfl ?_;conv=>whnf)|(refine brT rfl ?_;conv=>whnf))
  repeat'(first|exact ⟨⟩|exact rfl|exact .inr rfl|exact .inl rfl|exact fun _ _=>rfl|exact noI|apply And.intro)
structure SvSt where
 i:Nat
 c:CSt
 a:List Int
 m:List (List UInt8)
def srvLV(x:List Int × List (List UInt8)):SV:=.tup [.d (.sl (Nat.beq x.1.length 0) x.1.length 1 (jg x.1)),.d (.sl (Nat.beq x.2.length 0) x.2.length 1 (strs x.2))]
theorem servers0_ok(c:CSt)(H:List Held)(hk:Kn c H)(hH:FitH H)(s:St)(hs:s.data.length<=100000/\∀ d ∈ s.data,d.length<=100000)(now:Int) :
 COk Tryz.prog 167 [.ptr 0 0,.agg [.d (.str s.nm),.d (.int .u16 s.ty),.d (.int .u32 s.ttl),.d (.sl s.z s.data.length 1 (strs s.data))],.d (.int .i64 now)] (c.ks 0) (fun r k=>∃ m ex x y,k=(srvQ c s now).ks 0++ex/\r = .tup m/\wv k m (fun x' y'=>x'=x/\y'=y)/\DenTo (.tup x) (srvLV (srvF H s now))/\∃ ex',qx y k=(srvQ c s now).ks 0++ex'):=by
 refine jk (TT:=TT) (IN:=qf []) qe qi mixed 1000 Tryz.func167 rfl (qh Tryz.func167 (by kernel_rfl) rfl) 81 (by kernel_rfl) ?_
 conv=>whnf
 refine oD (isns_ok s) rfl rfl ?_
 cases hns:nsOk s with
 |false =>
  have hF:srvF H s now=([],[]):=by unfold srvF;rw[hns];rfl
  have hC:srvQ c s now=c:=by unfold srvQ;rw[hns];rfl
  rw[hF,hC]
  conv=>whnf
  repeat(first|(refine brF rfl ?_;conv=>whnf)|(refine brT rfl ?_;conv=>whnf))
  refine⟨[0,1,2],.tup [nilS,nilS],c.ks 0,rfl,rfl,rfl,?_,?_⟩
  ·repeat'(first|exact ⟨⟩|exact rfl|exact(fun _ _ _ _ h=>⟨qb _,h⟩)|exact fun _=>Iff.rfl|exact fun _ _=>rfl|apply And.intro)
   all_goals exact qa rfl _
  ·refine⟨_,[],_,_,rfl,rfl,⟨rfl,rfl⟩,?_⟩
   exact⟨DenTo.tup ⟨.of (.none _ _ _ _ _),.of (.none _ _ _ _ _),trivial⟩,_,rfl⟩
 |true =>
  have hF:srvF H s now=s.data.foldl (xz H now) ([],[]):=by unfold srvF;rw[hns];rfl
  have hC:srvQ c s now=servC now c s.data:=by unfold srvQ;rw[hns];rfl
  generalize srvF H s now=R at hF ⊢
  generalize srvQ c s now=C at hC ⊢
  conv=>whnf
  repeat(first|(refine brF rfl ?_;conv=>whnf)|(refine brT rfl ?_;conv=>whnf))
  refine .nilT 8 47 1 (jg []) _ _ rfl ?_
  refine .nilT 9 9 1 (strs []) _ _ rfl ?_
  refine .inv SvSt (fun x=>x.i<=s.data.length/\Kn x.c H/\x.m.length<=x.i/\x.a.length<=100000 * x.i/\R=(s.data.drop x.i).foldl (xz H now) (x.a,x.m)/\C=servC now x.c (s.data.drop x.i)) (fun x=>[(8,.all 5),(9,.all 6),(26,iV x.i)]) (fun x=>x.c.klq 0++[(4,.map [.int .u32] false false (cm x.a)),(5,.row 47 1 x.a.length .iff (jg x.a)),(6,.row 9 1 x.m.length .iff (strs x.m))]) (fun x=>s.data.length - x.i) ⟨⟨0,c,[],[]⟩,[0,1,2,3,4,5,6],⟨Nat.zero_le _,hk,Nat.le_refl _,Nat.zero_le _,hF,hC⟩,?_⟩ ?_
  ·conv=>whnf
   repeat'(first|exact ⟨⟩|exact rfl|exact(fun _ _ _ _ h=>⟨qb _,h⟩)|exact fun _=>Iff.rfl|exact fun _ _=>rfl|apply And.intro)
   all_goals exact qa rfl _
  clear hF hC hk
  intro x hx
  obtain⟨c4,hk,g2,g3,g4,g5⟩:=hx
  conv=>whnf
  generalize x.i=i at c4 g2 g3 g4 g5 ⊢
  generalize x.c=c at hk g5 ⊢
  generalize x.a=a at g3 g4 ⊢
  generalize x.m=m at g2 g4 ⊢
  have hw1:=w64s i (by omega)
  refine⟨fun c5=>?_,fun c5=>?_⟩
  ·have c5':i<s.data.length:=(by have h:(i:Int)<s.data.length:=of_decide_eq_true c5;omega)
   obtain⟨host,hho⟩:∃ d,s.data[i]?.getD []=d:=⟨_,rfl⟩
   have hda:s.data.drop i=host :: s.data.drop (i+1):=by
    rw[List.drop_eq_getElem_cons c5',<-hho,List.getElem?_eq_getElem c5']
    rfl
   have hhl:host.length<=100000:=hs.2 host (List.mem_of_mem_drop (i:=i) (by rw[hda];simp))
   rw [hda,List.foldl_cons] at g4
   rw [hda] at g5
   replace g5:C=servC now (getS c host 1 1 now) (s.data.drop (i+1)):=g5
   have hq:=getq c H hk host 1 1 now (by omega) []
   have hk2:=hk.get host 1 1 now
   conv=>whnf
   refine⟨by omega,?_⟩
   conv=>whnf
   rw[Int.toNat_natCast,hho]
   refine .rel _ (hq [_,_,_,_]) (fun r ks' hR=>?_)
   obtain⟨rfl,rfl⟩:=hR
   clear hq
   generalize getS c host 1 1 now=CC at g5 hk2 ⊢
   unfold xz at g4
   cases hg:getH H host 1 1 now with
   |none =>
    rw [hg] at g4
    replace g4:R=(s.data.drop (i+1)).foldl (xz H now) (a,m++[host]):=g4
    conv=>whnf
    repeat(first|(refine brF rfl ?_;conv=>whnf)|(refine brT rfl ?_;conv=>whnf))
    refine⟨by omega,?_⟩
    conv=>whnf
    rw[hw1]
    refine⟨⟨i+1,CC,a,m++[host]⟩,[0,1,2,3,4,5,9],⟨c5',hk2,by show(m++[_]).length<=i+1;rw[List.length_append,List.length_singleton];omega,by show a.length<=100000 * (i+1);omega,g4,g5⟩,by show s.data.length - (i+1)<s.data.length - i;omega,?_⟩
    conv=>whnf
    repeat'(first|exact ⟨⟩|exact rfl|exact(fun _ _ _ _ h=>⟨qb _,h⟩)|exact fun _=>Iff.rfl|exact fun _ _=>rfl|apply And.intro)
    all_goals first
     |exact qa rfl _
     |exact yj _ _
     |exact(show m.length+1=(m++[host]).length by rw[List.length_append];rfl)
     |exact fun j hj=>wi m host _ rfl j hj
     |trace_state
   |some h =>
    rw [hg] at g4
    have hh:=qc7 hg
    obtain⟨nm,ty,ttl,z,data,rank,no,nb,til⟩:=h
    cases no with
    |true =>
     replace g4:R=(s.data.drop (i+1)).foldl (xz H now) (a,m++[host]):=g4
     conv=>whnf
     repeat(first|(refine brF rfl ?_;conv=>whnf)|(refine brT rfl ?_;conv=>whnf))
     refine⟨by omega,?_⟩
     conv=>whnf
     rw[hw1]
     refine⟨⟨i+1,CC,a,m++[host]⟩,[0,1,2,3,4,5,9],⟨c5',hk2,by show(m++[_]).length<=i+1;rw[List.length_append,List.length_singleton];omega,by show a.length<=100000 * (i+1);omega,g4,g5⟩,by show s.data.length - (i+1)<s.data.length - i;omega,?_⟩
     conv=>whnf
     repeat'(first|exact ⟨⟩|exact rfl|exact(fun _ _ _ _ h=>⟨qb _,h⟩)|exact fun _=>Iff.rfl|exact fun _ _=>rfl|apply And.intro)
     all_goals first
      |exact qa rfl _
      |exact yj _ _
      |exact(show m.length+1=(m++[host]).length by rw[List.length_append];rfl)
      |exact fun j hj=>wi m host _ rfl j hj
      |trace_state
    |false =>
     cases nb with
     |true =>
      replace g4:R=(s.data.drop (i+1)).foldl (xz H now) (a,m++[host]):=g4
      conv=>whnf
      repeat(first|(refine brF rfl ?_;conv=>whnf)|(refine brT rfl ?_;conv=>whnf))
      refine⟨by omega,?_⟩
      conv=>whnf
      rw[hw1]
      refine⟨⟨i+1,CC,a,m++[host]⟩,[0,1,2,3,4,5,9],⟨c5',hk2,by show(m++[_]).length<=i+1;rw[List.length_append,List.length_singleton];omega,by show a.length<=100000 * (i+1);omega,g4,g5⟩,by show s.data.length - (i+1)<s.data.length - i;omega,?_⟩
      conv=>whnf
      repeat'(first|exact ⟨⟩|exact rfl|exact(fun _ _ _ _ h=>⟨qb _,h⟩)|exact fun _=>Iff.rfl|exact fun _ _=>rfl|apply And.intro)
      all_goals first
       |exact qa rfl _
       |exact yj _ _
       |exact(show m.length+1=(m++[host]).length by rw[List.length_append];rfl)
       |exact fun j hj=>wi m host _ rfl j hj
       |trace_state
     |false =>
      replace g4:R=(s.data.drop (i+1)).foldl (xz H now) (data.foldl addD a,m):=g4
      conv=>whnf
      repeat(first|(refine brF rfl ?_;conv=>whnf)|(refine brT rfl ?_;conv=>whnf))
      have hdl:=hH _ hh.1
      replace hdl:data.length<=100000/\∀ d ∈ data,d.length<=100000:=hdl
      obtain⟨B,hB⟩:∃ B,B=data.foldl addD a:=⟨_,rfl⟩
      rw [<-hB] at g4
      refine .inv (Nat × List Int) (fun x=>x.1<=data.length/\x.2.length<=a.length+x.1/\B=(data.drop x.1).foldl addD x.2) (fun x=>[(8,.all 5),(55,iV x.1)]) (fun x=>[(4,.map [.int .u32] false false (cm x.2)),(5,.row 47 1 x.2.length .iff (jg x.2))]) (fun x=>data.length - x.1) ⟨(0,a),[0,1,2,3,4,5,6,7],⟨Nat.zero_le _,Nat.le_refl _,hB⟩,?_⟩ ?_
      ·conv=>whnf
       repeat'(first|exact ⟨⟩|exact rfl|exact(fun _ _ _ _ h=>⟨qb _,h⟩)|exact fun _=>Iff.rfl|exact fun _ _=>rfl|apply And.intro)
       all_goals first|exact qa rfl _|exact yj _ _
      clear hB hg hh
      intro x hx
      obtain⟨j1,j2,j3⟩:=hx
      conv=>whnf
      generalize x.1=j at j1 j2 j3 ⊢
      generalize x.2=b at j2 j3 ⊢
      have hwj:=w64s j (by omega)
      refine⟨fun d5=>?_,fun d5=>?_⟩
      ·have d5':j<data.length:=(by have h:(j:Int)<data.length:=of_decide_eq_true d5;omega)
       obtain⟨d,hd⟩:∃ d,data[j]?.getD []=d:=⟨_,rfl⟩
       have hdd:data.drop j=d :: data.drop (j+1):=by
        rw[List.drop_eq_getElem_cons d5',<-hd,List.getElem?_eq_getElem d5']
        rfl
       rw [hdd,List.foldl_cons] at j3
       conv=>whnf
       refine⟨by dsimp only;omega,?_⟩
       conv=>whnf
       rw[Int.toNat_natCast,hd]
       refine .one (.data _ (raddr_ok d (hdl.2 d (List.mem_of_mem_drop (i:=j) (by rw[hdd];simp)))) rfl (by unfold addrLV;cases qr 1 d <;> rfl) ?_)
       unfold addrLV
       cases hc:qr 1 d with
       |false =>
        rw [show addD b d=b by unfold addD;rw [hc];rfl] at j3
        conv=>whnf
        repeat(first|(refine brF rfl ?_;conv=>whnf)|(refine brT rfl ?_;conv=>whnf))
        rw[hwj]
        refine⟨(j+1,b),[0,1,2,3,4,5,6,7],⟨d5',by show b.length<=a.length+(j+1);omega,j3⟩,by show data.length - (j+1)<data.length - j;omega,?_⟩
        conv=>whnf
        repeat'(first|exact ⟨⟩|exact rfl|exact(fun _ _ _ _ h=>⟨qb _,h⟩)|exact fun _=>Iff.rfl|exact fun _ _=>rfl|apply And.intro)
        all_goals first
         |exact qa rfl _
         |exact yj _ _
         |exact(show m.length+1=(m++[host]).length by rw[List.length_append];rfl)
         |exact fun j hj=>wi m host _ rfl j hj
         |trace_state
       |true =>
        rw [show addD b d=ddp b (ve d) by unfold addD;rw [hc];rfl] at j3
        conv=>whnf
        repeat(first|(refine brF rfl ?_;conv=>whnf)|(refine brT rfl ?_;conv=>whnf))
        by_cases hm:ve d ∈ b
        ·rw [show ddp b (ve d)=b from if_pos hm] at j3
         refine⟨_,by rw[kr,if_pos hm],?_⟩
         conv=>whnf
         refine brT (decide_eq_true (by have:=List.count_pos_iff.2 hm;omega)) ?_
         conv=>whnf
         repeat(first|(refine brF rfl ?_;conv=>whnf)|(refine brT rfl ?_;conv=>whnf))
         rw[hwj]
         refine⟨(j+1,b),[0,1,2,3,4,5,6,7],⟨d5',by show b.length<=a.length+(j+1);omega,j3⟩,by show data.length - (j+1)<data.length - j;omega,?_⟩
         conv=>whnf
         repeat'(first|exact ⟨⟩|exact rfl|exact(fun _ _ _ _ h=>⟨qb _,h⟩)|exact fun _=>Iff.rfl|exact fun _ _=>rfl|apply And.intro)
         all_goals first
          |exact qa rfl _
          |exact yj _ _
          |exact(show m.length+1=(m++[host]).length by rw[List.length_append];rfl)
          |exact fun j hj=>wi m host _ rfl j hj
          |trace_state
        ·rw [show ddp b (ve d)=b++[ve d] from if_neg hm] at j3
         refine⟨_,by rw[kr,if_neg hm],?_⟩
         conv=>whnf
         repeat(first|(refine brF rfl ?_;conv=>whnf)|(refine brT rfl ?_;conv=>whnf))
         refine⟨_,by rw[kr,if_neg hm],?_⟩
         conv=>whnf
         refine ⟨cm (b++[ve d]),by have:=cm_put b (ve d);rw [List.count_eq_zero.2 hm] at this;exact this,?_⟩
         conv=>whnf
         refine⟨by omega,?_⟩
         conv=>whnf
         rw[hwj]
         refine⟨(j+1,b++[ve d]),[0,1,2,3,4,9,6,7],⟨d5',by show(b++[_]).length<=a.length+(j+1);rw[List.length_append,List.length_singleton];omega,j3⟩,by show data.length - (j+1)<data.length - j;omega,?_⟩
         conv=>whnf
         repeat'(first|exact ⟨⟩|exact rfl|exact(fun _ _ _ _ h=>⟨qb _,h⟩)|exact fun _=>Iff.rfl|exact fun _ _=>rfl|apply And.intro)
         all_goals first
          |exact qa rfl _
          |exact yj _ _
          |exact(show b.length+1=(b++[_]).length by rw[List.length_append];rfl)
          |exact fun k hk=>ints_cat b (ve d) k hk
          |trace_state
      ·have hja:j=data.length:=(by have h:¬ (j:Int)<data.length:=of_decide_eq_false d5;omega)
       rw [List.drop_of_length_le (by omega)] at j3
       replace j3:B=b:=j3
       subst j3
       conv=>whnf
       rw[hw1]
       refine⟨⟨i+1,CC,B,m⟩,[0,1,2,3,4,5,6],⟨c5',hk2,by show m.length<=i+1;omega,by show B.length<=100000 * (i+1);omega,g4,g5⟩,by show s.data.length - (i+1)<s.data.length - i;omega,?_⟩
       conv=>whnf
       repeat'(first|exact ⟨⟩|exact rfl|exact(fun _ _ _ _ h=>⟨qb _,h⟩)|exact fun _=>Iff.rfl|exact fun _ _=>rfl|apply And.intro)
       all_goals first
        |exact qa rfl _
        |exact yj _ _
        |exact(show m.length+1=(m++[host]).length by rw[List.length_append];rfl)
        |exact fun j hj=>wi m host _ rfl j hj
        |trace_state
  ·have hia:i=s.data.length:=(by have h:¬ (i:Int)<s.data.length:=of_decide_eq_false c5;omega)
   rw [List.drop_of_length_le (by omega)] at g4 g5
   replace g4:R=(a,m):=g4
   replace g5:C=c:=g5
   subst g4 g5
   conv=>whnf
   refine⟨[0,1,2,5,6],.tup [.all 3,.all 4],C.ks 0++[.row 47 1 a.length .iff (jg a),.row 9 1 m.length .iff (strs m)],rfl,rfl,rfl,?_,?_⟩
   ·repeat'(first|exact ⟨⟩|exact rfl|exact(fun _ _ _ _ h=>⟨qb _,h⟩)|exact fun _=>Iff.rfl|exact fun _ _=>rfl|apply And.intro)
    all_goals exact qa rfl _
   ·refine⟨_,_,_,_,rfl,rfl,⟨rfl,rfl⟩,?_⟩
    exact⟨DenTo.refl _,_,rfl⟩
theorem servers_ok(c:CSt)(H:List Held)(hk:Kn c H)(hH:FitH H)(s:St)(hs:s.data.length<=100000/\∀ d ∈ s.data,d.length<=100000)(now:Int) :
 COk Tryz.prog 167 [.ptr 0 0,.agg [.d (.str s.nm),.d (.int .u16 s.ty),.d (.int .u32 s.ttl),.d (.sl s.z s.data.length 1 (strs s.data))],.d (.int .i64 now)] (c.ks 0) (fun r k=>r=srvLV (srvF H s now)/\k=(srvQ c s now).ks 0):=by
 have h1:COk Tryz.prog 167 [.ptr 0 0,.agg [.d (.str s.nm),.d (.int .u16 s.ty),.d (.int .u32 s.ttl),.d (.sl s.z s.data.length 1 (strs s.data))],.d (.int .i64 now)] (c.ks 0) (fun r k=>∃ ex,r=srvLV (srvF H s now)/\k=(srvQ c s now).ks 0++ex):=by
  refine(servers0_ok c H hk hH s hs now).frozT ?_
  rintro r k ⟨m,ex,x,y,rfl,rfl,hv,hd,ex',h3⟩
  exact⟨m,x,_,y,rfl,hv,hd,ex',rfl,h3⟩
 refine h1.pick ?_
 rintro r k ⟨ex,rfl,rfl⟩
 refine⟨[0,1,2],_,_,?_,rfl,?_,?_,rfl,rfl⟩
 ·exact rfl
 ·exact rfl
 ·repeat'(first|exact ⟨⟩|exact rfl|exact(fun _ _ _ _ h=>⟨qb _,h⟩)|exact fun _=>Iff.rfl|exact fun _ _=>rfl|apply And.intro)
  all_goals exact qa rfl _
theorem own_ok(s:St)(hz:s.z=true->s.data.length=0)(hl:s.data.length<=100000):FnOk Tryz.prog 43 [.agg [.d (.str s.nm),.d (.int .u16 s.ty),.d (.int .u32 s.ttl),.d (.sl s.z s.data.length 1 (strs s.data))]] (.agg [.d (.str s.nm),.d (.int .u16 s.ty),.d (.int .u32 s.ttl),.d (.sl s.z s.data.length 1 (strs s.data))]):=by
 refine qs (TT:=TT) (IN:=qf []) qe qi mixed 1000 Tryz.func43 rfl (qh Tryz.func43 (by kernel_rfl) rfl) rfl 7 (by kernel_rfl) ?_
 conv=>whnf
 refine oD (clone_ok s.z s.data.length (strs s.data) hz (by omega)) rfl rfl ?_
 conv=>whnf
 repeat'(first|exact ⟨⟩|exact rfl|exact DEq_refl _|exact .inr rfl|exact fun _ _=>rfl|apply And.intro)
def LR.says(r:LR):Bool:=r.kind == 1 || (r.kind == 3 || r.kind == 4)
def LR.vansL(r:LR):List SV:=if r.kind=1 then [.d (.str r.ans.nm),.d (.int .u16 r.ans.ty),.d (.int .u32 r.ans.ttl),.d (.sl r.ans.z r.ans.data.length 1 (strs r.ans.data))] else [.d (.str []),.d (.int .u16 0),.d (.int .u32 0),nilS]
def vy(r:LR):SV:=if r.says then .tup [.agg (.d (.int .i64 (if r.kind=3 then 3 else 0)) :: .d (.sl (Nat.beq r.chain.length 0) r.chain.length 4 (stsF r.chain)) :: r.vansL),.d (.int .i64 0)]
 else .tup [.agg [.d (.int .i64 0),nilS,.d (.str []),.d (.int .u16 0),.d (.int .u32 0),nilS],.d (.int .i64 3)]
def FitS(s:St):Prop:=(s.z=true->s.data.length=0)/\s.data.length<=100000
theorem ja4(r:LR)(hc:∀ s ∈ r.chain,FitS s)(ha:FitS r.ans)(hcl:r.chain.length<=100):FnOk Tryz.prog 12 [r.V] (vy r):=by
 refine qs (TT:=TT) (IN:=qf []) qe qi mixed 1000 Tryz.func12 rfl (qh Tryz.func12 (by kernel_rfl) rfl) rfl 37 (by kernel_rfl) ?_
 conv=>whnf
 unfold vy LR.vansL
 by_cases h1:r.kind=1
 ·rw[show r.says=true by unfold LR.says;rw[h1];rfl,if_pos rfl,if_pos h1,if_neg (by rw[h1];decide)]
  refine brT (by rw[beq_iff_eq];exact h1) ?_
  conv=>whnf
  refine oD (own_ok r.ans ha.1 ha.2) rfl rfl ?_
  conv=>whnf
  refine .nilC 2 1 49 4 (stsF []) _ _ _ _ rfl rfl ?_
  refine .inv Nat (fun i=>i<=r.chain.length) (fun i=>[(25,iV i)]) (fun i=>[(3,.row 49 4 (r.chain.take i).length .iff (stsF (r.chain.take i)))]) (fun i=>r.chain.length - i) ⟨0,[0,1,2,3],Nat.zero_le _,?_⟩ ?_
  ·conv=>whnf
   repeat'(first|exact ⟨⟩|exact rfl|exact qu _|exact .inr rfl|exact fun _ _=>rfl|exact noI|apply And.intro)
  intro i hi
  conv=>whnf
  refine⟨fun c5=>?_,fun c5=>?_⟩
  ·have c5':i<r.chain.length:=(by have h:(i:Int)<r.chain.length:=of_decide_eq_true c5;omega)
   obtain⟨a,hx⟩:∃ a,r.chain.getD i default=a:=⟨_,rfl⟩
   have hda:r.chain.take (i+1)=r.chain.take i++[a]:=by
    rw[List.take_add_one,List.getElem?_eq_getElem c5',<-hx,List.getD,List.getElem?_eq_getElem c5']
    rfl
   have hli:(r.chain.take i).length=i:=by rw[List.length_take];omega
   have hw1:=w64s i (by omega)
   have hfa:FitS a:=hc a (by rw[<-hx,List.getD,List.getElem?_eq_getElem c5'];exact List.getElem_mem _)
   conv=>whnf
   refine⟨by omega,?_⟩
   conv=>whnf
   rw[Int.toNat_natCast,hx]
   refine .data _ (own_ok a hfa.1 hfa.2) rfl rfl ?_
   conv=>whnf
   refine⟨by omega,?_⟩
   conv=>whnf
   rw[hw1]
   refine⟨i+1,[0,1,2,6],c5',by omega,?_⟩
   conv=>whnf
   repeat'(first|exact ⟨⟩|exact rfl|exact qu _|exact .inr rfl|exact fun _ _=>rfl|exact noI|apply And.intro)
   all_goals first
    |exact(show(r.chain.take i).length+1=(r.chain.take (i+1)).length by rw[hda,List.length_append];rfl)
    |exact fun j hj=>by rw[hda];exact qe8 (r.chain.take i) a j hj
    |trace_state
  ·have hia:i=r.chain.length:=(by have h:¬ (i:Int)<r.chain.length:=of_decide_eq_false c5;omega)
   rw[hia,List.take_length]
   conv=>whnf
   repeat'(first|exact ⟨⟩|exact rfl|exact .inr rfl|exact .inl rfl|exact fun _ _=>rfl|exact noI|apply And.intro)
 rw[if_neg h1]
 refine brF (by rw[beq_eq_false_iff_ne];exact h1) ?_
 conv=>whnf
 by_cases h3:r.kind=3
 ·rw[show r.says=true by unfold LR.says;rw[h3];rfl,if_pos rfl,if_pos h3]
  refine brT (by rw[beq_iff_eq];exact h3) ?_
  conv=>whnf
  refine .nilC 2 1 49 4 (stsF []) _ _ _ _ rfl rfl ?_
  refine .inv Nat (fun i=>i<=r.chain.length) (fun i=>[(25,iV i)]) (fun i=>[(3,.row 49 4 (r.chain.take i).length .iff (stsF (r.chain.take i)))]) (fun i=>r.chain.length - i) ⟨0,[0,1,2,3],Nat.zero_le _,?_⟩ ?_
  ·conv=>whnf
   repeat'(first|exact ⟨⟩|exact rfl|exact qu _|exact .inr rfl|exact fun _ _=>rfl|exact noI|apply And.intro)
  intro i hi
  conv=>whnf
  refine⟨fun c5=>?_,fun c5=>?_⟩
  ·have c5':i<r.chain.length:=(by have h:(i:Int)<r.chain.length:=of_decide_eq_true c5;omega)
   obtain⟨a,hx⟩:∃ a,r.chain.getD i default=a:=⟨_,rfl⟩
   have hda:r.chain.take (i+1)=r.chain.take i++[a]:=by
    rw[List.take_add_one,List.getElem?_eq_getElem c5',<-hx,List.getD,List.getElem?_eq_getElem c5']
    rfl
   have hli:(r.chain.take i).length=i:=by rw[List.length_take];omega
   have hw1:=w64s i (by omega)
   have hfa:FitS a:=hc a (by rw[<-hx,List.getD,List.getElem?_eq_getElem c5'];exact List.getElem_mem _)
   conv=>whnf
   refine⟨by omega,?_⟩
   conv=>whnf
   rw[Int.toNat_natCast,hx]
   refine .data _ (own_ok a hfa.1 hfa.2) rfl rfl ?_
   conv=>whnf
   refine⟨by omega,?_⟩
   conv=>whnf
   rw[hw1]
   refine⟨i+1,[0,1,2,6],c5',by omega,?_⟩
   conv=>whnf
   repeat'(first|exact ⟨⟩|exact rfl|exact qu _|exact .inr rfl|exact fun _ _=>rfl|exact noI|apply And.intro)
   all_goals first
    |exact(show(r.chain.take i).length+1=(r.chain.take (i+1)).length by rw[hda,List.length_append];rfl)
    |exact fun j hj=>by rw[hda];exact qe8 (r.chain.take i) a j hj
    |trace_state
  ·have hia:i=r.chain.length:=(by have h:¬ (i:Int)<r.chain.length:=of_decide_eq_false c5;omega)
   rw[hia,List.take_length]
   conv=>whnf
   repeat'(first|exact ⟨⟩|exact rfl|exact .inr rfl|exact .inl rfl|exact fun _ _=>rfl|exact noI|apply And.intro)
 rw[if_neg h3]
 refine brF (by rw[beq_eq_false_iff_ne];exact h3) ?_
 conv=>whnf
 by_cases h4:r.kind=4
 ·rw[show r.says=true by unfold LR.says;rw[h4];rfl,if_pos rfl]
  refine brT (by rw[beq_iff_eq];exact h4) ?_
  conv=>whnf
  refine .nilC 2 1 49 4 (stsF []) _ _ _ _ rfl rfl ?_
  refine .inv Nat (fun i=>i<=r.chain.length) (fun i=>[(25,iV i)]) (fun i=>[(3,.row 49 4 (r.chain.take i).length .iff (stsF (r.chain.take i)))]) (fun i=>r.chain.length - i) ⟨0,[0,1,2,3],Nat.zero_le _,?_⟩ ?_
  ·conv=>whnf
   repeat'(first|exact ⟨⟩|exact rfl|exact qu _|exact .inr rfl|exact fun _ _=>rfl|exact noI|apply And.intro)
  intro i hi
  conv=>whnf
  refine⟨fun c5=>?_,fun c5=>?_⟩
  ·have c5':i<r.chain.length:=(by have h:(i:Int)<r.chain.length:=of_decide_eq_true c5;omega)
   obtain⟨a,hx⟩:∃ a,r.chain.getD i default=a:=⟨_,rfl⟩
   have hda:r.chain.take (i+1)=r.chain.take i++[a]:=by
    rw[List.take_add_one,List.getElem?_eq_getElem c5',<-hx,List.getD,List.getElem?_eq_getElem c5']
    rfl
   have hli:(r.chain.take i).length=i:=by rw[List.length_take];omega
   have hw1:=w64s i (by omega)
   have hfa:FitS a:=hc a (by rw[<-hx,List.getD,List.getElem?_eq_getElem c5'];exact List.getElem_mem _)
   conv=>whnf
   refine⟨by omega,?_⟩
   conv=>whnf
   rw[Int.toNat_natCast,hx]
   refine .data _ (own_ok a hfa.1 hfa.2) rfl rfl ?_
   conv=>whnf
   refine⟨by omega,?_⟩
   conv=>whnf
   rw[hw1]
   refine⟨i+1,[0,1,2,6],c5',by omega,?_⟩
   conv=>whnf
   repeat'(first|exact ⟨⟩|exact rfl|exact qu _|exact .inr rfl|exact fun _ _=>rfl|exact noI|apply And.intro)
   all_goals first
    |exact(show(r.chain.take i).length+1=(r.chain.take (i+1)).length by rw[hda,List.length_append];rfl)
    |exact fun j hj=>by rw[hda];exact qe8 (r.chain.take i) a j hj
    |trace_state
  ·have hia:i=r.chain.length:=(by have h:¬ (i:Int)<r.chain.length:=of_decide_eq_false c5;omega)
   rw[hia,List.take_length]
   conv=>whnf
   repeat'(first|exact ⟨⟩|exact rfl|exact .inr rfl|exact .inl rfl|exact fun _ _=>rfl|exact noI|apply And.intro)
 rw[show r.says=false by unfold LR.says;simp[h1,h3,h4],if_neg (by decide)]
 refine brF (by rw[beq_eq_false_iff_ne];exact h4) ?_
 conv=>whnf
 repeat(first|(refine brF rfl ?_;conv=>whnf)|(refine brT rfl ?_;conv=>whnf))
 repeat'(first|exact ⟨⟩|exact rfl|exact .inr rfl|exact .inl rfl|exact fun _ _=>rfl|exact noI|apply And.intro)
structure Tr where
 addr:Int
 zone:List UInt8
 nm:List UInt8
 ty:Int
instance:Inhabited Tr:=⟨⟨0,[],[],0⟩⟩
def Tr.enc(t:Tr):List DV:=[.int .u32 t.addr,.str t.zone,.str t.nm,.int .u16 t.ty]
def trsF(l:List Tr)(i:Nat):List DV:=(l.getD i default).enc
def qsF(l:List Q)(i:Nat):List DV:=(l.getD i default).enc
structure Tk where
 id:Int
 ask:Q
 stack:List Q
 tries:List Tr
 hosts:List (List UInt8)
 work:Int
 zone:List UInt8
instance:Inhabited Tk:=⟨⟨0,default,[],[],[],0,[]⟩⟩
def Tk.L(t:Tk):List SV:=[.d (.int .i64 t.id),.d (.str t.ask.nm),.d (.int .u16 t.ask.ty),.d (.int .u16 t.ask.cl),.d (.sl (Nat.beq t.stack.length 0) t.stack.length 3 (qsF t.stack)),.d (.sl (Nat.beq t.tries.length 0) t.tries.length 4 (trsF t.tries)),.d (.sl (Nat.beq t.hosts.length 0) t.hosts.length 1 (strs t.hosts)),.d (.int .i64 t.work),.d (.str t.zone)]
structure Sp where
 kind:Int
 why:Int
 res:LR
 addr:Int
 zone:List UInt8
 ask:Q
def LR.L(r:LR):List SV:=[.d (.int .u8 r.kind),.d (.sl (Nat.beq r.chain.length 0) r.chain.length 4 (stsF r.chain)),.d (.str r.ans.nm),.d (.int .u16 r.ans.ty),.d (.int .u32 r.ans.ttl),.d (.sl r.ans.z r.ans.data.length 1 (strs r.ans.data)),.d (.str r.tgt),.d (.int .u32 r.ttl)]
def noResL:List SV:=[.d (.int .u8 0),nilS,.d (.str []),.d (.int .u16 0),.d (.int .u32 0),nilS,.d (.str []),.d (.int .u32 0)]
def Sp.L(s:Sp):List SV:=.d (.int .u8 s.kind) :: .d (.int .i64 s.why) :: ((if s.kind=1 then s.res.L else noResL)++[.d (.int .u32 s.addr),.d (.str s.zone),.d (.str s.ask.nm),.d (.int .u16 s.ask.ty),.d (.int .u16 s.ask.cl)])
def q0:Q:=⟨[],0,0⟩
def noS:Sp:=⟨0,0,default,0,[],q0⟩
def yv(why:Int):Sp:=⟨0,why,default,0,[],q0⟩
def doneS(r:LR):Sp:=⟨1,0,r,0,[],q0⟩
def sendS(a:Int)(zone:List UInt8)(ask:Q):Sp:=⟨2,0,default,a,zone,ask⟩
def mTry(zone nm:List UInt8)(k:Int)(y:Tr):Bool:=y.ty == k && (qv y.zone zone && qv y.nm nm)
def yb(l:List Tr)(zone nm:List UInt8)(k:Int):List Int:=(l.filter (mTry zone nm k)).map Tr.addr
def xi(l:List Tr)(zone nm:List UInt8)(k:Int)(times:Int):List Int:=(jb (yb l zone nm k)).filter fun a=>!decide (((yb l zone nm k).count a:Nat)<times)
def ordF(now draw:Int)(l:List Int):List Int:=if now<0 then l else l.drop (draw.toNat % l.length)++l.take (draw.toNat % l.length)
def v6(now draw:Int)(tried l:List Int):Option Int:=(ordF now draw l).find? fun a=>!decide (a ∈ tried)
def xq(now draw:Int)(l:List Tr)(zone nm:List UInt8)(k:Int)(addrs:List Int):Option Int:=match v6 now draw (xi l zone nm k 1) addrs with
 |some a=>some a
 |none=>v6 now draw (xi l zone nm k 2) addrs
def jz(H:List Held)(hints:List Int)(now:Int)(nm:List UInt8):List UInt8 × List Int × List (List UInt8):=match z1 H nm now with
 |none=>([0],hints,[])
 |some s=>(s.nm,srvF H s now)
def wp(missing hosts:List (List UInt8)):Option (List UInt8):=missing.find? fun h=>!hosts.any fun k=>qv k h
def jm(t:Tk)(s:Sp):Tk × Option Sp:=if t.stack.length=1 then (t,some s) else ({ t with stack:=t.stack.dropLast },none)
def yh(H:List Held)(hints:List Int)(now draw:Int)(t:Tk):Tk × Option Sp :=
 let last:=t.stack.getLastD default
 let r:=lkF H last now
 if r.says then jm t (doneS r) else if r.kind=0 then jm t (yv 9) else
  let z:=jz H hints now r.tgt
  match xq now draw t.tries z.1 r.tgt last.ty z.2.1 with
  |some a=>if t.work=0 then (t,some (yv 11)) else ({ t with work:=t.work - 1,tries:=t.tries++[⟨a,z.1,r.tgt,last.ty⟩],zone:=z.1 },some (sendS a z.1 ⟨r.tgt,last.ty,1⟩))
  |none=>match wp z.2.2 t.hosts with
   |some h=>if t.stack.length<6/\t.hosts.length<16 then ({ t with hosts:=t.hosts++[h],stack:=t.stack++[⟨h,1,1⟩] },none) else jm t (yv 12)
   |none=>jm t (yv 12)
def goF(H:List Held)(hints:List Int)(now draw:Int):Nat->Tk->Tk × Sp
 |0,t=>(t,yv 11)
 |k+1,t=>match yh H hints now draw t with
  |(t1,some s)=>(t1,s)
  |(t1,none)=>goF H hints now draw k t1
def uw(H:List Held)(hints:List Int)(now draw:Int)(t:Tk):Tk × Sp :=
 if t.stack.length=0\/6<t.stack.length\/t.work<0 then (t,yv 2) else goF H hints now draw 64 t
theorem within_suf{n z:List UInt8}:ye n z=true↔qc n/\qc z/\fl z <:+ fl n:=by
 unfold ye
 simp only[Bool.and_eq_true,decide_eq_true_eq,List.isSuffixOf_iff_suffix]
theorem within_trans{a b c:List UInt8}(h:ye a b=true)(k:ye b c=true):ye a c=true:=by
 obtain⟨h1,h2,h3⟩:=within_suf.1 h
 obtain⟨k1,k2,k3⟩:=within_suf.1 k
 exact within_suf.2 ⟨h1,k2,k3.trans h3⟩
theorem within_self{n:List UInt8}(h:qc n):ye n n=true:=within_suf.2 ⟨h,h,List.suffix_refl _⟩
theorem up_lab{n:List UInt8}(h:qc n)(hn:n≠[0]):∃ l,labN n=l :: labN (upN n):=by
 obtain⟨h1,h2,h3⟩:=vn h
 cases hl:labN n with
 |nil=>rw [hl] at h3;exact absurd h3 hn
 |cons l ls =>
  rw [hl] at h2 h3
  have hok:=h2 l (by simp)
  have hb:bt n 0=l.length:=by rw[h3];exact wz l (mk ls) hok
  have hu:upN n=mk ls:=by
   unfold upN
   rw[hb,h3]
   show(UInt8.ofNat l.length :: (l++mk ls)).drop (1+l.length)=_
   rw[Nat.add_comm,List.drop_succ_cons,List.drop_left]
  have hun:=qe7 h hn
  obtain⟨g1,g2,g3⟩:=vn hun
  have:labN (upN n)=ls:=mk_inj g2 (fun x hx=>h2 x (by simp[hx])) (by rw[<-g3,hu])
  exact⟨l,by rw[this]⟩
theorem upN_within{n:List UInt8}(h:qc n)(h0:n≠[0]):ye n (upN n)=true:=by
 obtain⟨l,hl⟩:=up_lab h h0
 refine within_suf.2 ⟨h,qe7 h h0,?_⟩
 have hf:fl n=fold l :: fl (upN n):=by unfold fl;rw[hl];rfl
 rw[hf]
 exact List.suffix_cons _ _
theorem name_five{d:List UInt8}(h:qr 5 d=true):qc d:=by
 unfold qr at h
 rw [Bool.and_eq_true] at h
 have h2:(cutF 0 1 0 d).isSome=true:=h.2
 unfold cutF at h2
 rw [if_neg (by omega),Nat.mul_zero,List.drop_zero] at h2
 have e:zv 1 d=if qz d=0 then none else some ([d.take (qz d)],d.drop (qz d)):=rfl
 rw [e] at h2
 split at h2
 ·cases h2
 ·rename_i h0
  have h3:(if (d.drop (qz d)).length=4 * 0 then some (d.take 0,[d.take (qz d)],d.drop (qz d)) else none).isSome=true:=h2
  split at h3
  ·rename_i hl
   have hn:=qz3 d 256 0 h0
   have ht:d.take (qz d)=d:=List.take_of_length_le (by rw [List.length_drop] at hl;omega)
   have hn:qc (d.take (qz d)):=hn
   rw [ht] at hn
   exact hn
  ·cases h3
def SetsH(H:List Held):Prop:=∀ h ∈ H,h.no=false/\h.name=false/\h.ty≠0/\jn h.nm h.ty h.ttl h.data=true/\(h.z=true->h.data.length=0)
theorem qq5{t:Int}:∀ {l:List (List UInt8)} {b:Bool} {x:List UInt8},zj t b x l=true->∀ d ∈ l,qr t d=true
 |[],_,_,_,d,hd=>by cases hd
 |e :: l,b,x,h,d,hd=>by
  unfold zj at h
  simp only [Bool.and_eq_true] at h
  rcases List.mem_cons.1 hd with rfl|hd
  ·exact h.1.1
  ·exact qq5 h.2 d hd
theorem SetsH.fit{H:List Held}(hs:SetsH H){h:Held}(hh:h ∈ H):h.data.length<=64/\∀ d ∈ h.data,d.length<=4096:=by
 have:=(hs h hh).2.2.2.1
 unfold jn at this
 simp only [Bool.and_eq_true,decide_eq_true_eq] at this
 refine⟨this.1.2.2,fun d hd=>?_⟩
 have h2:=qq5 this.2 d hd
 unfold qr at h2
 simp only [Bool.and_eq_true,decide_eq_true_eq] at h2
 exact h2.1
theorem SetsH.fitH{H:List Held}(hs:SetsH H):FitH H:=fun h hh=>⟨Nat.le_trans (hs.fit hh).1 (by decide),fun d hd=>Nat.le_trans ((hs.fit hh).2 d hd) (by decide)⟩
theorem SetsH.five{H:List Held}(hs:SetsH H){h:Held}(hh:h ∈ H){a:List UInt8}(ha:atP a 5 h=true\/atP a 0 h=true)(hl:h.data.length≠0):qc (h.data.getD 0 []):=by
 have h5:h.ty=5:=by
  rcases ha with ha|ha
  ·exact(of_decide_eq_true ha).2
  ·exact absurd (of_decide_eq_true ha).2 (hs h hh).2.2.1
 have:=(hs h hh).2.2.2.1
 unfold jn at this
 simp only [Bool.and_eq_true] at this
 have h2:=qq5 this.2 (h.data.getD 0 []) (by
  rw[List.getD,List.getElem?_eq_getElem (by omega)]
  exact List.getElem_mem _)
 rw [h5] at h2
 exact name_five h2
theorem lkGo_kind(H:List Held)(t now:Int):∀ (k:Nat) (ch:List St) (tgt:List UInt8) (ttl:Int) (fo:Bool),(lkGo H t now k ch tgt ttl fo).says=true\/(lkGo H t now k ch tgt ttl fo).kind=0\/(lkGo H t now k ch tgt ttl fo).kind=2
 |0,_,_,_,_=>.inr (.inl rfl)
 |k+1,ch,tgt,ttl,fo=>by
  unfold lkGo
  repeat'(first|exact .inl rfl|exact .inr (.inl rfl)|exact .inr (.inr rfl)|exact lkGo_kind H t now k _ _ _ _|split)
theorem lkF_kind(H:List Held)(q:Q)(now:Int):(lkF H q now).says=true\/(lkF H q now).kind=0\/(lkF H q now).kind=2:=by
 unfold lkF
 split
 ·exact lkGo_kind ..
 ·exact .inr (.inl rfl)
theorem lkGo_tgt{H:List Held}(hs:SetsH H)(t now:Int):∀ (k:Nat) (ch:List St) (tgt:List UInt8) (ttl:Int) (fo:Bool),qc tgt->(lkGo H t now k ch tgt ttl fo).kind=2->qc (lkGo H t now k ch tgt ttl fo).tgt
 |0,_,_,_,_,_,h=>by cases h
 |k+1,ch,tgt,ttl,fo,hn,h2=>by
  unfold lkGo at h2 ⊢
  cases hg:getH H tgt t 4 now with
  |some h =>
   rw [hg] at h2
   dsimp only at h2 ⊢
   split
   ·exact hn
   ·split <;> exact hn
  |none =>
   rw [hg] at h2
   dsimp only at h2 ⊢
   by_cases ht:t=5
   ·rw [if_pos ht] at h2 ⊢;exact hn
   rw [if_neg ht] at h2 ⊢
   cases hc:getH H tgt 5 4 now with
   |none=>exact hn
   |some h =>
    rw [hc] at h2
    dsimp only at h2 ⊢
    by_cases hb:(h.no || (h.name || h.data.length == 0))=true
    ·rw [if_pos hb] at h2 ⊢;exact hn
    rw [if_neg hb] at h2 ⊢
    by_cases h8:8<=ch.length
    ·rw [if_pos h8] at h2;cases h2
    rw [if_neg h8] at h2 ⊢
    have hm:=qc7 hc
    have hl:h.data.length≠0:=fun e=>hb (by simp[e])
    exact lkGo_tgt hs t now k _ _ _ _ (hs.five hm.1 hm.2.1 hl) h2
theorem lkF_tgt{H:List Held}(hs:SetsH H){q:Q}{now:Int}(h2:(lkF H q now).kind=2):qc (lkF H q now).tgt:=by
 unfold lkF at h2 ⊢
 split at h2
 ·rename_i hn
  rw[if_pos hn]
  exact lkGo_tgt hs _ _ _ _ _ _ _ hn h2
 ·cases h2
def FitR(r:LR):Prop:=(∀ s ∈ r.chain,FitS s)/\FitS r.ans/\r.chain.length<=8
theorem held_fit{H:List Held}(hs:SetsH H){h:Held}(hh:h ∈ H)(tgt:List UInt8)(now:Int):FitS (k9 tgt h now):=⟨(hs h hh).2.2.2.2,Nat.le_trans (hs.fit hh).1 (by decide)⟩
theorem fit0:FitS default:=⟨fun _=>rfl,Nat.zero_le _⟩
theorem fitR0:FitR default:=⟨fun _ h=>(by cases h),fit0,Nat.zero_le _⟩
theorem lkGo_fit{H:List Held}(hs:SetsH H)(t now:Int):∀ (k:Nat) (ch:List St) (tgt:List UInt8) (ttl:Int) (fo:Bool),(∀ s ∈ ch,FitS s)->ch.length<=8->FitR (lkGo H t now k ch tgt ttl fo)
 |0,_,_,_,_,_,_=>fitR0
 |k+1,ch,tgt,ttl,fo,hc,hl=>by
  unfold lkGo
  cases hg:getH H tgt t 4 now with
  |some h =>
   dsimp only
   split
   ·exact⟨hc,fit0,hl⟩
   ·split
    ·exact⟨hc,fit0,hl⟩
    ·exact⟨hc,held_fit hs (qc7 hg).1 _ _,hl⟩
  |none =>
   dsimp only
   split
   ·exact⟨hc,fit0,hl⟩
   cases hg5:getH H tgt 5 4 now with
   |none=>exact⟨hc,fit0,hl⟩
   |some h =>
    dsimp only
    split
    ·exact⟨hc,fit0,hl⟩
    split
    ·exact fitR0
    ·refine lkGo_fit hs t now k _ _ _ _ (fun s hsm=>?_) (by rw[List.length_append,List.length_singleton];omega)
     rcases List.mem_append.1 hsm with h1|h1
     ·exact hc s h1
     ·rw[List.mem_singleton.1 h1];exact held_fit hs (qc7 hg5).1 _ _
theorem lkF_fit{H:List Held}(hs:SetsH H)(q:Q)(now:Int):FitR (lkF H q now):=by
 unfold lkF
 split
 ·exact lkGo_fit hs _ _ _ _ _ _ _ (fun _ h=>(by cases h)) (Nat.zero_le _)
 ·exact fitR0
theorem jd1{H:List Held}{now:Int}:∀ (k:Nat) (n:List UInt8) (s:St),qc n->xh H now k n=some s->ye n s.nm=true
 |0,_,_,_,h=>by cases h
 |k+1,n,s,hn,h=>by
  have up:(if n=[0] then none else xh H now k (upN n))=some s->ye n s.nm=true:=fun h=>by
   by_cases h0:n=[0]
   ·rw [if_pos h0] at h;cases h
   ·rw [if_neg h0] at h
    exact within_trans (upN_within hn h0) (jd1 k (upN n) s (qe7 hn h0) h)
  unfold xh at h
  cases hg:getH H n 2 2 now with
  |none=>rw [hg] at h;exact up h
  |some y =>
   rw [hg] at h
   dsimp only at h
   split at h
   ·exact up h
   ·cases h;exact within_self hn
theorem root_isName:qc [0]:=by decide
theorem root_in{n:List UInt8}(h:qc n):ye n [0]=true:=within_suf.2 ⟨h,root_isName,by
 rw[show fl [0]=[] from by decide]
 exact List.nil_suffix⟩
theorem servers_in(H:List Held)(hints:List Int)(now:Int){n:List UInt8}(h:qc n):ye n (jz H hints now n).1=true:=by
 unfold jz
 cases hc:z1 H n now with
 |none=>exact root_in h
 |some s =>
  unfold z1 at hc
  rw [if_pos h] at hc
  exact jd1 _ _ _ h hc
theorem pick_not{now draw:Int}{tried l:List Int}{a:Int}(h:v6 now draw tried l=some a):a ∉ tried:=by
 unfold v6 at h
 have:=List.find?_some h
 simpa using this
theorem tried_not{l:List Tr}{zone nm:List UInt8}{k:Int}{times:Nat}{a:Int}(ht:0<times)(h:a ∉ xi l zone nm k times):(yb l zone nm k).count a<times:=by
 apply Classical.byContradiction
 intro hc
 refine h ?_
 unfold xi
 rw[List.mem_filter,vj]
 refine⟨List.count_pos_iff.1 (by omega),?_⟩
 simp only[Bool.not_eq_true',decide_eq_false_iff_not]
 omega
theorem choose_few{now draw:Int}{l:List Tr}{zone nm:List UInt8}{k:Int}{addrs:List Int}{a:Int}(h:xq now draw l zone nm k addrs=some a):(yb l zone nm k).count a<2:=by
 unfold xq at h
 cases h1:v6 now draw (xi l zone nm k 1) addrs with
 |some b =>
  rw [h1] at h;cases h
  have:=tried_not (times:=1) (by decide) (pick_not h1)
  omega
 |none =>
  rw [h1] at h
  exact tried_not (times:=2) (by decide) (pick_not h)
def ym(s:Sp)(x:Tr):Bool:=x.addr == s.addr && (x.ty == s.ask.ty && (qv x.nm s.ask.nm && qv x.zone s.zone))
theorem jc9(a:Int)(zone nm:List UInt8)(k:Int):∀ l:List Tr,l.countP (ym (sendS a zone ⟨nm,k,1⟩))=(yb l zone nm k).count a
 |[]=>rfl
 |x :: l=>by
  rw[List.countP_cons,jc9 a zone nm k l]
  unfold yb
  rw[List.filter_cons]
  have e:ym (sendS a zone ⟨nm,k,1⟩) x=(mTry zone nm k x && x.addr == a):=by
   show(x.addr == a && (x.ty == k && (qv x.nm nm && qv x.zone zone)))=((x.ty == k && (qv x.zone zone && qv x.nm nm)) && x.addr == a)
   cases x.addr == a <;> cases x.ty == k <;> cases qv x.nm nm <;> cases qv x.zone zone <;> rfl
  rw[e]
  cases mTry zone nm k x with
  |false=>simp
  |true=>rw[if_pos rfl,List.map_cons,List.count_cons,Bool.true_and]
theorem same_self{n:List UInt8}(h:qc n):qv n n=true:=by
 unfold qv
 rw[decide_eq_true h]
 simp
structure TI(t:Tk):Prop where
 lo:0<t.stack.length
 hi:t.stack.length<=6
 work:0<=t.work
inductive StepOk (t t1:Tk) (s:Sp):Prop where
 |stop:s.kind=0->s.res=default->s.why=9\/s.why=11\/s.why=12->StepOk t t1 s
 |done:s.kind=1->s.res.says=true->FitR s.res->StepOk t t1 s
 |send:s.kind=2->s.res=default->t1.work=t.work - 1->0<=t1.work->t1.tries.length=t.tries.length+1->qc s.ask.nm->ye s.ask.nm s.zone=true->1<=t1.tries.countP (ym s)->t1.tries.countP (ym s)<=2->TI t1->StepOk t t1 s
structure OnOk(t t1:Tk):Prop where
 ti:TI t1
 work:t1.work=t.work
 tries:t1.tries=t.tries
 ask:t1.ask=t.ask
def TurnOk(t:Tk):Tk × Option Sp->Prop
 |(t1,some s)=>StepOk t t1 s
 |(t1,none)=>OnOk t t1
theorem qm5{t:Tk}(h:TI t){s:Sp}(hs:∀ t1,StepOk t t1 s):TurnOk t (jm t s):=by
 unfold jm
 by_cases h1:t.stack.length=1
 ·rw[if_pos h1];exact hs t
 ·rw[if_neg h1]
  have:=h.lo;have:=h.hi
  refine⟨⟨by show 0<t.stack.dropLast.length;rw[List.length_dropLast];omega,by show t.stack.dropLast.length<=6;rw[List.length_dropLast];omega,h.work⟩,rfl,rfl,rfl⟩
theorem turn_law{H:List Held}(hs:SetsH H)(hints:List Int)(now draw:Int){t:Tk}(h:TI t):TurnOk t (yh H hints now draw t):=by
 unfold yh
 dsimp only
 generalize hq:t.stack.getLastD default=q
 by_cases h1:(lkF H q now).says=true
 ·rw[if_pos h1];exact qm5 h fun t1=>.done rfl h1 (lkF_fit hs q now)
 rw[if_neg h1]
 by_cases h0:(lkF H q now).kind=0
 ·rw[if_pos h0];exact qm5 h fun t1=>.stop rfl rfl (.inl rfl)
 rw[if_neg h0]
 have h2:(lkF H q now).kind=2:=((lkF_kind H q now).resolve_left h1).resolve_left h0
 have hn:=lkF_tgt hs h2
 generalize (lkF H q now).tgt=nm at hn ⊢
 have hz:=servers_in H hints now hn
 generalize jz H hints now nm=z at hz ⊢
 obtain⟨zn,addrs,miss⟩:=z
 replace hz:ye nm zn=true:=hz
 dsimp only
 cases hc:xq now draw t.tries zn nm q.ty addrs with
 |some a =>
  dsimp only
  by_cases hw:t.work=0
  ·rw[if_pos hw];exact .stop rfl rfl (.inr (.inl rfl))
  rw[if_neg hw]
  have hw0:=h.work
  have hcnt:(t.tries++[(⟨a,zn,nm,q.ty⟩:Tr)]).countP (ym (sendS a zn ⟨nm,q.ty,1⟩))=(yb t.tries zn nm q.ty).count a+1:=by
   rw[List.countP_append,jc9]
   congr 1
   rw[List.countP_singleton,if_pos]
   show(a == a && (q.ty == q.ty && (qv nm nm && qv zn zn)))=true
   rw[same_self hn,same_self (within_suf.1 hz).2.1]
   simp
  have hfew:=choose_few hc
  refine .send rfl rfl rfl (by show 0<=t.work - 1;omega) (by show(t.tries++[_]).length=_;rw[List.length_append];rfl) hn hz ?_ ?_ ⟨h.lo,h.hi,by show 0<=t.work - 1;omega⟩
  ·show 1<=(t.tries++[_]).countP _
   rw[hcnt];omega
  ·show(t.tries++[_]).countP _<=2
   rw[hcnt];omega
 |none =>
  dsimp only
  have hst:∀ t1,StepOk t t1 (yv 12):=fun t1=>.stop rfl rfl (.inr (.inr rfl))
  cases wp miss t.hosts with
  |none=>exact qm5 h hst
  |some m =>
   dsimp only
   split
   ·rename_i hl
    exact⟨⟨by show 0<(t.stack++[_]).length;rw[List.length_append];exact Nat.lt_of_lt_of_le h.lo (Nat.le_add_right _ _),by show(t.stack++[_]).length<=6;rw[List.length_append,List.length_singleton];omega,h.work⟩,rfl,rfl,rfl⟩
   ·exact qm5 h hst
theorem StepOk.back{t t0 t1:Tk}{s:Sp}(h:StepOk t0 t1 s)(ho:OnOk t t0):StepOk t t1 s:=by
 cases h with
 |stop a b c=>exact .stop a b c
 |done a b c=>exact .done a b c
 |send a b c d e f g h1 h2 h3=>exact .send a b (by rw[c,ho.work]) d (by rw[e,ho.tries]) f g h1 h2 h3
theorem go_law{H:List Held}(hs:SetsH H)(hints:List Int)(now draw:Int):∀ (k:Nat) (t:Tk),TI t->StepOk t (goF H hints now draw k t).1 (goF H hints now draw k t).2
 |0,t,_=>.stop rfl rfl (.inr (.inl rfl))
 |k+1,t,h=>by
  have:=turn_law hs hints now draw h
  unfold goF
  cases hT:yh H hints now draw t with
  |mk t1 o =>
   rw [hT] at this
   cases o with
   |some s=>exact this
   |none=>exact(go_law hs hints now draw k t1 this.ti).back this
theorem next_law{H:List Held}(hs:SetsH H)(hints:List Int)(now draw:Int){t:Tk}(h:TI t):StepOk t (uw H hints now draw t).1 (uw H hints now draw t).2:=by
 unfold uw
 rw[if_neg (by have:=h.lo;have:=h.hi;have:=h.work;omega)]
 exact go_law hs hints now draw 64 t h
theorem next_done{H:List Held}(hints:List Int)(now draw:Int){t:Tk}{q:Q}(hst:t.stack=[q])(hw:0<=t.work)(hd:(lkF H q now).says=true):uw H hints now draw t=(t,doneS (lkF H q now)):=by
 unfold uw
 rw[hst,if_neg (by simp;omega)]
 show(match yh H hints now draw t with
  |(t1,some s)=>(t1,s)
  |(t1,none)=>goF H hints now draw 63 t1)=_
 have:yh H hints now draw t=(t,some (doneS (lkF H q now))):=by
  unfold yh
  rw[hst]
  show(if (lkF H q now).says=true then _ else _)=_
  rw[if_pos hd]
  unfold jm
  have h1:t.stack.length=1:=by rw[hst];rfl
  rw[if_pos h1]
  rfl
 rw[this]
theorem leave_kind{t t1:Tk}{s s1:Sp}(h:jm t s=(t1,some s1)):t.stack.length=1/\s1=s:=by
 unfold jm at h
 split at h
 ·rename_i hl;cases h;exact⟨hl,rfl⟩
 ·cases h
theorem leave_on{t t1:Tk}{s:Sp}(h:jm t s=(t1,none))(hl:0<t.stack.length):t1.stack.head? = t.stack.head?:=by
 unfold jm at h
 split at h
 ·cases h
 ·cases h
  show t.stack.dropLast.head? = _
  rename_i hne
  generalize t.stack=l at hl hne ⊢
  match l with
  |[]=>rfl
  |[a]=>exact absurd rfl hne
  |a :: b :: l=>rfl
def LowOk(q:Q):Tk × Option Sp->Prop
 |(_,some s)=>s.kind≠1
 |(t1,none)=>t1.stack.head? = some q
theorem turn_low{H:List Held}(hints:List Int)(now draw:Int){t:Tk}{q:Q}(h:t.stack.head? = some q)(hd:(lkF H q now).says=false):LowOk q (yh H hints now draw t):=by
 have hl:0<t.stack.length:=by
  cases hst:t.stack with
  |nil=>rw [hst] at h;cases h
  |cons a l=>exact Nat.succ_pos _
 have lv:∀ s:Sp,(s.kind=1->t.stack.length≠1)->LowOk q (jm t s):=fun s hk=>by
  cases hT:jm t s with
  |mk t1 o =>
   cases o with
   |some s1 =>
    obtain⟨h1,h2⟩:=leave_kind hT
    subst h2
    exact fun e=>hk e h1
   |none=>exact(leave_on hT hl).trans h
 unfold yh
 dsimp only
 by_cases h1:(lkF H (t.stack.getLastD default) now).says=true
 ·rw[if_pos h1]
  refine lv _ fun _ h2=>?_
  obtain⟨a,ha⟩:=List.length_eq_one_iff.1 h2
  rw [ha] at h h1
  cases h
  rw [show ([q]:List Q).getLastD default=q from rfl,hd] at h1
  cases h1
 rw[if_neg h1]
 by_cases h0:(lkF H (t.stack.getLastD default) now).kind=0
 ·rw[if_pos h0];exact lv _ fun e=>(by cases e)
 rw[if_neg h0]
 generalize (lkF H (t.stack.getLastD default) now).tgt=nm
 generalize jz H hints now nm=z
 cases xq now draw t.tries z.1 nm (t.stack.getLastD default).ty z.2.1 with
 |some a =>
  dsimp only
  split
  ·exact fun e=>(by cases e)
  ·exact fun e=>(by cases e)
 |none =>
  dsimp only
  cases wp z.2.2 t.hosts with
  |none=>exact lv _ fun e=>(by cases e)
  |some m =>
   dsimp only
   split
   ·show(t.stack++[_]).head? = some q
    rw[List.head?_append,h];rfl
   ·exact lv _ fun e=>(by cases e)
theorem go_low{H:List Held}(hints:List Int)(now draw:Int){q:Q}(hd:(lkF H q now).says=false):∀ (k:Nat) (t:Tk),t.stack.head? = some q->(goF H hints now draw k t).2.kind≠1
 |0,_,_=>fun e=>(by cases e)
 |k+1,t,h=>by
  have:=turn_low hints now draw h hd
  unfold goF
  cases hT:yh H hints now draw t with
  |mk t1 o =>
   rw [hT] at this
   cases o with
   |some s=>exact this
   |none=>exact go_low hints now draw hd k t1 this
theorem next_low{H:List Held}(hints:List Int)(now draw:Int){t:Tk}{q:Q}(h:t.stack.head? = some q)(hd:(lkF H q now).says=false):(uw H hints now draw t).2.kind≠1:=by
 unfold uw
 split
 ·exact fun e=>(by cases e)
 ·exact go_low hints now draw hd 64 t h
theorem addD_len(a:List Int)(d:List UInt8):(addD a d).length<=a.length+1:=by
 unfold addD ddp
 split
 ·split
  ·omega
  ·rw[List.length_append];exact Nat.le_refl _
 ·omega
theorem addDs_len:∀ (D:List (List UInt8)) (a:List Int),(D.foldl addD a).length<=a.length+D.length
 |[],_=>Nat.le_refl _
 |d :: D,a=>by
  have h1:=addDs_len D (addD a d)
  have h2:=addD_len a d
  rw[List.foldl_cons,List.length_cons]
  omega
theorem serv_len{H:List Held}(hs:SetsH H)(now:Int):∀ (l:List (List UInt8)) (x:List Int × List (List UInt8)),(l.foldl (xz H now) x).1.length<=x.1.length+64 * l.length/\(l.foldl (xz H now) x).2.length<=x.2.length+l.length
 |[],_=>⟨Nat.le_refl _,Nat.le_refl _⟩
 |h :: l,x=>by
  obtain⟨h1,h2⟩:=serv_len hs now l (xz H now x h)
  rw[List.foldl_cons,List.length_cons]
  have:(xz H now x h).1.length<=x.1.length+64/\(xz H now x h).2.length<=x.2.length+1:=by
   unfold xz
   cases hg:getH H h 1 1 now with
   |none=>exact⟨by dsimp only;omega,by dsimp only;rw[List.length_append];exact Nat.le_refl _⟩
   |some y =>
    dsimp only
    split
    ·exact⟨by dsimp only;omega,by dsimp only;rw[List.length_append];exact Nat.le_refl _⟩
    ·have:=addDs_len y.data x.1
     have:=(hs.fit (qc7 hg).1).1
     exact⟨by dsimp only;omega,by dsimp only;omega⟩
  omega
def pF(l:List Int)(i:Nat):List DV:=[.int .u32 (l.getD i 0),.str [],.ff,.int .i64 0,.int .i64 0]
def pV(a:Int):SV:=.agg [.d (.int .u32 a),.d (.str []),.d .ff,.d (.int .i64 0),.d (.int .i64 0)]
def prow(l:List Int)(z:Z):KB:=.row 323 5 l.length z (pF l)
def Alike(g:FuncId):Prop:=∀ a b,FnOk Tryz.prog g [pV a,pV b] (.d (.int .i64 0))
theorem halfE(i j:Nat)(h:i+j<9223372036854775808):IntKind.i64.wrap ((IntKind.u64.wrap (IntKind.i64.wrap ((i:Int)+(j:Int)))).fdiv (2 ^ (min (Int.toNat 1) IntKind.u64.bits)))=(((i+j) / 2:Nat):Int):=by
 rw[qn ((i:Int)+(j:Int)) (by omega),IntKind.wrap_u64]
 rw[show(2:Int) ^ (min (Int.toNat 1) IntKind.u64.bits)=2 from rfl,Int.fdiv_eq_ediv_of_nonneg _ (by omega)]
 rw[qn _ (by omega)]
 omega
theorem insE_ok(l:List Int)(hn:l.length<1152921504606846976)(z:Z)(g:FuncId)(hg:Alike g)(a b:Nat)(ha:a<=l.length)(hb:b<=l.length):COk Tryz.prog 285 [.all 0,iV a,iV b,.fn g []] [prow l z] (fun s k=>s = .tup []/\k=[prow l z]):=by
 refine jk (TT:=TT) (IN:=qf []) qe qi mixed 1000 Tryz.func285 rfl (qh Tryz.func285 (by kernel_rfl) rfl) 49 (by kernel_rfl) ?_
 have e1:=w64s a (by omega)
 conv=>whnf
 rw[e1]
 refine .inv Nat (fun i=>a+1<=i/\i<=l.length+1) (fun i=>[(8,iV i)]) (fun _=>[]) (fun i=>l.length+1 - i) ⟨a+1,[0],⟨Nat.le_refl _,by omega⟩,?_⟩ ?_
 ·conv=>whnf
  repeat'(first|exact ⟨⟩|exact rfl|exact qu _|exact .inr rfl|exact fun _ _=>rfl|exact noI|apply And.intro)
 rintro i ⟨h1,h2⟩
 conv=>whnf
 refine⟨fun c=>?_,fun c=>?_⟩
 ·have c:i<b:=by
   have h:(i:Int)<b:=of_decide_eq_true c
   omega
  have e6:=w64s i (by omega)
  have e2:IntKind.i64.wrap ((i:Int) - 1)=((i - 1:Nat):Int):=by rw[qn _ (by omega)];omega
  conv=>whnf
  refine .once ?_
  conv=>whnf
  refine brT (decide_eq_true (by omega)) ?_
  conv=>whnf
  refine⟨by omega,?_⟩
  conv=>whnf
  rw[e2]
  refine⟨by omega,?_⟩
  conv=>whnf
  refine .data _ (hg _ _) rfl rfl ?_
  conv=>whnf
  repeat(first|(refine brF rfl ?_;conv=>whnf)|(refine brT rfl ?_;conv=>whnf))
  rw[e6]
  refine⟨i+1,[0],⟨by omega,by omega⟩,by omega,?_⟩
  conv=>whnf
  repeat'(first|exact ⟨⟩|exact rfl|exact qu _|exact .inr rfl|exact fun _ _=>rfl|exact noI|apply And.intro)
 ·conv=>whnf
  refine⟨[0],_,_,rfl,rfl,?_,?_,rfl,rfl⟩
  ·exact rfl
  ·repeat'(first|exact ⟨⟩|exact rfl|exact qu _|exact .inr rfl|exact fun _ _=>rfl|exact noI|apply And.intro)
theorem symE_ok(l:List Int)(hn:l.length<1152921504606846976)(z:Z)(g:FuncId)(hg:Alike g):∀ (k a m b:Nat),b - a<k->a<m->m<b->b<=l.length ->
 COk Tryz.prog 286 [.all 0,iV a,iV m,iV b,.fn g []] [prow l z] (fun s k=>s = .tup []/\k=[prow l z]):=by
 intro k
 induction k with
 |zero=>intro a m b h;omega
 |succ k ih =>
 intro a m b hk ham hmb hbn
 refine jk (TT:=TT) (IN:=qf []) qe qi mixed 1000 Tryz.func286 rfl (qh Tryz.func286 (by kernel_rfl) rfl) 215 (by kernel_rfl) ?_
 have e1:IntKind.i64.wrap ((m:Int) - (a:Int))=((m - a:Nat):Int):=by rw[qn _ (by omega)];omega
 have e2:IntKind.i64.wrap ((b:Int) - (m:Int))=((b - m:Nat):Int):=by rw[qn _ (by omega)];omega
 conv=>whnf
 rw[e1]
 refine⟨fun c1=>?_,fun c1=>?_⟩
 ·have c1:m=a+1:=by simp at c1;omega
  subst c1
  conv=>whnf
  refine .inv Nat (fun j=>a+1<=j/\j<=b) (fun j=>[(10,iV (a+1)),(11,iV j)]) (fun _=>[]) (fun j=>j) ⟨b,[0],⟨by omega,Nat.le_refl _⟩,?_⟩ ?_
  ·conv=>whnf
   repeat'(first|exact ⟨⟩|exact rfl|exact qu _|exact .inr rfl|exact fun _ _=>rfl|exact noI|apply And.intro)
  rintro j ⟨q1,q2⟩
  conv=>whnf
  refine⟨fun h3=>?_,fun h3=>?_⟩
  ·have h3:a+1<j:=by
    have h:((a+1:Nat):Int)<j:=of_decide_eq_true h3
    omega
   conv=>whnf
   refine⟨by omega,?_⟩
   conv=>whnf
   rw[halfE (a+1) j (by omega)]
   have g1:a+1<=(a+1+j) / 2:=by omega
   have g2:(a+1+j) / 2<j:=by omega
   generalize (a+1+j) / 2=h at g1 g2 ⊢
   refine⟨by omega,?_⟩
   conv=>whnf
   refine⟨by omega,?_⟩
   conv=>whnf
   refine .data _ (hg _ _) rfl rfl ?_
   conv=>whnf
   repeat(first|(refine brF rfl ?_;conv=>whnf)|(refine brT rfl ?_;conv=>whnf))
   refine⟨h,[0],⟨g1,by omega⟩,g2,?_⟩
   conv=>whnf
   repeat'(first|exact ⟨⟩|exact rfl|exact qu _|exact .inr rfl|exact fun _ _=>rfl|exact noI|apply And.intro)
  ·have ei:IntKind.i64.wrap (((a+1:Nat):Int) - 1)=(a:Int):=by rw[qn _ (by omega)];omega
   conv=>whnf
   refine .once ?_
   conv=>whnf
   rw[ei]
   refine brF (decide_eq_false (by omega)) ?_
   conv=>whnf
   refine⟨[0],_,_,rfl,rfl,?_,?_,rfl,rfl⟩
   ·exact rfl
   ·repeat'(first|exact ⟨⟩|exact rfl|exact qu _|exact .inr rfl|exact fun _ _=>rfl|exact noI|apply And.intro)
 have c1:¬ m=a+1:=by simp at c1;omega
 conv=>whnf
 rw[e2]
 refine⟨fun c2=>?_,fun c2=>?_⟩
 ·have c2:b=m+1:=by simp at c2;omega
  subst c2
  conv=>whnf
  refine .inv Nat (fun i=>a<=i/\i<=m) (fun i=>[(14,iV i),(15,iV m)]) (fun _=>[]) (fun i=>m - i) ⟨a,[0],⟨Nat.le_refl _,by omega⟩,?_⟩ ?_
  ·conv=>whnf
   repeat'(first|exact ⟨⟩|exact rfl|exact qu _|exact .inr rfl|exact fun _ _=>rfl|exact noI|apply And.intro)
  rintro i ⟨q1,q2⟩
  conv=>whnf
  refine⟨fun h3=>?_,fun h3=>?_⟩
  ·have h3:i<m:=by
    have h:(i:Int)<m:=of_decide_eq_true h3
    omega
   conv=>whnf
   refine⟨by omega,?_⟩
   conv=>whnf
   rw[halfE i m (by omega)]
   have g1:i<=(i+m) / 2:=by omega
   have g2:(i+m) / 2<m:=by omega
   generalize (i+m) / 2=h at g1 g2 ⊢
   refine⟨by omega,?_⟩
   conv=>whnf
   refine⟨by omega,?_⟩
   conv=>whnf
   refine .data _ (hg _ _) rfl rfl ?_
   conv=>whnf
   repeat(first|(refine brF rfl ?_;conv=>whnf)|(refine brT rfl ?_;conv=>whnf))
   rw[show IntKind.i64.wrap ((h:Int)+1)=((h+1:Nat):Int) by rw[qn _ (by omega)];omega]
   refine⟨h+1,[0],⟨by omega,by omega⟩,by omega,?_⟩
   conv=>whnf
   repeat'(first|exact ⟨⟩|exact rfl|exact qu _|exact .inr rfl|exact fun _ _=>rfl|exact noI|apply And.intro)
  ·have h3:i=m:=by
    have h:¬ (i:Int)<m:=of_decide_eq_false h3
    omega
   subst h3
   conv=>whnf
   refine .once ?_
   conv=>whnf
   refine brF (decide_eq_false (by omega)) ?_
   conv=>whnf
   refine⟨[0],_,_,rfl,rfl,?_,?_,rfl,rfl⟩
   ·exact rfl
   ·repeat'(first|exact ⟨⟩|exact rfl|exact qu _|exact .inr rfl|exact fun _ _=>rfl|exact noI|apply And.intro)
 have c2:¬ b=m+1:=by simp at c2;omega
 conv=>whnf
 refine⟨by omega,?_⟩
 conv=>whnf
 rw[halfE a b (by omega)]
 have g1:a<(a+b) / 2:=by omega
 have g2:(a+b) / 2<b:=by omega
 have g3:2 * ((a+b) / 2)<=a+b/\a+b<=2 * ((a+b) / 2)+1:=by omega
 generalize (a+b) / 2=mid at g1 g2 g3 ⊢
 have e3:IntKind.i64.wrap ((mid:Int)+(m:Int))=((mid+m:Nat):Int):=by rw[qn _ (by omega)];omega
 have e4:IntKind.i64.wrap (((mid+m:Nat):Int) - 1)=((mid+m - 1:Nat):Int):=by rw[qn _ (by omega)];omega
 rw[e3]
 refine⟨fun c3=>?_,fun c3=>?_⟩
 ·have c3:mid<m:=by
   have h:(m:Int) > (mid:Int):=of_decide_eq_true c3
   omega
  conv=>whnf
  rw[e4,show IntKind.i64.wrap (((mid+m:Nat):Int) - (b:Int))=((mid+m - b:Nat):Int) by rw[qn _ (by omega)];omega]
  obtain⟨R,hR⟩:∃ R,R=mid:=⟨_,rfl⟩
  refine .inv Nat (fun i=>mid+m - b<=i/\i<=R) (fun i=>[(20,iV i),(21,iV R)]) (fun _=>[]) (fun i=>R - i) ⟨mid+m - b,[0],⟨Nat.le_refl _,by omega⟩,?_⟩ ?_
  ·rw[hR]
   conv=>whnf
   repeat'(first|exact ⟨⟩|exact rfl|exact qu _|exact .inr rfl|exact fun _ _=>rfl|exact noI|apply And.intro)
  intro i hi
  obtain⟨q1,q2⟩:=hi
  conv=>whnf
  refine⟨fun h3=>?_,fun h3=>?_⟩
  ·have h3:i<R:=by
    have h:(i:Int)<(R:Nat):=of_decide_eq_true h3
    omega
   conv=>whnf
   refine⟨by omega,?_⟩
   conv=>whnf
   rw[halfE i R (by omega)]
   have g4:i<=(i+R) / 2:=by omega
   have g5:(i+R) / 2<R:=by omega
   generalize (i+R) / 2=h at g4 g5 ⊢
   rw[show IntKind.i64.wrap (((mid+m - 1:Nat):Int) - (h:Int))=((mid+m - 1 - h:Nat):Int) by rw[qn _ (by omega)];omega]
   refine⟨by omega,?_⟩
   conv=>whnf
   refine⟨by omega,?_⟩
   conv=>whnf
   refine .data _ (hg _ _) rfl rfl ?_
   conv=>whnf
   repeat(first|(refine brF rfl ?_;conv=>whnf)|(refine brT rfl ?_;conv=>whnf))
   rw[show IntKind.i64.wrap ((h:Int)+1)=((h+1:Nat):Int) by rw[qn _ (by omega)];omega]
   refine⟨h+1,[0],⟨by omega,by omega⟩,by omega,?_⟩
   conv=>whnf
   repeat'(first|exact ⟨⟩|exact rfl|exact qu _|exact .inr rfl|exact fun _ _=>rfl|exact noI|apply And.intro)
  have h3:i=R:=by
   have h:¬ (i:Int)<(R:Nat):=of_decide_eq_false h3
   omega
  rw[h3,hR]
  conv=>whnf
  rw[show IntKind.i64.wrap (((mid+m:Nat):Int) - (mid:Int))=(m:Int) by rw[qn _ (by omega)];omega]
  refine brT (decide_eq_true (by omega)) ?_
  conv=>whnf
  refine brF (decide_eq_false (by omega)) ?_
  conv=>whnf
  refine brT (decide_eq_true (by omega)) ?_
  conv=>whnf
  refine brF (decide_eq_false (by omega)) ?_
  conv=>whnf
  refine brT (decide_eq_true (by omega)) ?_
  conv=>whnf
  refine brT (decide_eq_true (by omega)) ?_
  conv=>whnf
  refine .rel _ (ih mid m b (by omega) c3 hmb hbn) (fun r ks' hR=>?_)
  obtain⟨rfl,rfl⟩:=hR
  conv=>whnf
  refine⟨[0],_,_,rfl,rfl,?_,?_,rfl,rfl⟩
  ·exact rfl
  ·repeat'(first|exact ⟨⟩|exact rfl|exact qu _|exact .inr rfl|exact fun _ _=>rfl|exact noI|apply And.intro)
 ·have c3:m<=mid:=by
   have h:¬ (m:Int) > (mid:Int):=of_decide_eq_false c3
   omega
  conv=>whnf
  rw[e4]
  obtain⟨R,hR⟩:∃ R,R=m:=⟨_,rfl⟩
  refine .inv Nat (fun i=>a<=i/\i<=R) (fun i=>[(20,iV i),(21,iV R)]) (fun _=>[]) (fun i=>R - i) ⟨a,[0],⟨Nat.le_refl _,by omega⟩,?_⟩ ?_
  ·rw[hR]
   conv=>whnf
   repeat'(first|exact ⟨⟩|exact rfl|exact qu _|exact .inr rfl|exact fun _ _=>rfl|exact noI|apply And.intro)
  intro i hi
  obtain⟨q1,q2⟩:=hi
  conv=>whnf
  refine⟨fun h3=>?_,fun h3=>?_⟩
  ·have h3:i<R:=by
    have h:(i:Int)<(R:Nat):=of_decide_eq_true h3
    omega
   conv=>whnf
   refine⟨by omega,?_⟩
   conv=>whnf
   rw[halfE i R (by omega)]
   have g4:i<=(i+R) / 2:=by omega
   have g5:(i+R) / 2<R:=by omega
   generalize (i+R) / 2=h at g4 g5 ⊢
   rw[show IntKind.i64.wrap (((mid+m - 1:Nat):Int) - (h:Int))=((mid+m - 1 - h:Nat):Int) by rw[qn _ (by omega)];omega]
   refine⟨by omega,?_⟩
   conv=>whnf
   refine⟨by omega,?_⟩
   conv=>whnf
   refine .data _ (hg _ _) rfl rfl ?_
   conv=>whnf
   repeat(first|(refine brF rfl ?_;conv=>whnf)|(refine brT rfl ?_;conv=>whnf))
   rw[show IntKind.i64.wrap ((h:Int)+1)=((h+1:Nat):Int) by rw[qn _ (by omega)];omega]
   refine⟨h+1,[0],⟨by omega,by omega⟩,by omega,?_⟩
   conv=>whnf
   repeat'(first|exact ⟨⟩|exact rfl|exact qu _|exact .inr rfl|exact fun _ _=>rfl|exact noI|apply And.intro)
  have h3:i=R:=by
   have h:¬ (i:Int)<(R:Nat):=of_decide_eq_false h3
   omega
  rw[h3,hR]
  conv=>whnf
  rw[show IntKind.i64.wrap (((mid+m:Nat):Int) - (m:Int))=(mid:Int) by rw[qn _ (by omega)];omega]
  refine brF (decide_eq_false (by omega)) ?_
  conv=>whnf
  repeat(first|(refine brF rfl ?_;conv=>whnf)|(refine brT rfl ?_;conv=>whnf))
  refine brT (decide_eq_true (by omega)) ?_
  conv=>whnf
  by_cases c4:m<mid
  ·refine brT (decide_eq_true (by omega)) ?_
   conv=>whnf
   refine .rel _ (ih a m mid (by omega) ham c4 (by omega)) (fun r ks' hR=>?_)
   obtain⟨rfl,rfl⟩:=hR
   conv=>whnf
   refine brF (decide_eq_false (by omega)) ?_
   conv=>whnf
   repeat(first|(refine brF rfl ?_;conv=>whnf)|(refine brT rfl ?_;conv=>whnf))
   refine⟨[0],_,_,rfl,rfl,?_,?_,rfl,rfl⟩
   ·exact rfl
   ·repeat'(first|exact ⟨⟩|exact rfl|exact qu _|exact .inr rfl|exact fun _ _=>rfl|exact noI|apply And.intro)
  ·refine brF (decide_eq_false (by omega)) ?_
   conv=>whnf
   refine brF (decide_eq_false (by omega)) ?_
   conv=>whnf
   repeat(first|(refine brF rfl ?_;conv=>whnf)|(refine brT rfl ?_;conv=>whnf))
   refine⟨[0],_,_,rfl,rfl,?_,?_,rfl,rfl⟩
   ·exact rfl
   ·repeat'(first|exact ⟨⟩|exact rfl|exact qu _|exact .inr rfl|exact fun _ _=>rfl|exact noI|apply And.intro)
theorem stabE_ok(l:List Int)(hn:l.length<1152921504606846976)(z:Z)(g:FuncId)(hg:Alike g):COk Tryz.prog 272 [.all 0,iV l.length,.fn g []] [prow l z] (fun s k=>s = .tup []/\k=[prow l z]):=by
 refine jk (TT:=TT) (IN:=qf []) qe qi mixed 1000 Tryz.func272 rfl (qh Tryz.func272 (by kernel_rfl) rfl) 60 (by kernel_rfl) ?_
 have hn1:∀ x:Nat,x<4611686018427387904->IntKind.i64.wrap (x:Int)=(x:Int):=fun x h=>qn _ (by omega)
 conv=>whnf
 refine .inv Nat (fun q=>q<=l.length) (fun q=>[(6,iV 20),(7,iV q),(8,iV (q+20))]) (fun _=>[]) (fun q=>l.length - q) ⟨0,[0],Nat.zero_le _,?_⟩ ?_
 ·conv=>whnf
  repeat'(first|exact ⟨⟩|exact rfl|exact qu _|exact .inr rfl|exact fun _ _=>rfl|exact noI|apply And.intro)
 intro q hq
 conv=>whnf
 refine⟨fun h3=>?_,fun h3=>?_⟩
 ·have h3:q+20<=l.length:=by
   have h:((q+20:Nat):Int)<=l.length:=of_decide_eq_true h3
   omega
  conv=>whnf
  refine .rel _ (insE_ok l hn z g hg q (q+20) hq h3) (fun r ks' hR=>?_)
  obtain⟨rfl,rfl⟩:=hR
  conv=>whnf
  rw[show IntKind.i64.wrap (((q+20:Nat):Int)+((20:Nat):Int))=((q+20+20:Nat):Int) by rw[qn _ (by omega)];omega]
  refine⟨q+20,[0],h3,by omega,?_⟩
  conv=>whnf
  repeat'(first|exact ⟨⟩|exact rfl|exact qu _|exact .inr rfl|exact fun _ _=>rfl|exact noI|apply And.intro)
 ·conv=>whnf
  refine .rel _ (insE_ok l hn z g hg q l.length hq (Nat.le_refl _)) (fun r ks' hR=>?_)
  obtain⟨rfl,rfl⟩:=hR
  conv=>whnf
  refine .inv Nat (fun k=>0<k/\k<=20+2 * l.length) (fun k=>[(6,iV k)]) (fun _=>[]) (fun k=>l.length - k) ⟨20,[0],⟨by omega,by omega⟩,?_⟩ ?_
  ·conv=>whnf
   repeat'(first|exact ⟨⟩|exact rfl|exact qu _|exact .inr rfl|exact fun _ _=>rfl|exact noI|apply And.intro)
  rintro k ⟨k1,k2⟩
  conv=>whnf
  refine⟨fun h6=>?_,fun h6=>?_⟩
  ·have h6:k<l.length:=by
    have h:(k:Int)<l.length:=of_decide_eq_true h6
    omega
   have e1:IntKind.i64.wrap (2 * (k:Int))=((2 * k:Nat):Int):=by rw[qn _ (by omega)];omega
   conv=>whnf
   rw[e1]
   refine .inv Nat (fun a=>a<=l.length) (fun a=>[(7,iV a),(8,iV (a+2 * k))]) (fun _=>[]) (fun a=>l.length - a) ⟨0,[0],Nat.zero_le _,?_⟩ ?_
   ·conv=>whnf
    rw[Nat.zero_add]
    repeat'(first|exact ⟨⟩|exact rfl|exact qu _|exact .inr rfl|exact fun _ _=>rfl|exact noI|apply And.intro)
   intro a ha
   conv=>whnf
   have e2:IntKind.i64.wrap ((a:Int)+(k:Int))=((a+k:Nat):Int):=by rw[qn _ (by omega)];omega
   refine⟨fun h7=>?_,fun h7=>?_⟩
   ·have h7:a+2 * k<=l.length:=by
     have h:((a+2 * k:Nat):Int)<=l.length:=of_decide_eq_true h7
     omega
    have e3:IntKind.i64.wrap (((a+2 * k:Nat):Int)+((2 * k:Nat):Int))=((a+2 * k+2 * k:Nat):Int):=by rw[qn _ (by omega)];omega
    conv=>whnf
    rw[e2]
    refine .rel _ (symE_ok l hn z g hg (2 * k+1) a (a+k) (a+2 * k) (by omega) (by omega) (by omega) h7) (fun r ks' hR=>?_)
    obtain⟨rfl,rfl⟩:=hR
    conv=>whnf
    rw[e1,e3]
    refine⟨a+2 * k,[0],h7,by omega,?_⟩
    conv=>whnf
    repeat'(first|exact ⟨⟩|exact rfl|exact qu _|exact .inr rfl|exact fun _ _=>rfl|exact noI|apply And.intro)
   ·have e4:IntKind.i64.wrap ((k:Int) * 2)=((2 * k:Nat):Int):=by rw[qn _ (by omega)];omega
    have h7:l.length<a+2 * k:=by
     have h:¬ ((a+2 * k:Nat):Int)<=l.length:=of_decide_eq_false h7
     omega
    conv=>whnf
    rw[e2]
    refine⟨fun h8=>?_,fun h8=>?_⟩
    ·have h8:a+k<l.length:=by
      have h:((a+k:Nat):Int)<l.length:=of_decide_eq_true h8
      omega
     conv=>whnf
     refine .rel _ (symE_ok l hn z g hg (2 * k+1) a (a+k) l.length (by omega) (by omega) h8 (Nat.le_refl _)) (fun r ks' hR=>?_)
     obtain⟨rfl,rfl⟩:=hR
     conv=>whnf
     rw[e4]
     refine⟨2 * k,[0],⟨by omega,by omega⟩,by omega,?_⟩
     conv=>whnf
     repeat'(first|exact ⟨⟩|exact rfl|exact qu _|exact .inr rfl|exact fun _ _=>rfl|exact noI|apply And.intro)
    ·conv=>whnf
     rw[e4]
     refine⟨2 * k,[0],⟨by omega,by omega⟩,by omega,?_⟩
     conv=>whnf
     repeat'(first|exact ⟨⟩|exact rfl|exact qu _|exact .inr rfl|exact fun _ _=>rfl|exact noI|apply And.intro)
  ·conv=>whnf
   refine⟨[0],_,_,rfl,rfl,?_,?_,rfl,rfl⟩
   ·exact rfl
   ·repeat'(first|exact ⟨⟩|exact rfl|exact qu _|exact .inr rfl|exact fun _ _=>rfl|exact noI|apply And.intro)
theorem qm0(l:List Int)(hn:l.length<1152921504606846976)(z:Z)(g:FuncId)(hg:Alike g):COk Tryz.prog 242 [.all 0,.fn g []] [prow l z] (fun s k=>s = .tup []/\k=[prow l z]):=by
 refine jk (TT:=TT) (IN:=qf []) qe qi mixed 1000 Tryz.func242 rfl (qh Tryz.func242 (by kernel_rfl) rfl) 7 (by kernel_rfl) ?_
 conv=>whnf
 refine .rel _ (stabE_ok l hn z g hg) (fun r ks' hR=>?_)
 obtain⟨rfl,rfl⟩:=hR
 conv=>whnf
 refine⟨[0],_,_,rfl,rfl,?_,?_,rfl,rfl⟩
 ·exact rfl
 ·repeat'(first|exact ⟨⟩|exact rfl|exact qu _|exact .inr rfl|exact fun _ _=>rfl|exact noI|apply And.intro)
theorem cmpI_ok:FnOk Tryz.prog 244 [.d (.int .i64 0),.d (.int .i64 0)] (.d (.int .i64 0)):=by
 refine qs (TT:=TT) (IN:=qf [(273,Tryz.f273,1)]) qe (qw qi Tryz.func273 (by kernel_rfl) (by kernel_rfl)) mixed 1000 Tryz.func244 rfl (qh Tryz.func244 (by kernel_rfl) rfl) rfl 18 (by kernel_rfl) ?_
 conv=>whnf
 repeat(first|(refine brF rfl ?_;conv=>whnf)|(refine brT rfl ?_;conv=>whnf))
 repeat'(first|exact ⟨⟩|exact rfl|exact .inr rfl|exact .inl rfl|exact fun _ _=>rfl|exact noI|apply And.intro)
theorem cmpL_ok:FnOk Tryz.prog 246 [.d (.int .i64 0),.d (.int .i64 0)] (.d (.int .i64 0)):=by
 refine qs (TT:=TT) (IN:=qf [(274,Tryz.f274,1)]) qe (qw qi Tryz.func274 (by kernel_rfl) (by kernel_rfl)) mixed 1000 Tryz.func246 rfl (qh Tryz.func246 (by kernel_rfl) rfl) rfl 18 (by kernel_rfl) ?_
 conv=>whnf
 repeat(first|(refine brF rfl ?_;conv=>whnf)|(refine brT rfl ?_;conv=>whnf))
 repeat'(first|exact ⟨⟩|exact rfl|exact .inr rfl|exact .inl rfl|exact fun _ _=>rfl|exact noI|apply And.intro)
theorem alike1:Alike 243:=fun a b=>by
 refine qs (TT:=TT) (IN:=qf []) qe qi mixed 1000 Tryz.func243 rfl (qh Tryz.func243 (by kernel_rfl) rfl) rfl 8 (by kernel_rfl) ?_
 conv=>whnf
 refine oD cmpI_ok rfl rfl ?_
 conv=>whnf
 repeat'(first|exact ⟨⟩|exact rfl|exact .inr rfl|exact .inl rfl|exact fun _ _=>rfl|exact noI|apply And.intro)
theorem alike2:Alike 245:=fun a b=>by
 refine qs (TT:=TT) (IN:=qf []) qe qi mixed 1000 Tryz.func245 rfl (qh Tryz.func245 (by kernel_rfl) rfl) rfl 8 (by kernel_rfl) ?_
 conv=>whnf
 refine oD cmpL_ok rfl rfl ?_
 conv=>whnf
 repeat'(first|exact ⟨⟩|exact rfl|exact .inr rfl|exact .inl rfl|exact fun _ _=>rfl|exact noI|apply And.intro)
theorem COk.frameX{P:Program}{f:FuncId}{as0:List SV}{ks0:List KB}{R0:SV->List KB->Prop}(h:COk P f as0 ks0 R0)(is:List Nat){al:List SV}{ks:List KB}
 (hok:okN (lenB ks) is=true) (ha:mapL (sig is (lenB ks)) as0=al) (hk:v7 ks is=mapB (sig is (lenB ks)) ks0):COk P f al ks (fun s k=>∃ s0 k0,R0 s0 k0/\s=mapV (sig is (lenB ks)) s0/\k=vz ks is (mapB (sig is (lenB ks)) k0)) :=
 COk.frame h is hok ha hk (fun s0 k0 h=>⟨s0,k0,h,rfl,rfl⟩)
def pks(rm:Int)(j:Nat):List KB:=[.cells 132 [.d (.int .i64 rm),.map (j+1),.v (.pointer none),.v (.pointer none)],.map [.int .u32] false false []]
theorem pnew_ok(rm:Int)(h:1<=rm/\rm<=4096):COk Tryz.prog 10 [.d (.int .i64 rm)] [] (fun s k=>s = .tup [.ptr 0 0,.d (.int .i64 0)]/\k=pks rm 0):=by
 refine jk (TT:=TT) (IN:=qf []) qe qi mixed 1000 Tryz.func10 rfl (qh Tryz.func10 (by kernel_rfl) rfl) 13 (by kernel_rfl) ?_
 conv=>whnf
 refine brF (decide_eq_false (by omega)) ?_
 conv=>whnf
 refine brF (decide_eq_false (by omega)) ?_
 conv=>whnf
 repeat(first|(refine brF rfl ?_;conv=>whnf)|(refine brT rfl ?_;conv=>whnf))
 refine⟨[1,0],_,_,rfl,rfl,?_,?_,rfl,rfl⟩
 ·exact rfl
 ·repeat'(first|exact ⟨⟩|exact rfl|exact qu _|exact .inr rfl|exact fun _ _=>rfl|exact noI|apply And.intro)
theorem pof_ok(rm a:Int):COk Tryz.prog 168 [.ptr 0 0,.d (.int .u32 a)] (pks rm 0) (fun s k=>s=pV a/\k=pks rm 0):=by
 refine jk (TT:=TT) (IN:=qf []) qe qi mixed 1000 Tryz.func168 rfl (qh Tryz.func168 (by kernel_rfl) rfl) 20 (by kernel_rfl) ?_
 conv=>whnf
 repeat(first|(refine brF rfl ?_;conv=>whnf)|(refine brT rfl ?_;conv=>whnf))
 refine⟨none,rfl,?_⟩
 conv=>whnf
 repeat(first|(refine brF rfl ?_;conv=>whnf)|(refine brT rfl ?_;conv=>whnf))
 refine⟨[0,1],_,_,rfl,rfl,?_,?_,rfl,rfl⟩
 ·exact rfl
 ·repeat'(first|exact ⟨⟩|exact rfl|exact qu _|exact .inr rfl|exact fun _ _=>rfl|exact noI|apply And.intro)
theorem p_cat(l:List Int)(x:Int)(j:Nat)(hj:j<l.length+1):catF l.length (pF l) (q8 [.int .u32 x,.str [],.ff,.int .i64 0,.int .i64 0] 5) j=pF (l++[x]) j:=by
 unfold catF pF
 split
 ·rename_i h
  rw[List.getD,List.getD,List.getElem?_append_left h]
 ·rename_i h
  have:j=l.length:=by omega
  subst this
  rw[Nat.sub_self,List.getD,List.getElem?_append_right (Nat.le_refl _),Nat.sub_self]
  rfl
def peersD(z:Bool)(l:List Int):DV:=.sl z l.length 5 (pF l)
theorem order_ok(now draw:Int)(hd:0<=draw/\draw<18446744073709551616)(z:Bool)(l:List Int)(hl:l.length<10000000):FnOk Tryz.prog 216 [.d (.int .i64 now),.d (.int .u64 draw),.d (peersD z l)] (.d (peersD false (ordF now draw l))):=by
 refine qs (TT:=TT) (IN:=qf [(247,Tryz.f247,1),(275,Tryz.f275,2)]) qe (qw (qw qi Tryz.func275 (by kernel_rfl) (by kernel_rfl)) Tryz.func247 (by kernel_rfl) (by kernel_rfl)) mixed 1000 Tryz.func216 rfl (qh Tryz.func216 (by kernel_rfl) rfl) rfl 59 (by kernel_rfl) ?_
 conv=>whnf
 refine .nilT 7 323 5 (pF []) _ _ rfl ?_
 refine .nilT 8 323 5 (pF []) _ _ rfl ?_
 by_cases hnow:now<0
 ·rw[show ordF now draw l=l from if_pos hnow]
  refine .inv Nat (fun i=>i<=l.length) (fun i=>[(7,.all 1),(8,.all 2),(16,iV i)]) (fun i=>[(2,prow (l.take i) .iff)]) (fun i=>l.length - i) ⟨0,[0,1,2],Nat.zero_le _,?_⟩ ?_
  ·conv=>whnf
   repeat'(first|exact ⟨⟩|exact rfl|exact qu _|exact .inr rfl|exact fun _ _=>rfl|exact noI|apply And.intro)
  intro i hi
  conv=>whnf
  refine⟨fun c5=>?_,fun c5=>?_⟩
  ·have c5':i<l.length:=(by have h:(i:Int)<l.length:=of_decide_eq_true c5;omega)
   obtain⟨a,ha⟩:∃ a,l.getD i 0=a:=⟨_,rfl⟩
   have hda:l.take (i+1)=l.take i++[a]:=by
    rw[List.take_add_one,List.getElem?_eq_getElem c5',<-ha,List.getD,List.getElem?_eq_getElem c5']
    rfl
   have hli:(l.take i).length=i:=by rw[List.length_take];omega
   have hw1:=w64s i (by omega)
   conv=>whnf
   refine⟨by omega,?_⟩
   conv=>whnf
   rw[Int.toNat_natCast,ha]
   refine brT (decide_eq_true hnow) ?_
   conv=>whnf
   refine⟨by omega,?_⟩
   conv=>whnf
   rw[hw1]
   refine⟨i+1,[0,1,5],c5',by omega,?_⟩
   conv=>whnf
   repeat'(first|exact ⟨⟩|exact rfl|exact qu _|exact .inr rfl|exact fun _ _=>rfl|exact noI|apply And.intro)
   all_goals first
    |exact(show(l.take i).length+1=(l.take (i+1)).length by rw[hda,List.length_append];rfl)
    |exact fun j hj=>by rw[hda];exact p_cat (l.take i) a j hj
    |trace_state
  have hia:i=l.length:=(by have h:¬ (i:Int)<l.length:=of_decide_eq_false c5;omega)
  rw[hia,List.take_length]
  conv=>whnf
  refine .rel _ (COk.frameX (qm0 [] (by decide) .iff _ alike1) [1] rfl rfl rfl) (fun y ks' hR=>?_)
  obtain⟨_,_,⟨rfl,rfl⟩,rfl,rfl⟩:=hR
  conv=>whnf
  refine .rel _ (COk.frameX (qm0 l (by omega) .iff _ alike2) [2] rfl rfl rfl) (fun y ks' hR=>?_)
  obtain⟨_,_,⟨rfl,rfl⟩,rfl,rfl⟩:=hR
  conv=>whnf
  refine⟨⟨Int.le_refl _,by omega,by omega,by omega⟩,?_⟩
  conv=>whnf
  refine .once ?_
  conv=>whnf
  refine brF (decide_eq_false (by decide)) ?_
  conv=>whnf
  refine⟨by rw[show Int.toNat 0=0 from rfl];omega,?_⟩
  conv=>whnf
  repeat'(first|exact ⟨⟩|exact rfl|exact .inr rfl|exact Nat.zero_add _|apply And.intro)
  intro i _
  show(if i<0 then _ else pF l (i - 0))=pF l i
  rw[if_neg (Nat.not_lt_zero _),Nat.sub_zero]
 ·rw[show ordF now draw l=l.drop (draw.toNat % l.length)++l.take (draw.toNat % l.length) from if_neg hnow]
  refine .inv Nat (fun i=>i<=l.length) (fun i=>[(7,.all 1),(8,.all 2),(16,iV i)]) (fun i=>[(1,prow (l.take i) .iff)]) (fun i=>l.length - i) ⟨0,[0,1,2],Nat.zero_le _,?_⟩ ?_
  ·conv=>whnf
   repeat'(first|exact ⟨⟩|exact rfl|exact qu _|exact .inr rfl|exact fun _ _=>rfl|exact noI|apply And.intro)
  intro i hi
  conv=>whnf
  refine⟨fun c5=>?_,fun c5=>?_⟩
  ·have c5':i<l.length:=(by have h:(i:Int)<l.length:=of_decide_eq_true c5;omega)
   obtain⟨a,ha⟩:∃ a,l.getD i 0=a:=⟨_,rfl⟩
   have hda:l.take (i+1)=l.take i++[a]:=by
    rw[List.take_add_one,List.getElem?_eq_getElem c5',<-ha,List.getD,List.getElem?_eq_getElem c5']
    rfl
   have hli:(l.take i).length=i:=by rw[List.length_take];omega
   have hw1:=w64s i (by omega)
   conv=>whnf
   refine⟨by omega,?_⟩
   conv=>whnf
   rw[Int.toNat_natCast,ha]
   refine brF (decide_eq_false hnow) ?_
   conv=>whnf
   refine⟨by omega,?_⟩
   conv=>whnf
   rw[hw1]
   refine⟨i+1,[0,5,2],c5',by omega,?_⟩
   conv=>whnf
   repeat'(first|exact ⟨⟩|exact rfl|exact qu _|exact .inr rfl|exact fun _ _=>rfl|exact noI|apply And.intro)
   all_goals first
    |exact(show(l.take i).length+1=(l.take (i+1)).length by rw[hda,List.length_append];rfl)
    |exact fun j hj=>by rw[hda];exact p_cat (l.take i) a j hj
    |trace_state
  have hia:i=l.length:=(by have h:¬ (i:Int)<l.length:=of_decide_eq_false c5;omega)
  rw[hia,List.take_length]
  conv=>whnf
  refine .rel _ (COk.frameX (qm0 l (by omega) .iff _ alike1) [1] rfl rfl rfl) (fun y ks' hR=>?_)
  obtain⟨_,_,⟨rfl,rfl⟩,rfl,rfl⟩:=hR
  conv=>whnf
  refine .rel _ (COk.frameX (qm0 [] (by decide) .iff _ alike2) [2] rfl rfl rfl) (fun y ks' hR=>?_)
  obtain⟨_,_,⟨rfl,rfl⟩,rfl,rfl⟩:=hR
  conv=>whnf
  refine⟨⟨Int.le_refl _,by omega,by omega,by omega⟩,?_⟩
  conv=>whnf
  by_cases hl0:l.length=0
  ·refine .once ?_
   conv=>whnf
   refine brF (decide_eq_false (by omega)) ?_
   conv=>whnf
   refine⟨by rw[show Int.toNat 0=0 from rfl,show([]:List Int).length=0 from rfl];omega,?_⟩
   conv=>whnf
   obtain rfl:l=[]:=List.length_eq_zero_iff.1 hl0
   rw[List.drop_nil,List.take_nil]
   repeat'(first|exact ⟨⟩|exact rfl|exact .inr rfl|exact Nat.zero_add _|apply And.intro)
   exact fun i hi=>absurd hi (Nat.not_lt_zero _)
  refine .once ?_
  conv=>whnf
  refine brT (decide_eq_true (by omega)) ?_
  conv=>whnf
  refine .inv Nat (fun e=>1<=e/\e<=l.length) (fun e=>[(4,iV e)]) (fun _=>[]) (fun e=>l.length - e) ⟨1,[0,1,2,3,4,5,6],⟨Nat.le_refl _,by omega⟩,?_⟩ ?_
  ·conv=>whnf
   repeat'(first|exact ⟨⟩|exact rfl|exact qu _|exact .inr rfl|exact fun _ _=>rfl|exact noI|apply And.intro)
  rintro e ⟨e1,e2⟩
  conv=>whnf
  refine⟨fun d5=>?_,fun d5=>?_⟩
  ·have d5':e<l.length:=(by have h:(e:Int)<l.length:=of_decide_eq_true d5;omega)
   have hw1:=w64s e (by omega)
   conv=>whnf
   refine⟨by omega,?_⟩
   conv=>whnf
   refine⟨by omega,?_⟩
   conv=>whnf
   repeat(first|(refine brF rfl ?_;conv=>whnf)|(refine brT rfl ?_;conv=>whnf))
   rw[hw1]
   refine⟨e+1,[0,1,2,3,4,5,6],⟨by omega,d5'⟩,by omega,?_⟩
   conv=>whnf
   repeat'(first|exact ⟨⟩|exact rfl|exact qu _|exact .inr rfl|exact fun _ _=>rfl|exact noI|apply And.intro)
  have he:e=l.length:=(by have h:¬ (e:Int)<l.length:=of_decide_eq_false d5;omega)
  subst he
  conv=>whnf
  refine⟨⟨Int.le_refl _,by omega,Int.le_refl _⟩,?_⟩
  conv=>whnf
  have hN:((l.length:Int) - 0).toNat=l.length:=by omega
  have hwN:IntKind.u64.wrap (l.length:Int)=l.length:=by rw[IntKind.wrap_u64];omega
  rw[hN,hwN]
  refine⟨by omega,?_⟩
  obtain⟨D,hD⟩:∃ D:Nat,draw=D:=⟨draw.toNat,by omega⟩
  have hmod:IntKind.i64.wrap (draw.tmod l.length)=((draw.toNat % l.length:Nat):Int):=by
   rw[hD,Int.toNat_natCast,Int.tmod_eq_emod_of_nonneg (by omega),<-Int.natCast_emod]
   have:=Nat.mod_lt D (show l.length > 0 by omega)
   exact qn _ (by omega)
  conv=>whnf
  rw[hmod]
  have hr:draw.toNat % l.length<l.length:=Nat.mod_lt _ (by omega)
  generalize draw.toNat % l.length=R at hr ⊢
  clear hmod hD
  conv=>whnf
  refine⟨⟨by omega,by omega,Int.le_refl _⟩,?_⟩
  have hR1:((R:Nat):Int).toNat=R:=Int.toNat_natCast R
  have hR2:((l.length:Int) - (R:Int)).toNat=l.length - R:=by omega
  conv=>whnf
  rw[hR1,hR2]
  refine⟨by rw[show Int.toNat 0=0 from rfl];omega,?_⟩
  conv=>whnf
  refine⟨by rw[show Int.toNat 0=0 from rfl];omega,?_⟩
  conv=>whnf
  refine⟨⟨by omega,by omega,by omega⟩,?_⟩
  have hR3:((R:Int) - 0).toNat=R:=by omega
  conv=>whnf
  rw[hR3]
  refine⟨by rw[show Int.toNat 0=0 from rfl];omega,?_⟩
  conv=>whnf
  refine⟨by rw[show Int.toNat 0=0 from rfl];omega,?_⟩
  conv=>whnf
  repeat(first|(refine brF rfl ?_;conv=>whnf)|(refine brT rfl ?_;conv=>whnf))
  refine .once ?_
  conv=>whnf
  refine brF (decide_eq_false (by omega)) ?_
  conv=>whnf
  refine⟨by rw[show Int.toNat 0=0 from rfl,show([]:List Int).length=0 from rfl];omega,?_⟩
  conv=>whnf
  refine⟨rfl,?_,.inr rfl,?_⟩
  ·rw[List.length_append,List.length_drop,List.length_take,show Int.toNat 0=0 from rfl,show([]:List Int).length=0 from rfl]
   omega
  intro i hi
  have hi:i<0+(l.length - R)+R+0:=hi
  show(if i<0+(l.length - R)+R then (if i<0+(l.length - R) then (if i<0 then _ else pF l (0+R+(i - 0))) else pF l (0+0+(i - (0+(l.length - R))))) else _)=_
  rw[if_pos (by omega)]
  by_cases h1:i<0+(l.length - R)
  ·rw[if_pos h1,if_neg (Nat.not_lt_zero _)]
   unfold pF
   rw[List.getD,List.getD,List.getElem?_append_left (by rw[List.length_drop];omega),List.getElem?_drop,show 0+R+(i - 0)=R+i by omega]
  ·rw[if_neg h1]
   unfold pF
   rw[List.getD,List.getD,List.getElem?_append_right (by rw[List.length_drop];omega),List.length_drop,List.getElem?_take,if_pos (by omega),show 0+0+(i - (0+(l.length - R)))=i - (l.length - R) by omega]
theorem ord_len(now draw:Int)(l:List Int):(ordF now draw l).length=l.length:=by
 unfold ordF
 split
 ·rfl
 ·rw[List.length_append,List.length_drop,List.length_take]
  have:=Nat.min_le_right (draw.toNat % l.length) l.length
  have:min (draw.toNat % l.length) l.length<=draw.toNat % l.length:=Nat.min_le_left ..
  by_cases h0:l.length=0
  ·omega
  ·have:=Nat.mod_lt draw.toNat (show l.length > 0 by omega)
   omega
def pnLV(o:Option Int):SV:=match o with
 |some a=>.tup [.agg [.d (.int .u32 a),.d (.str []),.d .ff,.d (.int .i64 0),.d (.int .i64 0)],.d (.int .i64 0)]
 |none=>.tup [.agg [.d (.int .u32 0),.d (.str []),.d .ff,.d (.int .i64 0),.d (.int .i64 0)],.d (.int .i64 3)]
theorem pnext_ok(now draw:Int)(hd:0<=draw/\draw<18446744073709551616)(zt:Bool)(tr:List Int)(z:Bool)(l:List Int)(ht:tr.length<10000000)(hl:l.length<10000000) :
 FnOk Tryz.prog 170 [.d (.int .i64 now),.d (.int .u64 draw),.d (.sl zt tr.length 1 (jg tr)),.d (peersD z l)] (pnLV (v6 now draw tr l)):=by
 refine qs (TT:=TT) (IN:=qf []) qe qi mixed 1000 Tryz.func170 rfl (qh Tryz.func170 (by kernel_rfl) rfl) rfl 42 (by kernel_rfl) ?_
 conv=>whnf
 refine .inv Nat (fun i=>i<=tr.length) (fun i=>[(20,iV i)]) (fun i=>[(1,.map [.int .u32] false false (cm (tr.take i)))]) (fun i=>tr.length - i) ⟨0,[0,1],Nat.zero_le _,?_⟩ ?_
 ·conv=>whnf
  repeat'(first|exact ⟨⟩|exact rfl|exact(fun _ _ _ _ h=>⟨qb _,h⟩)|exact fun _=>Iff.rfl|exact fun _ _=>rfl|apply And.intro)
  trace_state
 intro i hi
 conv=>whnf
 refine⟨fun c5=>?_,fun c5=>?_⟩
 ·have c5':i<tr.length:=(by have h:(i:Int)<tr.length:=of_decide_eq_true c5;omega)
  obtain⟨a,ha⟩:∃ a,tr.getD i 0=a:=⟨_,rfl⟩
  have hda:tr.take (i+1)=tr.take i++[a]:=by
   rw[List.take_add_one,List.getElem?_eq_getElem c5',<-ha,List.getD,List.getElem?_eq_getElem c5']
   rfl
  have hw1:=w64s i (by omega)
  conv=>whnf
  refine⟨by omega,?_⟩
  conv=>whnf
  rw[Int.toNat_natCast,ha]
  have hput:=cm_put (tr.take i) a
  rw [<-hda] at hput
  have hcl:(tr.take i).count a<=i:=Nat.le_trans List.count_le_length (by rw[List.length_take];omega)
  by_cases hm:a ∈ tr.take i
  ·refine⟨_,by rw[kr,if_pos hm],?_⟩
   conv=>whnf
   rw[show IntKind.i64.wrap (((tr.take i).count a:Nat)+1:Int)=(((tr.take i).count a+1:Nat):Int) by rw[qn _ (by omega)];omega]
   refine⟨_,hput,?_⟩
   conv=>whnf
   rw[hw1]
   refine⟨i+1,[0,1],c5',by omega,?_⟩
   conv=>whnf
   repeat'(first|exact ⟨⟩|exact rfl|exact(fun _ _ _ _ h=>⟨qb _,h⟩)|exact fun _=>Iff.rfl|exact fun _ _=>rfl|apply And.intro)
   all_goals exact yj _ _
  ·refine⟨_,by rw[kr,if_neg hm],?_⟩
   conv=>whnf
   rw [List.count_eq_zero.2 hm] at hput
   refine⟨_,hput,?_⟩
   conv=>whnf
   rw[hw1]
   refine⟨i+1,[0,1],c5',by omega,?_⟩
   conv=>whnf
   repeat'(first|exact ⟨⟩|exact rfl|exact(fun _ _ _ _ h=>⟨qb _,h⟩)|exact fun _=>Iff.rfl|exact fun _ _=>rfl|apply And.intro)
   all_goals exact yj _ _
 have hia:i=tr.length:=(by have h:¬ (i:Int)<tr.length:=of_decide_eq_false c5;omega)
 rw[hia,List.take_length]
 clear c5 hi hia
 conv=>whnf
 refine oD (order_ok now draw hd z l hl) rfl rfl ?_
 have hol:=ord_len now draw l
 unfold v6
 generalize ordF now draw l=o at hol ⊢
 conv=>whnf
 refine .inv Nat (fun i=>i<=o.length/\o.find? (fun a=>!decide (a ∈ tr))=(o.drop i).find? (fun a=>!decide (a ∈ tr))) (fun i=>[(34,iV i)]) (fun _=>[]) (fun i=>o.length - i) ⟨0,[0,1],⟨Nat.zero_le _,rfl⟩,?_⟩ ?_
 ·conv=>whnf
  repeat'(first|exact ⟨⟩|exact rfl|exact(fun _ _ _ _ h=>⟨qb _,h⟩)|exact fun _=>Iff.rfl|exact fun _ _=>rfl|apply And.intro)
  all_goals exact yj _ _
 rintro i ⟨hi,hf⟩
 rw[hf]
 conv=>whnf
 refine⟨fun c5=>?_,fun c5=>?_⟩
 ·have c5':i<o.length:=(by have h:(i:Int)<o.length:=of_decide_eq_true c5;omega)
  obtain⟨a,ha⟩:∃ a,o.getD i 0=a:=⟨_,rfl⟩
  have hda:o.drop i=a :: o.drop (i+1):=by
   rw[List.drop_eq_getElem_cons c5',<-ha,List.getD,List.getElem?_eq_getElem c5']
   rfl
  have hw1:=w64s i (by omega)
  rw[hda,List.find?_cons]
  conv=>whnf
  refine⟨by omega,?_⟩
  conv=>whnf
  rw[Int.toNat_natCast,ha]
  by_cases hm:a ∈ tr
  ·rw[decide_eq_true hm]
   refine⟨_,by rw[kr,if_pos hm],?_⟩
   conv=>whnf
   refine brF (by rw[beq_eq_false_iff_ne];have:=List.count_pos_iff.2 hm;omega) ?_
   conv=>whnf
   rw[hw1]
   refine⟨i+1,[0,1],⟨c5',rfl⟩,by omega,?_⟩
   conv=>whnf
   repeat'(first|exact ⟨⟩|exact rfl|exact(fun _ _ _ _ h=>⟨qb _,h⟩)|exact fun _=>Iff.rfl|exact fun _ _=>rfl|apply And.intro)
   all_goals exact yj _ _
  ·rw[decide_eq_false hm]
   refine⟨_,by rw[kr,if_neg hm],?_⟩
   conv=>whnf
   repeat(first|(refine brF rfl ?_;conv=>whnf)|(refine brT rfl ?_;conv=>whnf))
   repeat'(first|exact ⟨⟩|exact rfl|exact .inr rfl|exact .inl rfl|exact fun _ _=>rfl|exact noI|apply And.intro)
 ·have hia:i=o.length:=(by have h:¬ (i:Int)<o.length:=of_decide_eq_false c5;omega)
  rw[List.drop_of_length_le (by omega)]
  conv=>whnf
  repeat'(first|exact ⟨⟩|exact rfl|exact .inr rfl|exact .inl rfl|exact fun _ _=>rfl|exact noI|apply And.intro)
theorem qi0(a b:List UInt8):FnOk Tryz.prog 17 [.d (.str a),.d (.str b)] (.d (.bool (qv a b))):=by
 refine qs (TT:=TT) (IN:=qf []) qe qi mixed 1000 Tryz.func17 rfl (qh Tryz.func17 (by kernel_rfl) rfl) rfl 25 (by kernel_rfl) ?_
 conv=>whnf
 cases h0:((a.length:Int) == (b.length:Int))
 ·have:qv a b=false:=by
   cases hf:fold a == fold b
   ·unfold qv;rw[hf,Bool.and_false,Bool.and_false]
   ·have:=congrArg List.length (eq_of_beq hf)
    rw [qu2,qu2] at this
    rw [this] at h0;simp at h0
  rw[this]
  refine brF rfl ?_
  conv=>whnf
  repeat(first|(refine brF rfl ?_;conv=>whnf))
  try exact rfl
 ·refine brT rfl ?_
  conv=>whnf
  refine oD (wl a) rfl rfl ?_
  by_cases ha:qc a
  ·rw[if_pos ha]
   conv=>whnf
   refine brT rfl ?_
   conv=>whnf
   refine oD (wl b) rfl rfl ?_
   by_cases hb:qc b
   ·rw[if_pos hb]
    conv=>whnf
    refine brT rfl ?_
    conv=>whnf
    refine oD (vq a (qj8 ha)) rfl rfl ?_
    conv=>whnf
    refine oD (vq b (qj8 hb)) rfl rfl ?_
    rw[show qv a b=(fold a == fold b) by unfold qv;rw[decide_eq_true ha,decide_eq_true hb];rfl]
    conv=>whnf
    try exact rfl
   ·rw[if_neg hb,show qv a b=false by unfold qv;rw[decide_eq_false hb,Bool.false_and,Bool.and_false]]
    conv=>whnf
    refine brF rfl ?_
    conv=>whnf
    repeat(first|(refine brF rfl ?_;conv=>whnf))
    try exact rfl
  ·rw[if_neg ha,show qv a b=false by unfold qv;rw[decide_eq_false ha,Bool.false_and]]
   conv=>whnf
   refine brF rfl ?_
   conv=>whnf
   repeat(first|(refine brF rfl ?_;conv=>whnf))
   try exact rfl
theorem hits_cons(y:Tr)(l:List Tr)(zone nm:List UInt8)(k:Int):yb (y :: l) zone nm k=if mTry zone nm k y then y.addr :: yb l zone nm k else yb l zone nm k:=by
 unfold yb
 rw[List.filter_cons]
 split <;> rfl
theorem qm2:∀ (l a:List Int),(l.foldl ddp a).length<=a.length+l.length
 |[],_=>Nat.le_refl _
 |x :: l,a=>by
  have h1:=qm2 l (ddp a x)
  have h2:(ddp a x).length<=a.length+1:=by
   unfold ddp
   split
   ·omega
   ·rw[List.length_append];exact Nat.le_refl _
  rw[List.foldl_cons,List.length_cons]
  omega
theorem keep_all{p:Int->Bool}{D:List Int}(h:∀ j,j<D.length->p (D.getD j 0)=false):D.filter (fun a=>!p a)=D:=List.filter_eq_self.2 fun a ha=>by
 obtain⟨j,hj,rfl⟩:=List.mem_iff_getElem.1 ha
 have:=h j hj
 rw [List.getD,List.getElem?_eq_getElem hj] at this
 show(!p D[j])=true
 rw[show p D[j]=false from this]
 rfl
theorem keep_take{p:Int->Bool}{D:List Int}{i:Nat}(hi:i<=D.length)(h:∀ j,j<i->p (D.getD j 0)=false):(D.take i).filter (fun a=>!p a)=D.take i:=keep_all fun j hj=>by
 rw [List.length_take] at hj
 have hj:j<i:=by omega
 have:=h j hj
 rw[List.getD,List.getElem?_take,if_pos hj]
 exact this
structure TiSt where
 i:Nat
 P:List Int
structure TdSt where
 j:Nat
 m:Nat
 g:Nat->Int
def numF(g:Nat->Int)(q:Nat):List DV:=[.int .u32 (g q)]
theorem num_put(g:Nat->Int)(m:Nat)(b:Int){n:Nat}:∀ i,i<n->oneF ((m:Int)).toNat 0 [DV.int IntKind.u32 b] (numF g) i=numF (upd g m b) i:=fun i _=>by
 rw[Int.toNat_natCast]
 unfold oneF numF
 by_cases h:i=m
 ·subst h;rw[if_pos rfl,qm];rfl
 ·rw[if_neg h,ql _ _ h]
def TriR(P:List Int)(times:Int)(s:SV)(k:List KB):Prop:=(jb P=[]/\s = .all 0/\k=[.row 47 1 0 .iff (jg [])]) \/
 (0<(jb P).length/\∃ G,(s = .row 0 0 ((jb P).filter fun a=>!decide ((P.count a:Nat)<times)).length\/(s = .all 0/\((jb P).filter fun a=>!decide ((P.count a:Nat)<times)).length=(jb P).length)) /\
  k=[.row 47 1 (jb P).length .iff G]/\∀ i,i<((jb P).filter fun a=>!decide ((P.count a:Nat)<times)).length->G i=jg ((jb P).filter fun a=>!decide ((P.count a:Nat)<times)) i)
theorem tried0_ok(id:Int)(q:Q)(zs:Bool)(ns:Nat)(fs:Nat->List DV)(zh:Bool)(nh:Nat)(fh:Nat->List DV)(l:List Tr)(work:Int)(zn:List UInt8)(zone nm:List UInt8)(k times:Int)(ht:l.length<=1000000) :
 COk Tryz.prog 169 [.agg [.d (.int .i64 id),.d (.str q.nm),.d (.int .u16 q.ty),.d (.int .u16 q.cl),.d (.sl zs ns 3 fs),.d (.sl (Nat.beq l.length 0) l.length 4 (trsF l)),.d (.sl zh nh 1 fh),.d (.int .i64 work),.d (.str zn)],.d (.str zone),.d (.str nm),.d (.int .u16 k),.d (.int .i64 times)] [] (TriR (yb l zone nm k) times):=by
 refine jk (TT:=TT) (IN:=qf [(214,Tryz.f214,2),(241,Tryz.f241,2),(215,Tryz.f215,3)]) qe (qw (qw (qw qi Tryz.func215 (by kernel_rfl) (by kernel_rfl)) Tryz.func241 (by kernel_rfl) (by kernel_rfl)) Tryz.func214 (by kernel_rfl) (by kernel_rfl)) mixed 1000 Tryz.func169 rfl (qh Tryz.func169 (by kernel_rfl) rfl) 55 (by kernel_rfl) ?_
 conv=>whnf
 obtain⟨PP,hPP⟩:∃ PP,yb l zone nm k=PP:=⟨_,rfl⟩
 rw[hPP]
 refine .nilT 12 47 1 (jg []) _ _ rfl ?_
 refine .inv TiSt (fun x=>x.i<=l.length/\x.P.length<=x.i/\PP=x.P++yb (l.drop x.i) zone nm k) (fun x=>[(12,.all 4),(19,iV x.i)]) (fun x=>[(2,.map [.int .u32] false false (cm x.P)),(4,.row 47 1 (jb x.P).length .iff (jg (jb x.P)))]) (fun x=>l.length - x.i) ⟨⟨0,[]⟩,[0,1,2,3,4],⟨Nat.zero_le _,Nat.zero_le _,hPP.symm⟩,?_⟩ ?_
 ·conv=>whnf
  repeat'(first|exact ⟨⟩|exact rfl|exact(fun _ _ _ _ h=>⟨qb _,h⟩)|exact fun _=>Iff.rfl|exact fun _ _=>rfl|apply And.intro)
 clear hPP
 intro x hx
 obtain⟨g1,g2,g3⟩:=hx
 conv=>whnf
 generalize x.i=i at g1 g2 g3 ⊢
 generalize x.P=P at g2 g3 ⊢
 have hw1:=w64s i (by omega)
 refine⟨fun c5=>?_,fun c5=>?_⟩
 ·have c5':i<l.length:=(by have h:(i:Int)<l.length:=of_decide_eq_true c5;omega)
  obtain⟨y,hy⟩:∃ y,l.getD i default=y:=⟨_,rfl⟩
  have hda:l.drop i=y :: l.drop (i+1):=by
   rw[List.drop_eq_getElem_cons c5',<-hy,List.getD,List.getElem?_eq_getElem c5']
   rfl
  rw [hda,hits_cons] at g3
  conv=>whnf
  refine⟨by omega,?_⟩
  conv=>whnf
  rw[Int.toNat_natCast,hy]
  obtain⟨ya,yz,yn,yt⟩:=y
  have hcl:P.count ya<=i:=Nat.le_trans List.count_le_length g2
  by_cases h1:yt=k
  case neg =>
   rw [if_neg (by unfold mTry;simp [h1])] at g3
   refine brT (by rw[bne_iff_ne];exact h1) ?_
   conv=>whnf
   repeat(first|(refine brF rfl ?_;conv=>whnf)|(refine brT rfl ?_;conv=>whnf))
   rw[hw1]
   refine⟨⟨i+1,P⟩,[0,1,2,3,4],⟨c5',by show P.length<=i+1;omega,g3⟩,by show l.length - (i+1)<l.length - i;omega,?_⟩
   conv=>whnf
   repeat'(first|exact ⟨⟩|exact rfl|exact(fun _ _ _ _ h=>⟨qb _,h⟩)|exact fun _=>Iff.rfl|exact fun _ _=>rfl|apply And.intro)
   all_goals exact yj _ _
  refine brF (by rw[bne_eq_false_iff_eq];exact h1) ?_
  conv=>whnf
  refine oD (qi0 _ _) rfl rfl ?_
  cases h2:qv yz zone with
  |false =>
   rw [if_neg (by unfold mTry;simp [h2])] at g3
   conv=>whnf
   repeat(first|(refine brF rfl ?_;conv=>whnf)|(refine brT rfl ?_;conv=>whnf))
   rw[hw1]
   refine⟨⟨i+1,P⟩,[0,1,2,3,4],⟨c5',by show P.length<=i+1;omega,g3⟩,by show l.length - (i+1)<l.length - i;omega,?_⟩
   conv=>whnf
   repeat'(first|exact ⟨⟩|exact rfl|exact(fun _ _ _ _ h=>⟨qb _,h⟩)|exact fun _=>Iff.rfl|exact fun _ _=>rfl|apply And.intro)
   all_goals exact yj _ _
  |true =>
   conv=>whnf
   refine brF rfl ?_
   conv=>whnf
   refine oD (qi0 _ _) rfl rfl ?_
   cases h3:qv yn nm with
   |false =>
    rw [if_neg (by unfold mTry;simp [h3])] at g3
    conv=>whnf
    repeat(first|(refine brF rfl ?_;conv=>whnf)|(refine brT rfl ?_;conv=>whnf))
    rw[hw1]
    refine⟨⟨i+1,P⟩,[0,1,2,3,4],⟨c5',by show P.length<=i+1;omega,g3⟩,by show l.length - (i+1)<l.length - i;omega,?_⟩
    conv=>whnf
    repeat'(first|exact ⟨⟩|exact rfl|exact(fun _ _ _ _ h=>⟨qb _,h⟩)|exact fun _=>Iff.rfl|exact fun _ _=>rfl|apply And.intro)
    all_goals exact yj _ _
   |true =>
    rw [if_pos (by unfold mTry;simp [h1,h2,h3])] at g3
    replace g3:PP=(P++[ya])++yb (l.drop (i+1)) zone nm k:=by rw[g3,List.append_assoc];rfl
    have hput:=cm_put P ya
    conv=>whnf
    repeat(first|(refine brF rfl ?_;conv=>whnf)|(refine brT rfl ?_;conv=>whnf))
    by_cases hm:ya ∈ P
    ·refine⟨_,by rw[kr,if_pos hm],?_⟩
     conv=>whnf
     refine brF (by have:=List.count_pos_iff.2 hm;exact beq_eq_false_iff_ne.2 (by show((P.count ya:Nat):Int)≠0;omega)) ?_
     conv=>whnf
     refine⟨_,by rw[kr,if_pos hm],?_⟩
     conv=>whnf
     rw[show IntKind.i64.wrap ((P.count ya:Nat)+1:Int)=((P.count ya+1:Nat):Int) by rw[qn _ (by omega)];omega]
     refine⟨_,hput,?_⟩
     conv=>whnf
     rw[hw1]
     refine⟨⟨i+1,P++[ya]⟩,[0,1,2,3,4],⟨c5',by show(P++[ya]).length<=i+1;rw[List.length_append,List.length_singleton];omega,g3⟩,by show l.length - (i+1)<l.length - i;omega,?_⟩
     have ho:jb (P++[ya])=jb P:=by rw[qt6];unfold ddp;rw[if_pos ((vj P ya).2 hm)]
     rw[ho]
     conv=>whnf
     repeat'(first|exact ⟨⟩|exact rfl|exact(fun _ _ _ _ h=>⟨qb _,h⟩)|exact fun _=>Iff.rfl|exact fun _ _=>rfl|apply And.intro)
     all_goals exact yj _ _
    ·rw [List.count_eq_zero.2 hm] at hput
     have ho:jb (P++[ya])=jb P++[ya]:=by rw[qt6];unfold ddp;rw[if_neg fun e=>hm ((vj P ya).1 e)]
     have hol:=qm2 P []
     replace hol:(jb P).length<=0+P.length:=hol
     refine⟨_,by rw[kr,if_neg hm],?_⟩
     conv=>whnf
     repeat(first|(refine brF rfl ?_;conv=>whnf)|(refine brT rfl ?_;conv=>whnf))
     refine⟨by omega,?_⟩
     conv=>whnf
     refine⟨_,by rw[kr,if_neg hm],?_⟩
     conv=>whnf
     refine⟨_,hput,?_⟩
     conv=>whnf
     rw[hw1]
     refine⟨⟨i+1,P++[ya]⟩,[0,1,2,3,7],⟨c5',by show(P++[ya]).length<=i+1;rw[List.length_append,List.length_singleton];omega,g3⟩,by show l.length - (i+1)<l.length - i;omega,?_⟩
     rw[ho]
     conv=>whnf
     repeat'(first|exact ⟨⟩|exact rfl|exact(fun _ _ _ _ h=>⟨qb _,h⟩)|exact fun _=>Iff.rfl|exact fun _ _=>rfl|apply And.intro)
     all_goals first
      |exact yj _ _
      |exact(show(jb P).length+1=(jb P++[ya]).length by rw[List.length_append];rfl)
      |exact fun j hj=>ints_cat (jb P) ya j hj
      |trace_state
 ·have hia:i=l.length:=(by have h:¬ (i:Int)<l.length:=of_decide_eq_false c5;omega)
  rw [List.drop_of_length_le (by omega)] at g3
  replace g3:PP=P:=g3.trans (List.append_nil _)
  subst g3
  have hcl:∀ a,PP.count a<=1000000:=fun a=>Nat.le_trans List.count_le_length (by omega)
  have hol:=qm2 PP []
  replace hol:(jb PP).length<=0+PP.length:=hol
  have hin:∀ a ∈ jb PP,a ∈ PP:=fun a h=>(vj PP a).1 h
  unfold TriR
  generalize jb PP=D at hol hin ⊢
  obtain⟨p,hp⟩:∃ p:Int->Bool,p=fun a=>decide ((PP.count a:Nat)<times):=⟨_,rfl⟩
  have hpp:(fun a=>!decide (((PP.count a:Nat):Int)<times))=fun a=>!p a:=by rw[hp]
  rw[hpp]
  have hPl:PP.length<=1000000:=by omega
  clear c5 hia g1 g2 hpp
  conv=>whnf
  refine .inv Nat (fun i=>i<=D.length/\∀ j,j<i->p (D.getD j 0)=false) (fun i=>[(8,iV i)]) (fun _=>[]) (fun i=>D.length - i) ⟨0,[0,1,2,3,4],⟨Nat.zero_le _,fun j h=>absurd h (Nat.not_lt_zero _)⟩,?_⟩ ?_
  ·conv=>whnf
   repeat'(first|exact ⟨⟩|exact rfl|exact(fun _ _ _ _ h=>⟨qb _,h⟩)|exact fun _=>Iff.rfl|exact fun _ _=>rfl|apply And.intro)
   all_goals exact yj _ _
  rintro i ⟨g1,g2⟩
  conv=>whnf
  have hw1:=w64s i (by omega)
  refine⟨fun c5=>?_,fun c5=>?_⟩
  ·have c5':i<D.length:=(by have h:(i:Int)<D.length:=of_decide_eq_true c5;omega)
   obtain⟨a,ha⟩:∃ a,D.getD i 0=a:=⟨_,rfl⟩
   have haD:a ∈ D:=by rw[<-ha,List.getD,List.getElem?_eq_getElem c5'];exact List.getElem_mem _
   conv=>whnf
   refine⟨by omega,?_⟩
   conv=>whnf
   rw[Int.toNat_natCast,ha]
   have hpa:decide (((PP.count a:Nat):Int)<times)=p a:=by rw[hp]
   refine⟨_,by rw[kr,if_pos (hin a haD)],?_⟩
   conv=>whnf
   rw[hpa]
   cases hc:p a with
   |false =>
    refine brF rfl ?_
    conv=>whnf
    rw[hw1]
    refine⟨i+1,[0,1,2,3,4],⟨c5',fun j hj=>?_⟩,by omega,?_⟩
    ·by_cases e:j=i
     ·rw[e,ha];exact hc
     ·exact g2 j (by omega)
    conv=>whnf
    repeat'(first|exact ⟨⟩|exact rfl|exact(fun _ _ _ _ h=>⟨qb _,h⟩)|exact fun _=>Iff.rfl|exact fun _ _=>rfl|apply And.intro)
    all_goals exact yj _ _
   |true =>
    refine brT rfl ?_
    conv=>whnf
    refine brF (by rw[beq_eq_false_iff_ne];omega) ?_
    conv=>whnf
    rw[hw1]
    have htk:(D.take (i+1)).filter (fun a=>!p a)=D.take i:=by
     rw[List.take_add_one,List.filter_append,keep_take g1 g2,List.getElem?_eq_getElem c5']
     rw [List.getD,List.getElem?_eq_getElem c5'] at ha
     have ha:D[i]=a:=ha
     simp[ha,hc]
    refine .inv TdSt (fun x=>x.j<=D.length/\x.m<x.j/\x.m=((D.take x.j).filter fun a=>!p a).length/\(∀ q,q<x.m->x.g q=((D.take x.j).filter fun a=>!p a).getD q 0)/\∀ q,x.j<=q->x.g q=D.getD q 0) (fun x=>[(5,iV x.m),(6,iV x.j)]) (fun x=>[(4,.row 47 1 D.length .iff (numF x.g))]) (fun x=>D.length - x.j) ⟨⟨i+1,i,fun q=>D.getD q 0⟩,[0,1,2,3,4],⟨c5',Nat.lt_succ_self i,?_,?_,fun _ _=>rfl⟩,?_⟩ ?_
    ·show i=((D.take (i+1)).filter fun a=>!p a).length
     rw[htk,List.length_take];omega
    ·intro q hq
     show D.getD q 0=((D.take (i+1)).filter fun a=>!p a).getD q 0
     rw[htk,List.getD,List.getD,List.getElem?_take,if_pos hq]
    ·conv=>whnf
     repeat'(first|exact ⟨⟩|exact rfl|exact(fun _ _ _ _ h=>⟨qb _,h⟩)|exact fun _=>Iff.rfl|exact fun _ _=>rfl|apply And.intro)
     all_goals exact yj _ _
    intro x hx
    obtain⟨j1,j2,j3,j4,j5⟩:=hx
    conv=>whnf
    generalize x.j=j at j1 j2 j3 j4 j5 ⊢
    generalize x.m=m at j2 j3 j4 ⊢
    generalize x.g=g at j4 j5 ⊢
    have hwj:=w64s j (by omega)
    have hwm:=w64s m (by omega)
    clear hpa hc ha haD hw1
    refine⟨fun c6=>?_,fun c6=>?_⟩
    ·have c6':j<D.length:=(by have h:(j:Int)<D.length:=of_decide_eq_true c6;omega)
     obtain⟨b,hb⟩:∃ b,D.getD j 0=b:=⟨_,rfl⟩
     have hbD:b ∈ D:=by rw[<-hb,List.getD,List.getElem?_eq_getElem c6'];exact List.getElem_mem _
     have hgj:g j=b:=(j5 j (Nat.le_refl _)).trans hb
     have hdb:D.take (j+1)=D.take j++[b]:=by
      rw[List.take_add_one,List.getElem?_eq_getElem c6',<-hb,List.getD,List.getElem?_eq_getElem c6']
      rfl
     have hpb:decide (((PP.count b:Nat):Int)<times)=p b:=by rw[hp]
     conv=>whnf
     refine⟨by omega,?_⟩
     conv=>whnf
     rw[Int.toNat_natCast,hgj]
     refine⟨_,by rw[kr,if_pos (hin b hbD)],?_⟩
     conv=>whnf
     rw[hpb]
     cases hc:p b with
     |true =>
      have hfb:(D.take (j+1)).filter (fun a=>!p a)=(D.take j).filter fun a=>!p a:=by rw[hdb,List.filter_append];simp[hc]
      refine brF rfl ?_
      conv=>whnf
      rw[hwj]
      refine⟨⟨j+1,m,g⟩,[0,1,2,3,4],⟨c6',by show m<j+1;omega,by show m=_;rw[hfb];exact j3,by show ∀ q,q<m->g q=_;rw[hfb];exact j4,fun q hq=>j5 q (by have:j+1<=q:=hq;omega)⟩,by show D.length - (j+1)<D.length - j;omega,?_⟩
      conv=>whnf
      repeat'(first|exact ⟨⟩|exact rfl|exact(fun _ _ _ _ h=>⟨qb _,h⟩)|exact fun _=>Iff.rfl|exact fun _ _=>rfl|apply And.intro)
      all_goals first|exact yj _ _|trace_state
     |false =>
      have hfb:(D.take (j+1)).filter (fun a=>!p a)=((D.take j).filter fun a=>!p a)++[b]:=by rw[hdb,List.filter_append];simp[hc]
      refine brT rfl ?_
      conv=>whnf
      refine⟨by omega,?_⟩
      conv=>whnf
      rw[hwm,hwj]
      refine⟨⟨j+1,m+1,upd g m b⟩,[0,1,2,3,4],⟨c6',by show m+1<j+1;omega,?_,?_,?_⟩,by show D.length - (j+1)<D.length - j;omega,?_⟩
      ·show m+1=_
       rw[hfb,List.length_append,<-j3];rfl
      ·intro q hq
       have hq:q<m+1:=hq
       show upd g m b q=_
       rw[hfb]
       by_cases e:q=m
       ·subst e
        rw[qm,List.getD,List.getElem?_append_right (by omega),<-j3,Nat.sub_self]
        rfl
       ·rw[ql _ _ e,j4 q (by omega),List.getD,List.getD,List.getElem?_append_left (by omega)]
      ·intro q hq
       have hq:j+1<=q:=hq
       show upd g m b q=_
       rw[ql _ _ (by omega)]
       exact j5 q (by omega)
      ·conv=>whnf
       repeat'(first|exact ⟨⟩|exact rfl|exact(fun _ _ _ _ h=>⟨qb _,h⟩)|exact fun _=>Iff.rfl|exact fun _ _=>rfl|apply And.intro)
       all_goals first|exact yj _ _|exact num_put g m b|trace_state
    ·have hja:j=D.length:=(by have h:¬ (j:Int)<D.length:=of_decide_eq_false c6;omega)
     rw [hja,List.take_length] at j3 j4
     have hmD:m<D.length:=by omega
     have hm1:((m:Nat):Int).toNat=m:=Int.toNat_natCast m
     have hm2:((D.length:Int) - (m:Int)).toNat=D.length - m:=by omega
     have hm3:((m:Int) - 0).toNat=m:=by omega
     conv=>whnf
     refine⟨⟨by omega,by omega,Int.le_refl _⟩,?_⟩
     conv=>whnf
     rw[hm1,hm2]
     refine⟨by omega,?_⟩
     conv=>whnf
     refine⟨⟨Int.le_refl _,by omega,by omega⟩,?_⟩
     conv=>whnf
     rw[hm3]
     refine⟨[4],.row 0 0 m,[.row 47 1 D.length .iff (midF m (D.length - m) (numF g) fun _=>[.int .u32 0])],rfl,rfl,rfl,?_,?_⟩
     ·repeat'(first|exact ⟨⟩|exact rfl|exact qu _|exact .inr rfl|exact fun _ _=>rfl|exact noI|apply And.intro)
     ·refine .inr ⟨by omega,_,.inl (by rw[<-j3]),rfl,fun i hi=>?_⟩
      rw [<-j3] at hi
      unfold midF
      rw[if_neg (by omega)]
      unfold numF
      rw[j4 i hi]
      rfl
  ·have hia:i=D.length:=(by have h:¬ (i:Int)<D.length:=of_decide_eq_false c5;omega)
   have hfa:D.filter (fun a=>!p a)=D:=keep_all fun j hj=>g2 j (by omega)
   rw[hfa]
   conv=>whnf
   refine brT rfl ?_
   conv=>whnf
   refine⟨[4],.all 0,[.row 47 1 D.length .iff (jg D)],rfl,rfl,rfl,?_,?_⟩
   ·repeat'(first|exact ⟨⟩|exact rfl|exact qu _|exact .inr rfl|exact fun _ _=>rfl|exact noI|apply And.intro)
   ·by_cases h0:D=[]
    ·subst h0;exact .inl ⟨rfl,rfl,rfl⟩
    ·exact .inr ⟨by have:=List.length_pos_iff.2 h0;omega,_,.inr ⟨rfl,rfl⟩,rfl,fun i hi=>rfl⟩
theorem tried_new(id:Int)(q:Q)(zs:Bool)(ns:Nat)(fs:Nat->List DV)(zh:Bool)(nh:Nat)(fh:Nat->List DV)(l:List Tr)(work:Int)(zn:List UInt8)(zone nm:List UInt8)(k times:Int)(ht:l.length<=1000000) :
 FnNew Tryz.prog 169 [.agg [.d (.int .i64 id),.d (.str q.nm),.d (.int .u16 q.ty),.d (.int .u16 q.cl),.d (.sl zs ns 3 fs),.d (.sl (Nat.beq l.length 0) l.length 4 (trsF l)),.d (.sl zh nh 1 fh),.d (.int .i64 work),.d (.str zn)],.d (.str zone),.d (.str nm),.d (.int .u16 k),.d (.int .i64 times)]
  (.d (.sl (Nat.beq (jb (yb l zone nm k)).length 0) (xi l zone nm k times).length 1 (jg (xi l zone nm k times)))):=by
 refine FnNew.of_cokR (e:=47) (tried0_ok id q zs ns fs zh nh fh l work zn zone nm k times ht) (fun s kk h=>?_) (fun i j d _ hd=>?_)
 ·rcases h with⟨h1,h2,h3⟩|⟨h1,G,h2,h3,h4⟩
  ·refine .inl ⟨by rw[h1];rfl,by unfold xi;rw[h1];rfl,.inr ⟨_,h2,h3⟩⟩
  ·refine .inr ⟨?_,_,_,G,h2,h3,List.length_filter_le ..,h1,h4⟩
   cases hl:(jb (yb l zone nm k)).length with
   |zero=>omega
   |succ n=>rfl
 ·unfold jg at hd
  match j with
  |0=>simp at hd;subst hd;rfl
  |j+1=>simp at hd
theorem lookq(c:CSt)(H:List Held)(hk:Kn c H)(hH:FitH H)(q:Q)(now:Int)(pre rest:List KB) :
 COk Tryz.prog 13 [.ptr pre.length 0,.agg [.d (.str q.nm),.d (.int .u16 q.ty),.d (.int .u16 q.cl)],.d (.int .i64 now)] (pre++(c.ks pre.length++rest)) (fun s k=>s=(lkF H q now).V/\k=pre++((lkQ H c q now).ks pre.length++rest)):=by
 refine(ckq (Q:=fun s c1=>s=(lkF H q now).V/\c1=lkQ H c q now) ((lookof_ok c H hk hH q now).imp fun s k ⟨h1,h2⟩=>⟨_,h2,h1,rfl⟩) pre rest _ rfl rfl).imp fun s k ⟨s0,c1,⟨h1,h2⟩,h3,h4⟩=>⟨?_,by rw[h4,h2]⟩
 rw[h3,h1]
 rfl
theorem closeq(c:CSt)(H:List Held)(hk:Kn c H)(name:List UInt8)(now:Int)(pre rest:List KB) :
 COk Tryz.prog 166 [.ptr pre.length 0,.d (.str name),.d (.int .i64 now)] (pre++(c.ks pre.length++rest)) (fun s k=>s=uq name (z1 H name now)/\k=pre++((wm H c name now).ks pre.length++rest)):=by
 refine(ckq (Q:=fun s c1=>s=uq name (z1 H name now)/\c1=wm H c name now) ((closest_ok c H hk name now).imp fun s k ⟨h1,h2⟩=>⟨_,h2,h1,rfl⟩) pre rest _ rfl rfl).imp fun s k ⟨s0,c1,⟨h1,h2⟩,h3,h4⟩=>⟨?_,by rw[h4,h2]⟩
 rw[h3,h1]
 cases z1 H name now <;> rfl
theorem serversq(c:CSt)(H:List Held)(hk:Kn c H)(hH:FitH H)(s:St)(hs:s.data.length<=100000/\∀ d ∈ s.data,d.length<=100000)(now:Int)(pre rest:List KB) :
 COk Tryz.prog 167 [.ptr pre.length 0,.agg [.d (.str s.nm),.d (.int .u16 s.ty),.d (.int .u32 s.ttl),.d (.sl s.z s.data.length 1 (strs s.data))],.d (.int .i64 now)] (pre++(c.ks pre.length++rest)) (fun r k=>r=srvLV (srvF H s now)/\k=pre++((srvQ c s now).ks pre.length++rest)):=by
 refine(ckq (Q:=fun r c1=>r=srvLV (srvF H s now)/\c1=srvQ c s now) ((servers_ok c H hk hH s hs now).imp fun r k ⟨h1,h2⟩=>⟨_,h2,h1,rfl⟩) pre rest _ rfl rfl).imp fun r k ⟨s0,c1,⟨h1,h2⟩,h3,h4⟩=>⟨?_,by rw[h4,h2]⟩
 rw[h3,h1]
 rfl
def wC(t:Tk)(si ti hi:SV)(zh:Bool)(hints:List Int)(now draw:Int):KB:=.cells 142 [.d (.int .i64 t.id),.d (.str t.ask.nm),.d (.int .u16 t.ask.ty),.d (.int .u16 t.ask.cl),si,ti,hi,.d (.int .i64 t.work),.d (.str t.zone),.ptr 0 0,.ptr 3 0,.d (.sl zh hints.length 1 (jg hints)),.d (.int .i64 now),.d (.int .u64 draw)]
def wks(rm:Int)(c:CSt)(t:Tk)(si:SV)(S:List Q)(zh:Bool)(hints:List Int)(now draw:Int):List KB :=
 c.ks 0++[.cells 132 [.d (.int .i64 rm),.map 4,.v (.pointer none),.v (.pointer none)],.map [.int .u32] false false [],wC t si (.all 7) (.all 8) zh hints now draw,.row 27 3 S.length .may (qsF S),.row 68 4 t.tries.length .iff (trsF t.tries),.row 9 1 t.hosts.length .iff (strs t.hosts)]
def ur:Option Sp->SV
 |some s=>.tup [.agg s.L,.d .tt]
 |none=>.tup [.agg noS.L,.d .ff]
theorem wks_map(rm:Int)(c:CSt)(t:Tk)(si:SV)(S:List Q)(zh:Bool)(hints:List Int)(now draw:Int){σ:Nat->Nat}(h:∀ i,i<9->σ i=i)(hsi:mapV σ si=si):mapB σ (wks rm c t si S zh hints now draw)=wks rm c t si S zh hints now draw:=by
 have h1:mapB σ (c.ks 0)=c.ks 0:=qd0 c (p:=0) (h 1 (by decide)) (h 2 (by decide))
 have ha:∀ (a b:List KB),mapB σ (a++b)=mapB σ a++mapB σ b:=fun a b=>by
  induction a with
  |nil=>rfl
  |cons x a ih=>simp[mapB,ih]
 unfold wks
 rw[ha,h1]
 congr 1
 show[KB.cells 132 [.d (.int .i64 rm),.map (σ 4),.v (.pointer none),.v (.pointer none)],KB.map [.int .u32] false false [],KB.cells 142 [.d (.int .i64 t.id),.d (.str t.ask.nm),.d (.int .u16 t.ask.ty),.d (.int .u16 t.ask.cl),mapV σ si,.all (σ 7),.all (σ 8),.d (.int .i64 t.work),.d (.str t.zone),.ptr (σ 0) 0,.ptr (σ 3) 0,.d (.sl zh hints.length 1 (jg hints)),.d (.int .i64 now),.d (.int .u64 draw)],KB.row 27 3 S.length .may (qsF S),KB.row 68 4 t.tries.length .iff (trsF t.tries),KB.row 9 1 t.hosts.length .iff (strs t.hosts)]=_
 rw[h 4 (by decide),h 7 (by decide),h 8 (by decide),h 0 (by decide),h 3 (by decide),hsi]
 rfl
theorem qr6{f:FuncId}{al:List SV}{rm:Int}{c:CSt}{t:Tk}{si:SV}{S:List Q}{zh:Bool}{hints:List Int}{now draw:Int}{R:SV->List KB->Prop}(h:COk Tryz.prog f al (wks rm c t si S zh hints now draw) R)(rest:List KB)
 (hsi:∀ σ:Nat->Nat,(∀ i,i<9->σ i=i)->mapV σ si=si) (ha:∀ σ:Nat->Nat,(∀ i,i<9->σ i=i)->mapL σ al=al)
 (hR:∀ s k,R s k->(∃ c1 t1 si1 S1,k=wks rm c1 t1 si1 S1 zh hints now draw/\∀ σ:Nat->Nat,(∀ i,i<9->σ i=i)->mapV σ si1=si1)/\∀ σ:Nat->Nat,mapV σ s=s) :
 COk Tryz.prog f al (wks rm c t si S zh hints now draw++rest) (fun s k=>∃ k0,R s k0/\k=k0++rest):=by
 obtain⟨σ,hσ⟩:∃ σ,σ=sig (List.range' 0 9) (0+(9+rest.length)):=⟨_,rfl⟩
 have hi:∀ i,i<9->σ i=i:=fun i hi=>by
  rw[hσ]
  unfold sig
  rw[List.getElem?_range' hi]
  simp
 have hm:=wks_map rm c t si S zh hints now draw hi (hsi σ hi)
 have:=h.among [] rest (σ:=σ) (fun s k hs=>by obtain⟨⟨c1,t1,si1,S1,rfl,_⟩,_⟩:=hR s k hs;exact Nat.le_refl _) hσ
 rw [hm,ha σ hi] at this
 refine COk.imp (show COk Tryz.prog f al (wks rm c t si S zh hints now draw++rest) _ from this) fun s k ⟨s0,k1,h1,h2,h3⟩=>?_
 obtain⟨⟨c1,t1,si1,S1,rfl,hsi1⟩,hs⟩:=hR s0 k1 h1
 rw [hs σ] at h2
 subst h2
 refine⟨_,h1,?_⟩
 rw[h3,show(wks rm c1 t1 si1 S1 zh hints now draw).take (wks rm c t si S zh hints now draw).length=wks rm c1 t1 si1 S1 zh hints now draw from rfl,wks_map rm c1 t1 si1 S1 zh hints now draw hi (hsi1 σ hi),show(wks rm c1 t1 si1 S1 zh hints now draw).drop (wks rm c t si S zh hints now draw).length=[] from rfl]
 show[]++(_++(rest++[]))=_
 rw[List.append_nil]
 rfl
theorem leave0_ok(rm:Int)(c:CSt)(t:Tk)(ht:TI t)(S:List Q)(zh:Bool)(hints:List Int)(now draw:Int)(k w x2:Int)(b3:Bool)(n3 z3:Nat)(f3:Nat->List DV)(x4:List UInt8)(x5 x6:Int)(b7:Bool)(n7 z7:Nat)(f7:Nat->List DV)(x8:List UInt8)(x9 x10:Int)(x11 x12:List UInt8)(x13 x14:Int) :
 COk Tryz.prog 110 [.ptr 5 0,.agg [.d (.int .u8 k),.d (.int .i64 w),.d (.int .u8 x2),.d (.sl b3 n3 z3 f3),.d (.str x4),.d (.int .u16 x5),.d (.int .u32 x6),.d (.sl b7 n7 z7 f7),.d (.str x8),.d (.int .u32 x9),.d (.int .u32 x10),.d (.str x11),.d (.str x12),.d (.int .u16 x13),.d (.int .u16 x14)]] (wks rm c t (.row 6 0 t.stack.length) S zh hints now draw)
  (fun s kk=>if t.stack.length=1 then s = .tup [.agg [.d (.int .u8 k),.d (.int .i64 w),.d (.int .u8 x2),.d (.sl b3 n3 z3 f3),.d (.str x4),.d (.int .u16 x5),.d (.int .u32 x6),.d (.sl b7 n7 z7 f7),.d (.str x8),.d (.int .u32 x9),.d (.int .u32 x10),.d (.str x11),.d (.str x12),.d (.int .u16 x13),.d (.int .u16 x14)],.d .tt]/\kk=wks rm c t (.row 6 0 t.stack.length) S zh hints now draw
   else s = .tup [.agg noS.L,.d .ff]/\kk=wks rm c { t with stack:=t.stack.dropLast } (.row 6 0 t.stack.dropLast.length) S zh hints now draw):=by
 have hlo:=ht.lo
 have hhi:=ht.hi
 by_cases h1:t.stack.length=1
 ·simp only[if_pos h1]
  refine jk (TT:=TT) (IN:=qf []) qe qi mixed 1000 Tryz.func110 rfl (qh Tryz.func110 (by kernel_rfl) rfl) 30 (by kernel_rfl) ?_
  conv=>whnf
  refine brT (by rw[beq_iff_eq];omega) ?_
  conv=>whnf
  repeat(first|(refine brF rfl ?_;conv=>whnf)|(refine brT rfl ?_;conv=>whnf))
  refine⟨[0,1,2,3,4,5,6,7,8],_,_,rfl,rfl,?_,?_,rfl,rfl⟩
  ·exact rfl
  ·repeat'(first|exact ⟨⟩|exact rfl|exact(fun _ _ _ _ h=>⟨qb _,h⟩)|exact fun _=>Iff.rfl|exact fun _ _=>rfl|apply And.intro)
   all_goals exact qa rfl _
 ·simp only[if_neg h1]
  refine jk (TT:=TT) (IN:=qf []) qe qi mixed 1000 Tryz.func110 rfl (qh Tryz.func110 (by kernel_rfl) rfl) 30 (by kernel_rfl) ?_
  conv=>whnf
  have hw0:IntKind.i64.wrap ((t.stack.length:Int) - 1)=((t.stack.dropLast.length:Nat):Int):=by rw[List.length_dropLast,qn _ (by omega)];omega
  refine brF (by rw[beq_eq_false_iff_ne];omega) ?_
  conv=>whnf
  rw[hw0]
  have hdl:t.stack.dropLast.length<=t.stack.length:=by rw[List.length_dropLast];omega
  refine⟨⟨Int.le_refl _,by omega,by omega⟩,?_⟩
  have hm:(((t.stack.dropLast.length:Nat):Int) - 0).toNat=t.stack.dropLast.length:=by omega
  conv=>whnf
  rw[hm]
  refine⟨[0,1,2,3,4,5,6,7,8],_,_,rfl,rfl,?_,?_,rfl,rfl⟩
  ·exact rfl
  ·repeat'(first|exact ⟨⟩|exact rfl|exact(fun _ _ _ _ h=>⟨qb _,h⟩)|exact fun _=>Iff.rfl|exact fun _ _=>rfl|apply And.intro)
   all_goals first|exact qa rfl _|trace_state
theorem qh2(rm:Int)(c:CSt)(t:Tk)(ht:TI t)(S:List Q)(zh:Bool)(hints:List Int)(now draw:Int)(k w x2:Int)(b3:Bool)(n3 z3:Nat)(f3:Nat->List DV)(x4:List UInt8)(x5 x6:Int)(b7:Bool)(n7 z7:Nat)(f7:Nat->List DV)(x8:List UInt8)(x9 x10:Int)(x11 x12:List UInt8)(x13 x14:Int)(rest:List KB) :
 COk Tryz.prog 110 [.ptr 5 0,.agg [.d (.int .u8 k),.d (.int .i64 w),.d (.int .u8 x2),.d (.sl b3 n3 z3 f3),.d (.str x4),.d (.int .u16 x5),.d (.int .u32 x6),.d (.sl b7 n7 z7 f7),.d (.str x8),.d (.int .u32 x9),.d (.int .u32 x10),.d (.str x11),.d (.str x12),.d (.int .u16 x13),.d (.int .u16 x14)]] (wks rm c t (.row 6 0 t.stack.length) S zh hints now draw++rest)
  (fun s kk=>if t.stack.length=1 then s = .tup [.agg [.d (.int .u8 k),.d (.int .i64 w),.d (.int .u8 x2),.d (.sl b3 n3 z3 f3),.d (.str x4),.d (.int .u16 x5),.d (.int .u32 x6),.d (.sl b7 n7 z7 f7),.d (.str x8),.d (.int .u32 x9),.d (.int .u32 x10),.d (.str x11),.d (.str x12),.d (.int .u16 x13),.d (.int .u16 x14)],.d .tt]/\kk=wks rm c t (.row 6 0 t.stack.length) S zh hints now draw++rest
   else s = .tup [.agg noS.L,.d .ff]/\kk=wks rm c { t with stack:=t.stack.dropLast } (.row 6 0 t.stack.dropLast.length) S zh hints now draw++rest):=by
 refine(qr6 (leave0_ok rm c t ht S zh hints now draw k w x2 b3 n3 z3 f3 x4 x5 x6 b7 n7 z7 f7 x8 x9 x10 x11 x12 x13 x14) rest (fun σ h=>by show SV.row (σ 6) 0 _=_;rw[h 6 (by decide)]) (fun σ h=>by show[SV.ptr (σ 5) 0,_]=_;rw[h 5 (by decide)];rfl) (fun s kk h=>?_)).imp fun s kk ⟨k0,h1,h2⟩=>?_
 ·split at h
  ·obtain⟨rfl,rfl⟩:=h
   exact⟨⟨_,_,_,_,rfl,fun σ h=>by show SV.row (σ 6) 0 _=_;rw[h 6 (by decide)]⟩,fun σ=>rfl⟩
  ·obtain⟨rfl,rfl⟩:=h
   exact⟨⟨_,_,_,_,rfl,fun σ h=>by show SV.row (σ 6) 0 _=_;rw[h 6 (by decide)]⟩,fun σ=>rfl⟩
 ·split at h1
  ·rename_i e;rw[if_pos e];exact⟨h1.1,by rw[h2,h1.2]⟩
  ·rename_i e;rw[if_neg e];exact⟨h1.1,by rw[h2,h1.2]⟩
structure WX where
 c:CSt
 t:Tk
 si:SV
 ti:SV
 hi:SV
 a6:KB
 a7:KB
 a8:KB
 ex:List KB
def WX.ks(x:WX)(rm:Int)(zh:Bool)(hints:List Int)(now draw:Int):List KB :=
 x.c.ks 0++[.cells 132 [.d (.int .i64 rm),.map 4,.v (.pointer none),.v (.pointer none)],.map [.int .u32] false false [],wC x.t x.si x.ti x.hi zh hints now draw,x.a6,x.a7,x.a8]++x.ex
def shf(n:Nat):Nat->Nat:=fun q=>if q<9 then q else q+n
def WX.sh(x:WX)(rest:List KB):WX:={ x with si:=mapV (shf rest.length) x.si,ti:=mapV (shf rest.length) x.ti,hi:=mapV (shf rest.length) x.hi,ex:=rest++x.ex }
def WX.Flat(x:WX):Prop:=∀ σ:Nat->Nat,mapK σ x.a6=x.a6/\mapK σ x.a7=x.a7/\mapK σ x.a8=x.a8/\mapB σ x.ex=x.ex
def wx0(c:CSt)(t:Tk)(si:SV)(S:List Q):WX:=⟨c,t,si,.all 7,.all 8,.row 27 3 S.length .may (qsF S),.row 68 4 t.tries.length .iff (trsF t.tries),.row 9 1 t.hosts.length .iff (strs t.hosts),[]⟩
theorem wx0_flat(c:CSt)(t:Tk)(si:SV)(S:List Q):(wx0 c t si S).Flat:=fun _=>⟨rfl,rfl,rfl,rfl⟩
theorem qk4{f:FuncId}{al:List SV}{rm:Int}{c:CSt}{t:Tk}{si:SV}{S:List Q}{zh:Bool}{hints:List Int}{now draw:Int}{p:SV->WX->Prop}(h:COk Tryz.prog f al (wks rm c t si S zh hints now draw) (fun s k=>∃ x:WX,p s x/\k=x.ks rm zh hints now draw))(rest:List KB)
 (hsi:∀ σ:Nat->Nat,(∀ i,i<9->σ i=i)->mapV σ si=si) (ha:∀ σ:Nat->Nat,(∀ i,i<9->σ i=i)->mapL σ al=al)
 (hR:∀ s x,p s x->x.Flat/\∀ σ:Nat->Nat,mapV σ s=s) :
 COk Tryz.prog f al (wks rm c t si S zh hints now draw++rest) (fun s k=>∃ x:WX,p s x/\k=(x.sh rest).ks rm zh hints now draw):=by
 obtain⟨σ,hσ⟩:∃ σ,σ=sig (List.range' 0 9) (0+(9+rest.length)):=⟨_,rfl⟩
 have hi:∀ i,i<9->σ i=i:=fun i hi=>by
  rw[hσ]
  unfold sig
  rw[List.getElem?_range' hi]
  simp
 have hs:σ=shf rest.length:=funext fun q=>by
  unfold shf
  by_cases hq:q<9
  ·rw[if_pos hq];exact hi q hq
  ·rw[if_neg hq,hσ]
   unfold sig
   rw[List.getElem?_eq_none (by simp;omega)]
   show 0+(9+rest.length)+(q - (List.range' 0 9).length)=_
   rw[List.length_range']
   omega
 have hm:=wks_map rm c t si S zh hints now draw hi (hsi σ hi)
 have:=h.among [] rest (σ:=σ) (fun s k ⟨x,_,hk⟩=>by rw[hk];unfold WX.ks;rw[List.length_append];exact Nat.le_add_right _ _) hσ
 rw [hm,ha σ hi] at this
 refine COk.imp (show COk Tryz.prog f al (wks rm c t si S zh hints now draw++rest) _ from this) fun s k ⟨s0,k1,⟨x,h1,h4⟩,h2,h3⟩=>?_
 subst h4
 obtain⟨hf,hs0⟩:=hR s0 x h1
 obtain⟨f6,f7,f8,fe⟩:=hf σ
 rw [hs0 σ] at h2
 subst h2
 refine⟨x,h1,?_⟩
 have hk1:mapB σ (x.c.ks 0)=x.c.ks 0:=qd0 x.c (p:=0) (hi 1 (by decide)) (hi 2 (by decide))
 have happ:∀ (a b:List KB),mapB σ (a++b)=mapB σ a++mapB σ b:=fun a b=>by
  induction a with
  |nil=>rfl
  |cons x a ih=>simp[mapB,ih]
 rw[h3,show(x.ks rm zh hints now draw).take (wks rm c t si S zh hints now draw).length=x.c.ks 0++[.cells 132 [.d (.int .i64 rm),.map 4,.v (.pointer none),.v (.pointer none)],.map [.int .u32] false false [],wC x.t x.si x.ti x.hi zh hints now draw,x.a6,x.a7,x.a8] from rfl,show(x.ks rm zh hints now draw).drop (wks rm c t si S zh hints now draw).length=x.ex from rfl,fe,happ,hk1]
 show[]++((x.c.ks 0++[KB.cells 132 [.d (.int .i64 rm),.map (σ 4),.v (.pointer none),.v (.pointer none)],KB.map [.int .u32] false false [],KB.cells 142 [.d (.int .i64 x.t.id),.d (.str x.t.ask.nm),.d (.int .u16 x.t.ask.ty),.d (.int .u16 x.t.ask.cl),mapV σ x.si,mapV σ x.ti,mapV σ x.hi,.d (.int .i64 x.t.work),.d (.str x.t.zone),.ptr (σ 0) 0,.ptr (σ 3) 0,.d (.sl zh hints.length 1 (jg hints)),.d (.int .i64 now),.d (.int .u64 draw)],mapK σ x.a6,mapK σ x.a7,mapK σ x.a8])++(rest++x.ex))=_
 rw[hi 4 (by decide),hi 0 (by decide),hi 3 (by decide),f6,f7,f8,hs]
 rfl
def chV:Option Int->SV
 |some a=>.tup [.d (.int .u32 a),.d .tt]
 |none=>.tup [.d (.int .u32 0),.d .ff]
theorem tried_len(l:List Tr)(zone nm:List UInt8)(k times:Int)(h:l.length<=1000000):(xi l zone nm k times).length<10000000:=by
 have h1:(xi l zone nm k times).length<=(jb (yb l zone nm k)).length:=List.length_filter_le ..
 have h2:(jb (yb l zone nm k)).length<=0+(yb l zone nm k).length:=qm2 _ []
 have h3:(yb l zone nm k).length<=l.length:=by unfold yb;rw[List.length_map];exact List.length_filter_le ..
 omega
theorem wchoose0_ok(rm:Int)(c:CSt)(t:Tk)(ht:TI t)(htl:t.tries.length<=1000000)(S:List Q)(hSl:t.stack.length<=S.length)(zh:Bool)(hints:List Int)(now draw:Int)(hd:0<=draw/\draw<18446744073709551616)(zone nm:List UInt8)(k cl:Int)(zb:Bool)(addrs:List Int)(ha:addrs.length<=1000000) :
 COk Tryz.prog 112 [.ptr 5 0,.d (.str zone),.agg [.d (.str nm),.d (.int .u16 k),.d (.int .u16 cl)],.d (.sl zb addrs.length 1 (jg addrs))] (wks rm c t (.row 6 0 t.stack.length) S zh hints now draw)
  (fun s kk=>s=chV (xq now draw t.tries zone nm k addrs)/\kk=wks rm c t (.row 6 0 t.stack.length) S zh hints now draw):=by
 refine jk (TT:=TT) (IN:=qf []) qe qi mixed 1000 Tryz.func112 rfl (qh Tryz.func112 (by kernel_rfl) rfl) 65 (by kernel_rfl) ?_
 have hlo:=ht.lo
 conv=>whnf
 refine⟨⟨Int.le_refl _,by omega,by omega,by omega⟩,?_⟩
 conv=>whnf
 refine .inv Nat (fun i=>i<=addrs.length) (fun i=>[(10,.all 10),(19,.any),(22,iV i)]) (fun i=>[(10,.row 323 5 (addrs.take i).length .no (pF (addrs.take i)))]) (fun i=>addrs.length - i) ⟨0,[0,1,2,3,4,5,6,7,8,9,10],Nat.zero_le _,?_⟩ ?_
 ·conv=>whnf
  repeat'(first|exact ⟨⟩|exact rfl|exact(fun _ _ _ _ h=>⟨qb _,h⟩)|exact fun _=>Iff.rfl|exact fun _ _=>rfl|apply And.intro)
  all_goals first|exact qa rfl _|exact(fun i hi=>absurd hi (Nat.not_lt_zero _))|trace_state
 intro i hi
 conv=>whnf
 refine⟨fun c5=>?_,fun c5=>?_⟩
 ·have c5':i<addrs.length:=(by have h:(i:Int)<addrs.length:=of_decide_eq_true c5;omega)
  obtain⟨a,hx⟩:∃ a,addrs.getD i 0=a:=⟨_,rfl⟩
  have hda:addrs.take (i+1)=addrs.take i++[a]:=by
   rw[List.take_add_one,List.getElem?_eq_getElem c5',<-hx,List.getD,List.getElem?_eq_getElem c5']
   rfl
  have hli:(addrs.take i).length=i:=by rw[List.length_take];omega
  have hw1:=w64s i (by omega)
  conv=>whnf
  refine⟨by omega,?_⟩
  conv=>whnf
  rw[Int.toNat_natCast,hx]
  refine .rel _ (COk.frameX (pof_ok rm a) [3,4] rfl rfl rfl) (fun y ks' hR=>?_)
  obtain⟨_,_,⟨rfl,rfl⟩,rfl,rfl⟩:=hR
  conv=>whnf
  refine⟨by omega,?_⟩
  conv=>whnf
  rw[hw1]
  refine⟨i+1,[0,1,2,3,4,5,6,7,8,9,12],c5',by omega,?_⟩
  conv=>whnf
  repeat'(first|exact ⟨⟩|exact rfl|exact(fun _ _ _ _ h=>⟨qb _,h⟩)|exact fun _=>Iff.rfl|exact fun _ _=>rfl|apply And.intro)
  all_goals first
   |exact qa rfl _
   |exact(show(addrs.take i).length+1=(addrs.take (i+1)).length by rw[hda,List.length_append];rfl)
   |exact fun j hj=>by rw[hda];exact p_cat (addrs.take i) a j hj
   |trace_state
 ·have hia:i=addrs.length:=(by have h:¬ (i:Int)<addrs.length:=of_decide_eq_false c5;omega)
  rw[hia,List.take_length]
  clear c5 hia hi
  conv=>whnf
  refine .once ?_
  conv=>whnf
  refine brT (by decide) ?_
  conv=>whnf
  refine .fresh _ _ [6,7,8] (tried_new t.id t.ask false t.stack.length (fun j=>qsF S (0+j)) (Nat.beq t.hosts.length 0) t.hosts.length (strs t.hosts) t.tries t.work t.zone zone nm k 1 htl) ?_ rfl rfl ?_
  ·conv=>whnf
   exact⟨⟨by omega,by omega⟩,rfl,rfl⟩
  conv=>whnf
  have hpn:=pnext_ok now draw hd (Nat.beq (jb (yb t.tries zone nm k)).length 0) (xi t.tries zone nm k 1) false addrs (tried_len t.tries zone nm k 1 htl) (by omega)
  cases hp:v6 now draw (xi t.tries zone nm k 1) addrs with
  |some a =>
   rw[show xq now draw t.tries zone nm k addrs=some a by unfold xq;rw[hp]]
   rw [hp] at hpn
   apply Exists.intro
   apply Exists.intro
   refine⟨?_,?_⟩
   ·conv=>whnf
    repeat'(first|exact ⟨⟩|exact⟨rfl,rfl⟩|refine .view _ _ [10] hpn ?_ rfl rfl ?_|apply And.intro|(conv=>whnf))
   conv=>whnf
   repeat(first|(refine brF rfl ?_;conv=>whnf)|(refine brT rfl ?_;conv=>whnf))
   refine⟨[0,1,2,3,4,5,6,7,8],_,_,rfl,rfl,?_,?_,rfl,rfl⟩
   ·exact rfl
   ·repeat'(first|exact ⟨⟩|exact rfl|exact(fun _ _ _ _ h=>⟨qb _,h⟩)|exact fun _=>Iff.rfl|exact fun _ _=>rfl|apply And.intro)
    all_goals exact qa rfl _
  |none =>
   rw[show xq now draw t.tries zone nm k addrs=v6 now draw (xi t.tries zone nm k 2) addrs by unfold xq;rw[hp]]
   rw [hp] at hpn
   apply Exists.intro
   apply Exists.intro
   refine⟨?_,?_⟩
   ·conv=>whnf
    repeat'(first|exact ⟨⟩|exact⟨rfl,rfl⟩|refine .view _ _ [10] hpn ?_ rfl rfl ?_|apply And.intro|(conv=>whnf))
   conv=>whnf
   repeat(first|(refine brF rfl ?_;conv=>whnf)|(refine brT rfl ?_;conv=>whnf))
   clear hpn hp
   refine .once ?_
   conv=>whnf
   refine brT (by decide) ?_
   conv=>whnf
   rw[show IntKind.i64.wrap (1+1)=2 from rfl]
   refine .fresh _ _ [6,7,8] (tried_new t.id t.ask false t.stack.length (fun j=>qsF S (0+j)) (Nat.beq t.hosts.length 0) t.hosts.length (strs t.hosts) t.tries t.work t.zone zone nm k 2 htl) ?_ rfl rfl ?_
   ·conv=>whnf
    exact⟨⟨by omega,by omega⟩,rfl,rfl⟩
   conv=>whnf
   have hpn:=pnext_ok now draw hd (Nat.beq (jb (yb t.tries zone nm k)).length 0) (xi t.tries zone nm k 2) false addrs (tried_len t.tries zone nm k 2 htl) (by omega)
   cases hp:v6 now draw (xi t.tries zone nm k 2) addrs with
   |some a =>
    rw [hp] at hpn
    apply Exists.intro
    apply Exists.intro
    refine⟨?_,?_⟩
    ·conv=>whnf
     repeat'(first|exact ⟨⟩|exact⟨rfl,rfl⟩|refine .view _ _ [10] hpn ?_ rfl rfl ?_|apply And.intro|(conv=>whnf))
    conv=>whnf
    repeat(first|(refine brF rfl ?_;conv=>whnf)|(refine brT rfl ?_;conv=>whnf))
    refine⟨[0,1,2,3,4,5,6,7,8],_,_,rfl,rfl,?_,?_,rfl,rfl⟩
    ·exact rfl
    ·repeat'(first|exact ⟨⟩|exact rfl|exact(fun _ _ _ _ h=>⟨qb _,h⟩)|exact fun _=>Iff.rfl|exact fun _ _=>rfl|apply And.intro)
     all_goals exact qa rfl _
   |none =>
    rw [hp] at hpn
    apply Exists.intro
    apply Exists.intro
    refine⟨?_,?_⟩
    ·conv=>whnf
     repeat'(first|exact ⟨⟩|exact⟨rfl,rfl⟩|refine .view _ _ [10] hpn ?_ rfl rfl ?_|apply And.intro|(conv=>whnf))
    conv=>whnf
    repeat(first|(refine brF rfl ?_;conv=>whnf)|(refine brT rfl ?_;conv=>whnf))
    refine .once ?_
    conv=>whnf
    refine brF (by decide) ?_
    conv=>whnf
    refine⟨[0,1,2,3,4,5,6,7,8],_,_,rfl,rfl,?_,?_,rfl,rfl⟩
    ·exact rfl
    ·repeat'(first|exact ⟨⟩|exact rfl|exact(fun _ _ _ _ h=>⟨qb _,h⟩)|exact fun _=>Iff.rfl|exact fun _ _=>rfl|apply And.intro)
     all_goals exact qa rfl _
theorem wchoose_ok(rm:Int)(c:CSt)(t:Tk)(ht:TI t)(htl:t.tries.length<=1000000)(S:List Q)(hSl:t.stack.length<=S.length)(zh:Bool)(hints:List Int)(now draw:Int)(hd:0<=draw/\draw<18446744073709551616)(zone nm:List UInt8)(k cl:Int)(zb:Bool)(addrs:List Int)(ha:addrs.length<=1000000)(rest:List KB) :
 COk Tryz.prog 112 [.ptr 5 0,.d (.str zone),.agg [.d (.str nm),.d (.int .u16 k),.d (.int .u16 cl)],.d (.sl zb addrs.length 1 (jg addrs))] (wks rm c t (.row 6 0 t.stack.length) S zh hints now draw++rest)
  (fun s kk=>s=chV (xq now draw t.tries zone nm k addrs)/\kk=wks rm c t (.row 6 0 t.stack.length) S zh hints now draw++rest):=by
 refine(qr6 (wchoose0_ok rm c t ht htl S hSl zh hints now draw hd zone nm k cl zb addrs ha) rest (fun σ h=>by show SV.row (σ 6) 0 _=_;rw[h 6 (by decide)]) (fun σ h=>by show[SV.ptr (σ 5) 0,_,_,_]=_;rw[h 5 (by decide)];rfl) (fun s kk h=>?_)).imp fun s kk ⟨k0,h1,h2⟩=>⟨h1.1,by rw[h2,h1.2]⟩
 obtain⟨rfl,rfl⟩:=h
 exact⟨⟨_,_,_,_,rfl,fun σ h=>by show SV.row (σ 6) 0 _=_;rw[h 6 (by decide)]⟩,fun σ=>by cases xq now draw t.tries zone nm k addrs <;> rfl⟩
def svV(z:List UInt8 × List Int × List (List UInt8))(zb zm:Bool):SV:=.tup [.d (.str z.1),.d (.sl zb z.2.1.length 1 (jg z.2.1)),.d (.sl zm z.2.2.length 1 (strs z.2.2))]
def SvR(rm:Int)(t:Tk)(S:List Q)(H:List Held)(zh:Bool)(hints:List Int)(now draw:Int)(nm:List UInt8)(s:SV)(kk:List KB):Prop :=
 ∃ zb zm c1,s=svV (jz H hints now nm) zb zm/\Kn c1 H/\kk=wks rm c1 t (.row 6 0 t.stack.length) S zh hints now draw
def SvR0(rm:Int)(t:Tk)(S:List Q)(H:List Held)(zh:Bool)(hints:List Int)(now draw:Int)(nm:List UInt8)(s:SV)(kk:List KB):Prop :=
 ∃ c1,((∃ zb zm,s=svV (jz H hints now nm) zb zm)\/((jz H hints now nm).2.2=[]/\∃ zb,s = .tup [.d (.str (jz H hints now nm).1),.d (.sl zb (jz H hints now nm).2.1.length 1 (jg (jz H hints now nm).2.1)),nilS]))/\Kn c1 H/\kk=wks rm c1 t (.row 6 0 t.stack.length) S zh hints now draw
theorem qs9{H:List Held}(hs:SetsH H){now:Int}:∀ (k:Nat) (n:List UInt8) {s:St},xh H now k n=some s->s.data.length<=64/\∀ d ∈ s.data,d.length<=4096
 |0,_,_,h=>by cases h
 |k+1,n,s,h=>by
  have up:(if n=[0] then none else xh H now k (upN n))=some s->s.data.length<=64/\∀ d ∈ s.data,d.length<=4096:=fun h=>by
   by_cases h0:n=[0]
   ·rw [if_pos h0] at h;cases h
   ·rw [if_neg h0] at h
    exact qs9 hs k (upN n) h
  unfold xh at h
  cases hg:getH H n 2 2 now with
  |none=>rw [hg] at h;exact up h
  |some y =>
   rw [hg] at h
   dsimp only at h
   split at h
   ·exact up h
   ·cases h;exact hs.fit (qc7 hg).1
theorem servers_len{H:List Held}(hs:SetsH H)(hints:List Int)(now:Int){nm:List UInt8}(hnm:qc nm):(jz H hints now nm).2.1.length<=hints.length+4096/\(jz H hints now nm).2.2.length<=64:=by
 unfold jz
 cases hc:z1 H nm now with
 |none=>exact⟨Nat.le_add_right _ _,Nat.zero_le _⟩
 |some s =>
  have hf:s.data.length<=64:=by
   unfold z1 at hc
   rw [if_pos hnm] at hc
   exact(qs9 hs _ _ hc).1
  show(srvF H s now).1.length<=_/\(srvF H s now).2.length<=_
  unfold srvF
  split
  ·have:=serv_len hs now s.data ([],[])
   unfold servF
   simp only [List.length_nil] at this
   omega
  ·exact⟨Nat.zero_le _,Nat.zero_le _⟩
theorem wservers0_ok(rm:Int)(c:CSt)(H:List Held)(hk:Kn c H)(hs:SetsH H)(t:Tk)(S:List Q)(zh:Bool)(hints:List Int)(now draw:Int)(nm:List UInt8)(hnm:qc nm) :
 COk Tryz.prog 111 [.ptr 5 0,.d (.str nm)] (wks rm c t (.row 6 0 t.stack.length) S zh hints now draw) (SvR0 rm t S H zh hints now draw nm):=by
 refine jk (TT:=TT) (IN:=qf []) qe qi mixed 1000 Tryz.func111 rfl (qh Tryz.func111 (by kernel_rfl) rfl) 45 (by kernel_rfl) ?_
 have g2:=closeq c H hk nm now []
 have hk2:Kn (wm H c nm now) H:=hk.close nm now
 generalize wm H c nm now=c2 at g2 hk2
 clear hk
 unfold SvR0
 conv=>whnf
 cases hcl:z1 H nm now with
 |none =>
  rw [hcl,show uq nm none = .tup [.agg [.d (.str []),.d (.int .u16 0),.d (.int .u32 0),nilS],.d (.int .i64 3)] by unfold uq;rw [if_pos hnm]] at g2
  have hsv:jz H hints now nm=([0],hints,[]):=by unfold jz;rw[hcl]
  apply Exists.intro
  apply Exists.intro
  refine⟨?_,?_⟩
  ·conv=>whnf
   repeat'(first|exact ⟨⟩|exact⟨rfl,rfl⟩|refine .mem _ _ (g2 [_,_,_,_,_,_]) ?_|refine .mem _ _ (g2 [_,_,_,_,_,_,_]) ?_|apply And.intro|(conv=>whnf))
  clear g2
  conv=>whnf
  repeat(first|(refine brF rfl ?_;conv=>whnf)|(refine brT rfl ?_;conv=>whnf))
  refine⟨[0,1,2,3,4,5,6,7,8],.tup [.d (.str [0]),.d (.sl zh hints.length 1 (jg hints)),nilS],wks rm c2 t (.row 6 0 t.stack.length) S zh hints now draw,rfl,rfl,?_,?_,c2,.inr ⟨by rw[hsv],zh,by rw[hsv]⟩,hk2,rfl⟩
  ·exact rfl
  ·repeat'(first|exact ⟨⟩|exact rfl|exact(fun _ _ _ _ h=>⟨qb _,h⟩)|exact fun _=>Iff.rfl|exact fun _ _=>rfl|apply And.intro)
   all_goals exact qa rfl _
 |some s =>
  rw [hcl] at g2
  have hfit:s.data.length<=64/\∀ d ∈ s.data,d.length<=4096:=by
   unfold z1 at hcl
   rw [if_pos hnm] at hcl
   exact qs9 hs _ _ hcl
  have hsv:jz H hints now nm=(s.nm,srvF H s now):=by unfold jz;rw[hcl]
  have g3:=serversq c2 H hk2 hs.fitH s ⟨by omega,fun d hd=>by have:=hfit.2 d hd;omega⟩ now []
  have hk3:Kn (srvQ c2 s now) H:=hk2.srv s now
  generalize srvQ c2 s now=c3 at g3 hk3
  apply Exists.intro
  apply Exists.intro
  refine⟨?_,?_⟩
  ·conv=>whnf
   repeat'(first|exact ⟨⟩|exact⟨rfl,rfl⟩|refine .mem _ _ (g2 [_,_,_,_,_,_]) ?_|refine .mem _ _ (g2 [_,_,_,_,_,_,_]) ?_|apply And.intro|(conv=>whnf))
  clear g2
  conv=>whnf
  repeat(first|(refine brF rfl ?_;conv=>whnf)|(refine brT rfl ?_;conv=>whnf))
  refine .mem _ _ (g3 [_,_,_,_,_,_,_]) ?_
  conv=>whnf
  repeat(first|(refine brF rfl ?_;conv=>whnf)|(refine brT rfl ?_;conv=>whnf))
  refine⟨[0,1,2,3,4,5,6,7,8],svV (s.nm,srvF H s now) (Nat.beq (srvF H s now).1.length 0) (Nat.beq (srvF H s now).2.length 0),wks rm c3 t (.row 6 0 t.stack.length) S zh hints now draw,rfl,rfl,?_,?_,c3,.inl ⟨_,_,by rw[hsv]⟩,hk3,rfl⟩
  ·exact rfl
  ·repeat'(first|exact ⟨⟩|exact rfl|exact(fun _ _ _ _ h=>⟨qb _,h⟩)|exact fun _=>Iff.rfl|exact fun _ _=>rfl|apply And.intro)
   all_goals exact qa rfl _
theorem wservers1_ok(rm:Int)(c:CSt)(H:List Held)(hk:Kn c H)(hs:SetsH H)(t:Tk)(S:List Q)(zh:Bool)(hints:List Int)(now draw:Int)(nm:List UInt8)(hnm:qc nm) :
 COk Tryz.prog 111 [.ptr 5 0,.d (.str nm)] (wks rm c t (.row 6 0 t.stack.length) S zh hints now draw) (SvR rm t S H zh hints now draw nm) :=
 COk.resD (wservers0_ok rm c H hk hs t S zh hints now draw nm hnm) fun s kk h=>by
  obtain⟨c1,h1,h2,h3⟩:=h
  rcases h1 with⟨zb,zm,h1⟩|⟨he,zb,h1⟩
  ·exact⟨s,.refl _,zb,zm,c1,h1,h2,h3⟩
  ·refine⟨_,?_,zb,true,c1,rfl,h2,h3⟩
   rw[h1]
   unfold svV
   rw[he]
   exact DenTo.tup ⟨.refl _,.refl _,.of (.none _ _ _ _ _),trivial⟩
theorem wservers_ok(rm:Int)(c:CSt)(H:List Held)(hk:Kn c H)(hs:SetsH H)(t:Tk)(S:List Q)(zh:Bool)(hints:List Int)(now draw:Int)(nm:List UInt8)(hnm:qc nm)(rest:List KB) :
 COk Tryz.prog 111 [.ptr 5 0,.d (.str nm)] (wks rm c t (.row 6 0 t.stack.length) S zh hints now draw++rest) (fun s kk=>∃ zb zm c1,s=svV (jz H hints now nm) zb zm/\Kn c1 H/\kk=wks rm c1 t (.row 6 0 t.stack.length) S zh hints now draw++rest):=by
 refine(qr6 (wservers1_ok rm c H hk hs t S zh hints now draw nm hnm) rest (fun σ h=>by show SV.row (σ 6) 0 _=_;rw[h 6 (by decide)]) (fun σ h=>by show[SV.ptr (σ 5) 0,_]=_;rw[h 5 (by decide)];rfl) (fun s kk h=>?_)).imp fun s kk ⟨k0,⟨zb,zm,c1,h1,h3,h4⟩,h2⟩=>⟨zb,zm,c1,h1,h3,by rw[h2,h4]⟩
 obtain⟨zb,zm,c1,rfl,_,rfl⟩:=h
 exact⟨⟨_,_,_,_,rfl,fun σ h=>by show SV.row (σ 6) 0 _=_;rw[h 6 (by decide)]⟩,fun σ=>rfl⟩
theorem trs_cat(l:List Tr)(x:Tr)(j:Nat)(hj:j<l.length+1):catF l.length (trsF l) (q8 x.enc 4) j=trsF (l++[x]) j:=by
 unfold catF trsF
 split
 ·rename_i h
  rw[List.getD,List.getD,List.getElem?_append_left h]
 ·rename_i h
  have:j=l.length:=by omega
  subst this
  rw[Nat.sub_self,List.getD,List.getElem?_append_right (Nat.le_refl _),Nat.sub_self]
  rfl
def sendT(t:Tk)(a:Int)(zone nm:List UInt8)(k:Int):Tk × Option Sp:=if t.work=0 then (t,some (yv 11)) else ({ t with work:=t.work - 1,tries:=t.tries++[⟨a,zone,nm,k⟩],zone:=zone },some (sendS a zone ⟨nm,k,1⟩))
def oneS:Option Sp->SV
 |some s=>.agg s.L
 |none=>.agg noS.L
def SdP(c:CSt)(t:Tk)(S:List Q)(a:Int)(zone nm:List UInt8)(k:Int)(s:SV)(x:WX):Prop :=
 s=oneS (sendT t a zone nm k).2/\x=if t.work=0 then wx0 c t (.row 6 0 t.stack.length) S else { wx0 c (sendT t a zone nm k).1 (.row 6 0 t.stack.length) S with ti:=.all 9,a7:=.gone,ex:=[.row 68 4 (sendT t a zone nm k).1.tries.length .iff (trsF (sendT t a zone nm k).1.tries)] }
theorem wsend0_ok(rm:Int)(c:CSt)(t:Tk)(ht:TI t)(htl:t.tries.length<=1000000/\t.work<=1000000)(S:List Q)(zh:Bool)(hints:List Int)(now draw:Int)(a:Int)(zone nm:List UInt8)(k:Int) :
 COk Tryz.prog 113 [.ptr 5 0,.d (.int .u32 a),.d (.str zone),.agg [.d (.str nm),.d (.int .u16 k),.d (.int .u16 1)]] (wks rm c t (.row 6 0 t.stack.length) S zh hints now draw)
  (fun s kk=>∃ x:WX,SdP c t S a zone nm k s x/\kk=x.ks rm zh hints now draw):=by
 have hw:=ht.work
 unfold SdP sendT
 by_cases h0:t.work=0
 ·simp only[if_pos h0]
  refine jk (TT:=TT) (IN:=qf [(48,Tryz.f48,1)]) qe (qw qi Tryz.func48 (by kernel_rfl) (by kernel_rfl)) mixed 1000 Tryz.func113 rfl (qh Tryz.func113 (by kernel_rfl) rfl) 48 (by kernel_rfl) ?_
  conv=>whnf
  refine brT (by rw[beq_iff_eq];exact h0) ?_
  conv=>whnf
  repeat(first|(refine brF rfl ?_;conv=>whnf)|(refine brT rfl ?_;conv=>whnf))
  refine⟨[0,1,2,3,4,5,6,7,8],_,_,rfl,rfl,?_,?_,_,⟨rfl,rfl⟩,rfl⟩
  ·exact rfl
  ·repeat'(first|exact ⟨⟩|exact rfl|exact(fun _ _ _ _ h=>⟨qb _,h⟩)|exact fun _=>Iff.rfl|exact fun _ _=>rfl|apply And.intro)
   all_goals exact qa rfl _
 ·simp only[if_neg h0]
  refine jk (TT:=TT) (IN:=qf [(48,Tryz.f48,1)]) qe (qw qi Tryz.func48 (by kernel_rfl) (by kernel_rfl)) mixed 1000 Tryz.func113 rfl (qh Tryz.func113 (by kernel_rfl) rfl) 48 (by kernel_rfl) ?_
  conv=>whnf
  refine brF (by rw[beq_eq_false_iff_ne];exact h0) ?_
  conv=>whnf
  refine⟨by omega,?_⟩
  conv=>whnf
  rw[show IntKind.i64.wrap (t.work - 1)=t.work - 1 from qn _ (by omega)]
  refine⟨[0,1,2,3,4,5,6,7,8,12],_,_,rfl,rfl,?_,?_,_,⟨rfl,rfl⟩,rfl⟩
  ·exact rfl
  ·repeat'(first|exact ⟨⟩|exact rfl|exact(fun _ _ _ _ h=>⟨qb _,h⟩)|exact fun _=>Iff.rfl|exact fun _ _=>rfl|apply And.intro)
   all_goals first
    |exact qa rfl _
    |exact(show t.tries.length+1=(t.tries++[_]).length by rw[List.length_append];rfl)
    |exact fun j hj=>trs_cat t.tries ⟨a,zone,nm,k⟩ j hj
    |trace_state
theorem wsend_ok(rm:Int)(c:CSt)(t:Tk)(ht:TI t)(htl:t.tries.length<=1000000/\t.work<=1000000)(S:List Q)(zh:Bool)(hints:List Int)(now draw:Int)(a:Int)(zone nm:List UInt8)(k:Int)(rest:List KB) :
 COk Tryz.prog 113 [.ptr 5 0,.d (.int .u32 a),.d (.str zone),.agg [.d (.str nm),.d (.int .u16 k),.d (.int .u16 1)]] (wks rm c t (.row 6 0 t.stack.length) S zh hints now draw++rest)
  (fun s kk=>∃ x:WX,SdP c t S a zone nm k s x/\kk=(x.sh rest).ks rm zh hints now draw):=by
 refine qk4 (wsend0_ok rm c t ht htl S zh hints now draw a zone nm k) rest (fun σ h=>by show SV.row (σ 6) 0 _=_;rw[h 6 (by decide)]) (fun σ h=>by show[SV.ptr (σ 5) 0,_,_,_]=_;rw[h 5 (by decide)];rfl) (fun s x h=>?_)
 obtain⟨rfl,rfl⟩:=h
 refine⟨?_,fun σ=>?_⟩
 ·split <;> exact fun _=>⟨rfl,rfl,rfl,rfl⟩
 ·unfold sendT
  split <;> rfl
def seekT(t:Tk)(miss:List (List UInt8)):Option (List UInt8):=match wp miss t.hosts with
 |some h=>if t.stack.length<6/\t.hosts.length<16 then some h else none
 |none=>none
def SkP(c:CSt)(t:Tk)(S:List Q)(miss:List (List UInt8))(s:SV)(x:WX):Prop:=match seekT t miss with
 |some h=>s = .d .tt/\x=⟨c,{ t with hosts:=t.hosts++[h],stack:=t.stack++[⟨h,1,1⟩] },.all 10,.all 7,.all 9,.gone,.row 68 4 t.tries.length .iff (trsF t.tries),.gone,[.row 9 1 (t.hosts++[h]).length .iff (strs (t.hosts++[h])),.row 27 3 (t.stack++[(⟨h,1,1⟩:Q)]).length .may (qsF (t.stack++[⟨h,1,1⟩]))]⟩
 |none=>s = .d .ff/\x=wx0 c t (.row 6 0 t.stack.length) S
theorem stk_cat(l S:List Q)(hS:S.take l.length=l)(x:Q)(j:Nat)(hj:j<l.length+1):catF l.length (qsF S) (q8 x.enc 3) j=qsF (l++[x]) j:=by
 unfold catF qsF
 split
 ·rename_i h
  rw[List.getD,List.getD,List.getElem?_append_left h,show l[j]? = S[j]? by rw[<-hS,List.getElem?_take,if_pos h]]
 ·rename_i h
  have:j=l.length:=by omega
  subst this
  rw[Nat.sub_self,List.getD,List.getElem?_append_right (Nat.le_refl _),Nat.sub_self]
  rfl
theorem wseek0_ok(rm:Int)(c:CSt)(t:Tk)(ht:TI t)(htl:t.hosts.length<=1000000)(S:List Q)(hS:S.take t.stack.length=t.stack)(hSl:t.stack.length<=S.length)(zh:Bool)(hints:List Int)(now draw:Int)(zm:Bool)(miss:List (List UInt8))(hm:miss.length<=1000000) :
 COk Tryz.prog 114 [.ptr 5 0,.d (.sl zm miss.length 1 (strs miss))] (wks rm c t (.row 6 0 t.stack.length) S zh hints now draw) (fun s k=>∃ x:WX,SkP c t S miss s x/\k=x.ks rm zh hints now draw):=by
 refine jk (TT:=TT) (IN:=qf [(172,Tryz.f172,2),(174,Tryz.f174,2),(171,Tryz.f171,2),(173,Tryz.f173,2)]) qe (qw (qw (qw (qw qi Tryz.func173 (by kernel_rfl) (by kernel_rfl)) Tryz.func171 (by kernel_rfl) (by kernel_rfl)) Tryz.func174 (by kernel_rfl) (by kernel_rfl)) Tryz.func172 (by kernel_rfl) (by kernel_rfl)) mixed 1000 Tryz.func114 rfl (qh Tryz.func114 (by kernel_rfl) rfl) 58 (by kernel_rfl) ?_
 obtain⟨F,hF⟩:∃ F,wp miss t.hosts=F:=⟨_,rfl⟩
 unfold SkP seekT
 rw[hF]
 conv=>whnf
 refine .inv Nat (fun j=>j<=miss.length/\F=wp (miss.drop j) t.hosts) (fun j=>[(8,iV j)]) (fun _=>[]) (fun j=>miss.length - j) ⟨0,[0,1,2,3,4,5,6,7,8,9],⟨Nat.zero_le _,hF.symm⟩,?_⟩ ?_
 ·conv=>whnf
  repeat'(first|exact ⟨⟩|exact rfl|exact(fun _ _ _ _ h=>⟨qb _,h⟩)|exact fun _=>Iff.rfl|exact fun _ _=>rfl|apply And.intro)
  all_goals first|exact qa rfl _|trace_state
 clear hF
 rintro j ⟨hj,hF⟩
 conv=>whnf
 refine⟨fun c5=>?_,fun c5=>?_⟩
 ·have c5':j<miss.length:=(by have h:(j:Int)<miss.length:=of_decide_eq_true c5;omega)
  obtain⟨h,hx⟩:∃ h,miss[j]?.getD []=h:=⟨_,rfl⟩
  have hda:miss.drop j=h :: miss.drop (j+1):=by
   rw[List.drop_eq_getElem_cons c5',<-hx,List.getElem?_eq_getElem c5']
   rfl
  have hw1:=w64s j (by omega)
  rw [hda] at hF
  conv=>whnf
  refine⟨by omega,?_⟩
  conv=>whnf
  rw[Int.toNat_natCast,hx]
  refine .inv Nat (fun i=>i<=t.hosts.length/\∀ p,p<i->qv (t.hosts[p]?.getD []) h=false) (fun i=>[(8,iV i)]) (fun _=>[]) (fun i=>t.hosts.length - i) ⟨0,[0,1,2,3,4,5,6,7,8,9,10],⟨Nat.zero_le _,fun p hp=>absurd hp (Nat.not_lt_zero _)⟩,?_⟩ ?_
  ·conv=>whnf
   repeat'(first|exact ⟨⟩|exact rfl|exact(fun _ _ _ _ h=>⟨qb _,h⟩)|exact fun _=>Iff.rfl|exact fun _ _=>rfl|apply And.intro)
   all_goals first|exact qa rfl _|trace_state
  rintro i ⟨hi,hno⟩
  conv=>whnf
  have hw2:=w64s i (by omega)
  refine⟨fun d5=>?_,fun d5=>?_⟩
  ·have d5':i<t.hosts.length:=(by have h:(i:Int)<t.hosts.length:=of_decide_eq_true d5;omega)
   obtain⟨g,hg⟩:∃ g,t.hosts[i]?.getD []=g:=⟨_,rfl⟩
   conv=>whnf
   refine⟨by omega,?_⟩
   conv=>whnf
   rw[Int.toNat_natCast,hg]
   refine oD (qi0 g h) rfl rfl ?_
   cases hsm:qv g h with
   |true =>
    have hany:(t.hosts.any fun k=>qv k h)=true:=by
     rw[List.any_eq_true]
     refine⟨g,?_,hsm⟩
     rw[<-hg,List.getElem?_eq_getElem d5']
     exact List.getElem_mem _
    replace hF:F=wp (miss.drop (j+1)) t.hosts:=by
     rw[hF]
     unfold wp
     rw[List.find?_cons,hany]
     rfl
    conv=>whnf
    repeat(first|(refine brF rfl ?_;conv=>whnf)|(refine brT rfl ?_;conv=>whnf))
    rw[hw1]
    refine⟨j+1,[0,1,2,3,4,5,6,7,8,9],⟨c5',hF⟩,by omega,?_⟩
    conv=>whnf
    repeat'(first|exact ⟨⟩|exact rfl|exact(fun _ _ _ _ h=>⟨qb _,h⟩)|exact fun _=>Iff.rfl|exact fun _ _=>rfl|apply And.intro)
    all_goals first|exact qa rfl _|trace_state
   |false =>
    conv=>whnf
    repeat(first|(refine brF rfl ?_;conv=>whnf)|(refine brT rfl ?_;conv=>whnf))
    rw[hw2]
    refine⟨i+1,[0,1,2,3,4,5,6,7,8,9,10],⟨d5',fun p hp=>?_⟩,by omega,?_⟩
    ·by_cases e:p=i
     ·rw[e,hg];exact hsm
     ·exact hno p (by omega)
    conv=>whnf
    repeat'(first|exact ⟨⟩|exact rfl|exact(fun _ _ _ _ h=>⟨qb _,h⟩)|exact fun _=>Iff.rfl|exact fun _ _=>rfl|apply And.intro)
    all_goals first|exact qa rfl _|trace_state
  have hia:i=t.hosts.length:=(by have h:¬ (i:Int)<t.hosts.length:=of_decide_eq_false d5;omega)
  have hany:(t.hosts.any fun k=>qv k h)=false:=by
   rw[List.any_eq_false]
   intro g hg
   obtain⟨p,hp,rfl⟩:=List.mem_iff_getElem.1 hg
   have:=hno p (by omega)
   rw [List.getElem?_eq_getElem hp] at this
   have this:qv t.hosts[p] h=false:=this
   rw[this]
   decide
  replace hF:F=some h:=by
   rw[hF]
   unfold wp
   rw[List.find?_cons,hany]
   rfl
  subst hF
  dsimp only
  conv=>whnf
  repeat(first|(refine brF rfl ?_;conv=>whnf)|(refine brT rfl ?_;conv=>whnf))
  by_cases h6:t.stack.length<6
  case neg =>
   simp only[if_neg (show ¬ (t.stack.length<6/\t.hosts.length<16) from fun e=>h6 e.1)]
   refine brT (decide_eq_true (by omega)) ?_
   conv=>whnf
   repeat(first|(refine brF rfl ?_;conv=>whnf)|(refine brT rfl ?_;conv=>whnf))
   refine⟨[0,1,2,3,4,5,6,7,8],_,_,rfl,rfl,?_,?_,_,⟨rfl,rfl⟩,rfl⟩
   ·exact rfl
   ·repeat'(first|exact ⟨⟩|exact rfl|exact(fun _ _ _ _ h=>⟨qb _,h⟩)|exact fun _=>Iff.rfl|exact fun _ _=>rfl|apply And.intro)
    all_goals exact qa rfl _
  refine brF (decide_eq_false (by omega)) ?_
  conv=>whnf
  by_cases h16:t.hosts.length<16
  case neg =>
   simp only[if_neg (show ¬ (t.stack.length<6/\t.hosts.length<16) from fun e=>h16 e.2)]
   refine brT (decide_eq_true (by omega)) ?_
   conv=>whnf
   repeat(first|(refine brF rfl ?_;conv=>whnf)|(refine brT rfl ?_;conv=>whnf))
   refine⟨[0,1,2,3,4,5,6,7,8],_,_,rfl,rfl,?_,?_,_,⟨rfl,rfl⟩,rfl⟩
   ·exact rfl
   ·repeat'(first|exact ⟨⟩|exact rfl|exact(fun _ _ _ _ h=>⟨qb _,h⟩)|exact fun _=>Iff.rfl|exact fun _ _=>rfl|apply And.intro)
    all_goals exact qa rfl _
  refine brF (decide_eq_false (by omega)) ?_
  conv=>whnf
  simp only[if_pos (show t.stack.length<6/\t.hosts.length<16 from⟨h6,h16⟩)]
  apply Exists.intro
  apply Exists.intro
  refine⟨?_,?_⟩
  ·conv=>whnf
   repeat'(first|exact ⟨⟩|exact⟨rfl,rfl⟩|refine And.intro (by omega) ?_|apply And.intro|(conv=>whnf))
  conv=>whnf
  rw[Int.toNat_natCast,hx]
  apply Exists.intro
  apply Exists.intro
  refine⟨?_,?_⟩
  ·conv=>whnf
   repeat'(first|exact ⟨⟩|exact⟨rfl,rfl⟩|refine And.intro (by omega) ?_|apply And.intro|(conv=>whnf))
  conv=>whnf
  rw[Int.toNat_natCast,hx]
  refine⟨[0,1,2,3,4,5,6,7,8,12,14],_,_,rfl,rfl,?_,?_,_,⟨rfl,rfl⟩,rfl⟩
  ·exact rfl
  ·repeat'(first|exact ⟨⟩|exact rfl|exact(fun _ _ _ _ h=>⟨qb _,h⟩)|exact fun _=>Iff.rfl|exact fun _ _=>rfl|apply And.intro)
   all_goals first
    |exact qa rfl _
    |exact(show t.hosts.length+1=(t.hosts++[_]).length by rw[List.length_append];rfl)
    |exact(show t.stack.length+1=(t.stack++[_]).length by rw[List.length_append];rfl)
    |exact fun p hp=>wi t.hosts h _ rfl p hp
    |exact fun p hp=>stk_cat t.stack S hS ⟨h,1,1⟩ p hp
    |trace_state
 ·have hja:j=miss.length:=(by have h:¬ (j:Int)<miss.length:=of_decide_eq_false c5;omega)
  rw [List.drop_of_length_le (by omega)] at hF
  replace hF:F=none:=hF
  subst hF
  dsimp only
  conv=>whnf
  refine brT (by decide) ?_
  conv=>whnf
  repeat(first|(refine brF rfl ?_;conv=>whnf)|(refine brT rfl ?_;conv=>whnf))
  refine⟨[0,1,2,3,4,5,6,7,8],_,_,rfl,rfl,?_,?_,_,⟨rfl,rfl⟩,rfl⟩
  ·exact rfl
  ·repeat'(first|exact ⟨⟩|exact rfl|exact(fun _ _ _ _ h=>⟨qb _,h⟩)|exact fun _=>Iff.rfl|exact fun _ _=>rfl|apply And.intro)
   all_goals exact qa rfl _
theorem wseek_ok(rm:Int)(c:CSt)(t:Tk)(ht:TI t)(htl:t.hosts.length<=1000000)(S:List Q)(hS:S.take t.stack.length=t.stack)(hSl:t.stack.length<=S.length)(zh:Bool)(hints:List Int)(now draw:Int)(zm:Bool)(miss:List (List UInt8))(hm:miss.length<=1000000)(rest:List KB) :
 COk Tryz.prog 114 [.ptr 5 0,.d (.sl zm miss.length 1 (strs miss))] (wks rm c t (.row 6 0 t.stack.length) S zh hints now draw++rest) (fun s k=>∃ x:WX,SkP c t S miss s x/\k=(x.sh rest).ks rm zh hints now draw):=by
 refine qk4 (wseek0_ok rm c t ht htl S hS hSl zh hints now draw zm miss hm) rest (fun σ h=>by show SV.row (σ 6) 0 _=_;rw[h 6 (by decide)]) (fun σ h=>by show[SV.ptr (σ 5) 0,_]=_;rw[h 5 (by decide)];rfl) (fun s x h=>?_)
 unfold SkP at h
 split at h
 ·obtain⟨rfl,rfl⟩:=h
  exact⟨fun _=>⟨rfl,rfl,rfl,rfl⟩,fun _=>rfl⟩
 ·obtain⟨rfl,rfl⟩:=h
  exact⟨wx0_flat _ _ _ _,fun _=>rfl⟩
end Go.Proofs.YtiiafibkblpbcaaGreat
