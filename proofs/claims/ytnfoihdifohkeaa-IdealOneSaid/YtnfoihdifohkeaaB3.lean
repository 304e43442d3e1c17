/-
  Forests, plainly: which are right, what a question comes to; the law of IdealOne. No conditions. zone.Check, Get, Exists, Cuts, Cut. Conditions: lengths. walk.Deepest. Condition: length. The places of zones by their names. Plain lemmas. ideal.closest, hang: each zone but the first is a cut of the closest one above it. Conditions: few zones, lengths. ideal.hang. Conditions: few zones, all right, no two of one name. ideal.housed. Conditions: few hosts, lengths. Forests, plainly: the best zone of a name. No conditions. ideal.survey, Check. Conditions: lengths. ideal.down, Check, Zone. Conditions: lengths. Questions. Plain. ideal.Check, Zone, Of. Conditions: lengths. label.Same, sets.Says. No conditions. ideal.Same; slices.Clone of records; hardtacklaw22.Small, hardtacklaw24.Small. Conditions: lengths. hardtacklaw24.lives. No conditions. hardtacklaw24.IdealOne. Conditions: few long lists of hosts (Len); the lives (ZLiv).
-/
import Derived.Test.YtnfoihdifohkeaaB1
import Derived.Test.YtnfoihdifohkeaaB2
import Derived.Test.YtnfoihdifohkeaaM1
set_option linter.unusedVariables false
set_option linter.unusedSimpArgs false
namespace Go.Proofs.Ytnfoihdifohkeaa
open Go Go.Eng
set_option maxRecDepth 100000
theorem find_right{nm:List UInt8}{t:Int}{l:List RR}(h:(findS nm t l).2=0)(ht:t≠41):(findS nm t l).1.ok=true∧(findS nm t l).1.nm=nm∧(findS nm t l).1.ty=t∧isName nm:=by
 by_cases hn:isName nm
 case neg =>
  rw [show findS nm t l=(St.no,3) from if_neg hn] at h
  exact absurd h (by decide)
 have e:findS nm t l=if (pickR nm t l).isEmpty then (St.no,3) else (buildS nm t (pickR nm t l),0):=if_pos hn
 rw [e] at h ⊢
 cases hp:(pickR nm t l).isEmpty with
 |true=>rw [hp] at h;exact absurd (show (3:Int)=0 from h) (by decide)
 |false =>
  have hne:pickR nm t l≠[]:=fun e=>by rw [e] at hp;cases hp
  have hall:∀ r ∈ pickR nm t l,goodR r=true∧r.ty=t:=fun r hr=>by
   unfold pickR at hr
   obtain⟨h1,h2⟩:=List.mem_filter.1 hr
   obtain⟨_,h3⟩:=List.mem_filter.1 h1
   unfold nearR at h3
   simp only [Bool.and_eq_true,beq_iff_eq] at h3
   refine⟨?_,h3.1⟩
   unfold goodR
   rw[h2,h3.1]
   simpa using ht
  generalize pickR nm t l=P at hne hall ⊢
  have hF:=buildD_firsts t P
  have hm:P.getD 0 default ∈ P:=by
   cases P with
   |nil=>exact absurd rfl hne
   |cons a P=>simp
  refine⟨(St.ok_iff _).2 ⟨hn,?_,⟨?_,buildD_len _ _⟩,fun d hd=>?_,?_⟩,rfl,rfl,hn⟩
  ·have h1:=(minOf_le P (P.getD 0 default).ttl).1
   have h2:=(good_parts (hall _ hm).1).2.2.2.2.2
   show minOf (P.getD 0 default).ttl P≤2147483647
   omega
  ·show 0<(buildD t P).length
   have:=hF.len (by simpa using hne)
   unfold buildD
   rw[List.length_take]
   omega
  ·have hd:d ∈ firstsOf (rfold t) (P.map (·.d)):=List.mem_of_mem_take hd
   obtain⟨i,hi⟩:=hF.from hd
   obtain⟨r,hr,rfl⟩:=List.mem_map.1 (List.mem_of_getElem? hi)
   have:=(good_parts (hall r hr).1).2.2.2.2.1
   show rcheck t r.d=true
   rw[←(hall r hr).2];exact this
  ·exact take_pairwise 64 hF.rise
def othersZ(zs:List Zo)(i:Nat):List (List UInt8):=(zs.take i++zs.drop (i+1)).map (·.apex)
def deepF(n:List UInt8):List (List UInt8)→Option (List UInt8)→Option (List UInt8)
 |[],b=>b
 |c :: l,b=>deepF n l (if withinN n c then (match b with
  |none=>some c
  |some y=>if countN y<countN c then some c else some y) else b)
def aboveF(zs:List Zo)(i:Nat)(apex:List UInt8):Option Nat:=match deepF apex (othersZ zs i) none with
 |none=>none
 |some a=>placeZ zs (fold a)
def hangF(zs:List Zo):Bool:=(List.range zs.length).all fun i=>i == 0 || (match aboveF zs i (zs.getD i default).apex with
 |none=>false
 |some a=>(zs.getD a default).cutL.any fun c=>fold c == fold (zs.getD i default).apex)
def onceI:List Int→Bool
 |[]=>true
 |a :: l=>!l.contains a && onceI l
def onceN:List (List UInt8)→Bool
 |[]=>true
 |a :: l=>!l.contains a && onceN l
def housedF(n:Nat)(hs:List (Int × Bool × List Int)):Bool:=onceI (hs.map (·.1)) && hs.all fun h=>h.2.2.all fun at_=>decide (0≤at_) && decide (at_<(n:Int))
def Fo.ok(f:Fo):Bool:=decide (1≤f.zones.length) && (decide (f.zones.length≤64) && (decide (f.hosts.length≤64) && (f.zones.all Zo.ok && (onceN (f.zones.map fun z=>fold z.apex) && (fold (f.zones.getD 0 default).apex == [0] && (hangF f.zones && housedF f.zones.length f.hosts))))))
structure Ver where
 chain:List St
 ans:St
 code:Int
 why:Int
def existsZ(z:Zo)(name:List UInt8):Bool:=withinN name z.apex && z.rrs.any fun r=>withinN r.nm name
def ofF(zs:List Zo)(ty:Int):Nat→List UInt8→List St→Ver
 |0,_,_=>⟨[],St.no,0,9⟩
 |k+1,name,chain=>if isName name then (match downF zs name 300 0 with
  |none=>⟨[],St.no,0,12⟩
  |some at_=>if (findS name ty (zs.getD at_ default).rrs).2=0 then ⟨chain,(findS name ty (zs.getD at_ default).rrs).1,0,0⟩
   else if ty=5∨(findS name 5 (zs.getD at_ default).rrs).2≠0∨(findS name 5 (zs.getD at_ default).rrs).1.data.length=0 then ⟨chain,St.no,if existsZ (zs.getD at_ default) name then 0 else 3,0⟩
   else if chain.length ≥ 8 then ⟨[],St.no,0,9⟩
   else ofF zs ty k ((findS name 5 (zs.getD at_ default).rrs).1.data.headD []) (chain++[(findS name 5 (zs.getD at_ default).rrs).1])) else ⟨[],St.no,0,2⟩
def chainF:List UInt8→List St→Option (List UInt8)
 |n,[]=>some n
 |n,s :: l=>if sameN s.nm n && (s.ty == 5 && s.ok) then chainF (s.data.headD []) l else none
theorem chainF_snoc{n m:List UInt8}{l:List St}{s:St}(h:chainF n l=some m)(hs:sameN s.nm m=true)(ht:s.ty=5)(hk:s.ok=true):chainF n (l++[s])=some (s.data.headD []):=by
 induction l generalizing n with
 |nil =>
  unfold chainF at h
  simp only [Option.some.injEq] at h
  subst h
  show chainF n [s]=_
  unfold chainF
  rw[hs,hk,ht]
  simp[chainF]
 |cons x l ih =>
  unfold chainF at h
  show chainF n (x :: (l++[s]))=_
  unfold chainF
  split at h
  ·rename_i hc
   rw[if_pos hc]
   exact ih h
  ·cases h
theorem sameN_refl{n:List UInt8}(h:isName n):sameN n n=true:=by
 unfold sameN
 rw[decide_eq_true h]
 simp
theorem find_ty{nm:List UInt8}{t:Int}{l:List RR}(h:(findS nm t l).2=0):∃ r ∈ l,r.ty=t:=by
 by_cases hn:isName nm
 case neg =>
  rw [show findS nm t l=(St.no,3) from if_neg hn] at h
  exact absurd h (by decide)
 have e:findS nm t l=if (pickR nm t l).isEmpty then (St.no,3) else (buildS nm t (pickR nm t l),0):=if_pos hn
 rw [e] at h
 cases hp:pickR nm t l with
 |nil=>rw [hp] at h;exact absurd (show (3:Int)=0 from h) (by decide)
 |cons r P =>
  have hr:r ∈ pickR nm t l:=by rw[hp];exact List.mem_cons_self ..
  unfold pickR at hr
  obtain⟨h1,_⟩:=List.mem_filter.1 hr
  obtain⟨h2,h3⟩:=List.mem_filter.1 h1
  unfold nearR at h3
  simp only [Bool.and_eq_true,beq_iff_eq] at h3
  exact⟨r,h2,h3.1⟩
theorem zone_ty{zs:List Zo}(hz:∀ z ∈ zs,z.ok=true){nm:List UInt8}{t:Int}{i:Nat}(h:(findS nm t (zs.getD i default).rrs).2=0):t≠41:=by
 obtain⟨r,hr,e⟩:=find_ty h
 by_cases hi:i<zs.length
 ·have hg:zs.getD i default=zs[i]:=by rw[List.getD_eq_getElem?_getD,List.getElem?_eq_getElem hi];rfl
  rw [hg] at hr
  have:=Zo.ok_take (hz _ (List.getElem_mem hi)) hr
  unfold takeZ at this
  simp only [Bool.and_eq_true,bne_iff_ne] at this
  rw[←e];exact this.2.1
 ·have hg:zs.getD i default=default:=by rw[List.getD_eq_getElem?_getD,List.getElem?_eq_none (Nat.not_lt.1 hi)];rfl
  rw [hg] at hr
  cases hr
theorem of_law{zs:List Zo}(hz:∀ z ∈ zs,z.ok=true){ty:Int}{q:List UInt8}:∀ (k:Nat) (name:List UInt8) (chain:List St) (v:Ver),ofF zs ty k name chain=v→v.why=0→chainF q chain=some name →
 ∃ (n:List UInt8) (at_:Nat),chainF q v.chain=some n∧isName n∧downF zs n 300 0=some at_ ∧
  ((v.code=0∧v.ans.ty=ty∧sameN v.ans.nm n=true∧0<v.ans.data.length)∨(v.ans.data.length=0∧v.code=if existsZ (zs.getD at_ default) n then 0 else 3))
 |0,_,_,v,h,h0,_=>by rw [←h] at h0;exact absurd (show (9:Int)=0 from h0) (by decide)
 |k+1,name,chain,v,h,h0,hc=>by
  unfold ofF at h
  split at h
  case isFalse=>rw [←h] at h0;exact absurd h0 (by decide)
  rename_i hn
  cases hd:downF zs name 300 0 with
  |none=>rw [hd] at h;rw [←h] at h0;exact absurd (show (12:Int)=0 from h0) (by decide)
  |some at_ =>
   rw [hd] at h
   simp only at h
   split at h
   ·rename_i hf
    subst h
    obtain⟨r1,r2,r3,_⟩:=find_right hf (zone_ty hz hf)
    refine⟨name,at_,hc,hn,hd,.inl ⟨rfl,r3,?_,?_⟩⟩
    ·show sameN (findS name ty (zs.getD at_ default).rrs).1.nm name=true
     rw[r2];exact sameN_refl hn
    ·exact((St.ok_iff _).1 r1).2.2.1.1
   ·split at h
    ·subst h
     exact⟨name,at_,hc,hn,hd,.inr ⟨rfl,rfl⟩⟩
    ·rename_i h5
     split at h
     ·rw [←h] at h0;exact absurd h0 (by decide)
     ·have h52:(findS name 5 (zs.getD at_ default).rrs).2=0:=Classical.byContradiction fun e=>h5 (.inr (.inl e))
      obtain⟨r1,r2,r3,_⟩:=find_right h52 (by decide)
      exact of_law hz k _ _ v h h0 (chainF_snoc hc (by rw[r2];exact sameN_refl hn) r3 r1)
end Go.Proofs.Ytnfoihdifohkeaa
namespace Go.Proofs.Ytnfoihdifohkeaa
open Go Go.Eng
set_option maxRecDepth 100000
def Zo.Fit(z:Zo):Prop:=∀ r ∈ z.rrs,r.nm.length≤100000∧r.d.length≤100000
theorem Zo.ok_len{z:Zo}(h:z.ok=true):z.rrs.length≤256:=by
 unfold Zo.ok at h
 simp only [Bool.and_eq_true,decide_eq_true_eq] at h
 exact h.2.1
theorem see_fr(z:Zo)(hz:z.Fit)(ks:List KB):COk Try.prog 24 [z.V] ks (fun s k=>∃ S N,s = .tup [.agg [.d (.str z.apex),.d (rrsD z.z z.rrs),.map (lenB ks),.map (lenB ks+1)],.d (.bool z.ok)]∧k=appB ks [saidB S,nameB N .free]) :=
 (COk.frameX (see_ok z hz) [] rfl rfl rfl).imp fun r k ⟨s0,k0,⟨S,N,h1,h2⟩,h3,h4⟩=>by
  refine⟨S,N,?_,?_⟩
  ·rw[h3,h1];rfl
  ·rw[h4,h2]
   show appB ks [KB.mapx _ _ _ (mapM _ (aenc saidK intV S)) _,KB.mapx _ _ _ (mapM _ (aenc strK Hd.enc N)) _]=_
   rw[said_map,name_map]
   rfl
set_option maxHeartbeats 8000000 in
theorem zcheck_ok(z:Zo)(hz:z.Fit):FnOk Try.prog 34 [z.V] (.d (.int .i64 (if z.ok then 0 else 2))):=by
 refine fnOk_of_run (TT:=TT) (IN:=lookI []) TT_ok INok_nil mixed 1000 Try.func34 rfl (enters Try.func34 (by kernel_rfl) rfl) rfl 11 (by kernel_rfl) ?_
 conv=>whnf
 refine .rel _ (see_fr z hz _) (fun r ks' hR=>?_)
 obtain⟨S,N,rfl,rfl⟩:=hR
 conv=>whnf
 cases h:z.ok with
 |false =>
  refine brT rfl ?_
  conv=>whnf
  exact rfl
 |true =>
  refine brF rfl ?_
  conv=>whnf
  exact rfl
def cutsV(l:List (List UInt8)):DV:=.sl l.isEmpty l.length 1 (strs l)
def cutsZ(z:Zo):List (List UInt8):=if z.ok then sortN z.cutL else []
set_option maxHeartbeats 8000000 in
theorem zcuts_ok(z:Zo)(hz:z.Fit):FnOk Try.prog 53 [z.V] (.d (cutsV (cutsZ z))):=by
 refine fnOk_of_run (TT:=TT) (IN:=lookI []) TT_ok INok_nil mixed 1000 Try.func53 rfl (enters Try.func53 (by kernel_rfl) rfl) rfl 12 (by kernel_rfl) ?_
 conv=>whnf
 refine .rel _ (see_fr z hz _) (fun r ks' hR=>?_)
 obtain⟨S,N,rfl,rfl⟩:=hR
 unfold cutsZ
 cases h:z.ok with
 |false =>
  rw[if_neg (by decide)]
  conv=>whnf
  refine brT rfl ?_
  conv=>whnf
  repeat'(first|exact ⟨⟩|exact rfl|exact⟨rfl,rfl,.inr rfl,fun _ _=>rfl⟩|exact⟨rfl,rfl,.inl rfl,fun i hi=>absurd hi (Nat.not_lt_zero _)⟩|apply And.intro)
 |true =>
  rw[if_pos rfl]
  conv=>whnf
  refine brF rfl ?_
  conv=>whnf
  refine .rel _ (COk.frameX (cuts_ok z S N (by have:=z.ok_len h;omega)) [3,1,2] rfl rfl (by rw[lookK_mapX];rfl)) (fun x ks' hR=>?_)
  obtain⟨s0,k0,⟨rfl,rfl⟩,rfl,rfl⟩:=hR
  conv=>whnf
  repeat'(first|exact ⟨⟩|exact rfl|exact⟨rfl,rfl,.inr rfl,fun _ _=>rfl⟩|exact⟨rfl,rfl,.inl rfl,fun i hi=>absurd hi (Nat.not_lt_zero _)⟩|apply And.intro)
def getZ(z:Zo)(name:List UInt8)(t:Int):St × Int:=if z.ok then findS name t z.rrs else (St.no,2)
set_option maxHeartbeats 8000000 in
theorem zget_ok(z:Zo)(hz:z.Fit)(name:List UInt8)(t:Int)(hn:name.length≤100000):FnOk Try.prog 19 [z.V,.d (.str name),.d (.int .u16 t)] (.tup [(getZ z name t).1.V,.d (.int .i64 (getZ z name t).2)]):=by
 refine fnOk_of_run (TT:=TT) (IN:=lookI []) TT_ok INok_nil mixed 1000 Try.func19 rfl (enters Try.func19 (by kernel_rfl) rfl) rfl 23 (by kernel_rfl) ?_
 conv=>whnf
 refine .rel _ (see_fr z hz _) (fun r ks' hR=>?_)
 obtain⟨S,N,rfl,rfl⟩:=hR
 unfold getZ
 cases h:z.ok with
 |false =>
  conv=>whnf
  refine brT rfl ?_
  conv=>whnf
  repeat'(first|exact ⟨⟩|exact rfl|exact⟨rfl,rfl,.inr rfl,fun _ _=>rfl⟩|exact⟨rfl,rfl,.inl rfl,fun i hi=>absurd hi (Nat.not_lt_zero _)⟩|apply And.intro)
 |true =>
  rw[if_pos rfl]
  have hl:=z.ok_len h
  conv=>whnf
  refine brF rfl ?_
  conv=>whnf
  refine .one (.data _ (find_ok name t z.z z.rrs (by omega) hn (fun r hr=>(hz r hr).1)) rfl rfl ?_)
  conv=>whnf
  repeat'(first|exact ⟨⟩|exact rfl|exact⟨rfl,rfl,.inr rfl,fun _ _=>rfl⟩|exact⟨rfl,rfl,.inl rfl,fun i hi=>absurd hi (Nat.not_lt_zero _)⟩|apply And.intro)
def existsR(z:Zo)(name:List UInt8):Bool:=z.ok && existsZ z name
theorem any_take_next{l:List RR}{p:RR→Bool}{i:Nat}{r:RR}(h:l[i]? = some r)(hp:p r=false)(ha:(l.take i).any p=false):(l.take (i+1)).any p=false:=by
 rw[List.take_add_one,h,List.any_append,ha]
 simp[hp]
set_option maxHeartbeats 8000000 in
theorem zexists_ok(z:Zo)(hz:z.Fit)(name:List UInt8):FnOk Try.prog 13 [z.V,.d (.str name)] (.d (.bool (existsR z name))):=by
 refine fnOk_of_run (TT:=TT) (IN:=lookI []) TT_ok INok_nil mixed 1000 Try.func13 rfl (enters Try.func13 (by kernel_rfl) rfl) rfl 35 (by kernel_rfl) ?_
 conv=>whnf
 refine .rel _ (see_fr z hz _) (fun r ks' hR=>?_)
 obtain⟨S,N,rfl,rfl⟩:=hR
 unfold existsR
 cases h:z.ok with
 |false =>
  conv=>whnf
  refine brT rfl ?_
  conv=>whnf
  exact rfl
 |true =>
  have hl:=z.ok_len h
  conv=>whnf
  refine brF rfl ?_
  conv=>whnf
  refine .one (.data _ (within_ok _ _) rfl rfl ?_)
  unfold existsZ
  cases hw:withinN name z.apex with
  |false =>
   conv=>whnf
   refine brT rfl ?_
   conv=>whnf
   exact rfl
  |true =>
   conv=>whnf
   refine brF rfl ?_
   conv=>whnf
   refine .inv Nat (fun i=>i≤z.rrs.length∧(z.rrs.take i).any (fun r=>withinN r.nm name)=false) (fun i=>[(28,iV i)]) (fun i=>[]) (fun i=>z.rrs.length - i) ⟨0,[0,1,2,3],⟨Nat.zero_le _,rfl⟩,?_⟩ ?_
   ·conv=>whnf
    repeat'(first|exact ⟨⟩|exact rfl|exact subZ_self _|exact Or.inr rfl|exact fun _ _=>rfl|exact fun _ h=>absurd h (Nat.not_lt_zero _)|apply And.intro)
    all_goals first
     |exact said_ren _
     |exact name_ren _
     |exact nameB_sub _ _ _
   intro i hi
   obtain⟨hi,hti⟩:=hi
   conv=>whnf
   refine⟨fun h2=>?_,fun h2=>?_⟩
   ·have h2:i<z.rrs.length:=by
     have h:(i:Int)<z.rrs.length:=of_decide_eq_true h2
     omega
    have hw1:IntKind.i64.wrap ((i:Int)+1)=((i+1:Nat):Int):=by rw[w64_in _ (by omega)];omega
    obtain⟨r,hr⟩:∃ r,z.rrs.getD i default=r:=⟨_,rfl⟩
    have hrl:z.rrs[i]? = some r:=by rw[←hr,List.getD,List.getElem?_eq_getElem h2];rfl
    conv=>whnf
    refine⟨by omega,?_⟩
    conv=>whnf
    rw[Int.toNat_natCast,hr]
    refine .one (.data _ (within_ok _ _) rfl rfl ?_)
    cases hwr:withinN r.nm name with
    |true =>
     have hb:(z.rrs.any fun r=>withinN r.nm name)=true:=List.any_eq_true.2 ⟨r,List.mem_of_getElem? hrl,hwr⟩
     rw[hb]
     conv=>whnf
     refine brT rfl ?_
     conv=>whnf
     exact rfl
    |false =>
     conv=>whnf
     refine brF rfl ?_
     conv=>whnf
     rw[hw1]
     refine⟨i+1,[0,1,2,3],⟨h2,any_take_next hrl hwr hti⟩,by omega,?_⟩
     conv=>whnf
     repeat'(first|exact ⟨⟩|exact rfl|exact subZ_self _|exact Or.inr rfl|exact fun _ _=>rfl|exact fun _ h=>absurd h (Nat.not_lt_zero _)|apply And.intro)
     all_goals first
      |exact said_ren _
      |exact name_ren _
      |exact nameB_sub _ _ _
   ·have h2:i=z.rrs.length:=by
     have h:¬ (i:Int)<z.rrs.length:=of_decide_eq_false h2
     omega
    subst h2
    rw [List.take_length] at hti
    rw[hti]
    conv=>whnf
    exact rfl
def cutQ(z:Zo)(name:List UInt8):St × Int:=if z.ok then (match bestC name (sortN z.cutL) with
 |none=>(St.no,3)
 |some c=>findS c 2 z.rrs) else (St.no,2)
def fewC:Option (List UInt8)→Int
 |none=>-1
 |some c=>countN c
theorem bestC_next{name:List UInt8}{l:List (List UInt8)}{i:Nat}{c:List UInt8}(h:l[i]? = some c):bestC name (l.take (i+1))=betterC name c (bestC name (l.take i)):=by
 rw[List.take_add_one,h]
 exact bestC_snoc name _ c
set_option maxHeartbeats 8000000 in
theorem zcut_ok(z:Zo)(hz:z.Fit)(name:List UInt8):FnOk Try.prog 11 [z.V,.d (.str name)] (.tup [(cutQ z name).1.V,.d (.int .i64 (cutQ z name).2)]):=by
 refine fnOk_of_run (TT:=TT) (IN:=lookI []) TT_ok INok_nil mixed 1000 Try.func11 rfl (enters Try.func11 (by kernel_rfl) rfl) rfl 51 (by kernel_rfl) ?_
 conv=>whnf
 refine .rel _ (see_fr z hz _) (fun r ks' hR=>?_)
 obtain⟨S,N,rfl,rfl⟩:=hR
 unfold cutQ
 cases h:z.ok with
 |false =>
  conv=>whnf
  refine brT rfl ?_
  conv=>whnf
  repeat'(first|exact ⟨⟩|exact rfl|exact⟨rfl,rfl,.inr rfl,fun _ _=>rfl⟩|exact⟨rfl,rfl,.inl rfl,fun i hi=>absurd hi (Nat.not_lt_zero _)⟩|apply And.intro)
 |true =>
  rw[if_pos rfl]
  have hl:=z.ok_len h
  conv=>whnf
  refine brF rfl ?_
  conv=>whnf
  refine .rel _ (COk.frameX (cuts_ok z S N (by omega)) [4,2,3] rfl rfl (by rw[lookK_mapX];rfl)) (fun x ks' hR=>?_)
  obtain⟨s0,k0,⟨rfl,rfl⟩,rfl,rfl⟩:=hR
  rw[lookK_mapX]
  have hsl:(sortN z.cutL).length≤100000:=by
   have h1:=sortN_len z.cutL
   have h2:z.cutL.length≤z.rrs.length:=by unfold Zo.cutL;rw[List.length_map];exact List.length_filter_le _ _
   omega
  have hsn:∀ c ∈ sortN z.cutL,isName c:=fun c hc=>(sortN_mem hc).2
  generalize sortN z.cutL=L at hsl hsn ⊢
  conv=>whnf
  refine .inv Nat (fun i=>i≤L.length) (fun i=>[(23,iV i),(8,.d (.str ((bestC name (L.take i)).getD []))),(9,.d (.int .i64 (fewC (bestC name (L.take i)))))]) (fun i=>[]) (fun i=>L.length - i) ⟨0,[0,1,2,3,4],Nat.zero_le _,?_⟩ ?_
  ·conv=>whnf
   repeat'(first|exact ⟨⟩|exact rfl|exact subZ_self _|exact Or.inr rfl|exact fun _ _=>rfl|exact fun _ h=>absurd h (Nat.not_lt_zero _)|apply And.intro)
   all_goals first
    |exact said_ren _
    |exact name_ren _
    |exact nameB_sub _ _ _
  intro i hi
  conv=>whnf
  refine⟨fun h2=>?_,fun h2=>?_⟩
  ·have h2:i<L.length:=by
    have h:(i:Int)<L.length:=of_decide_eq_true h2
    omega
   have hw1:IntKind.i64.wrap ((i:Int)+1)=((i+1:Nat):Int):=by rw[w64_in _ (by omega)];omega
   have hli:L[i]? = some (L[i]?.getD []):=by rw[List.getElem?_eq_getElem h2];rfl
   have hnx:=bestC_next (name:=name) hli
   conv=>whnf
   refine⟨by omega,?_⟩
   conv=>whnf
   rw[Int.toNat_natCast]
   generalize L[i]?.getD []=c at hli hnx ⊢
   unfold betterC at hnx
   refine .one (.data _ (within_ok _ _) rfl rfl ?_)
   cases hw:withinN name c with
   |false =>
    rw [hw,if_neg (by decide)] at hnx
    conv=>whnf
    refine brT rfl ?_
    conv=>whnf
    rw[hw1]
    refine⟨i+1,[0,1,2,3,4],h2,by omega,?_⟩
    rw[hnx]
    conv=>whnf
    repeat'(first|exact ⟨⟩|exact rfl|exact subZ_self _|exact Or.inr rfl|exact fun _ _=>rfl|exact fun _ h=>absurd h (Nat.not_lt_zero _)|apply And.intro)
    all_goals first
     |exact said_ren _
     |exact name_ren _
     |exact nameB_sub _ _ _
   |true =>
    rw [hw,if_pos rfl] at hnx
    conv=>whnf
    refine brF rfl ?_
    conv=>whnf
    refine .one (.data _ (count_ok _) rfl rfl ?_)
    conv=>whnf
    cases hb:bestC name (L.take i) with
    |none =>
     rw [hb] at hnx
     refine brT rfl ?_
     conv=>whnf
     rw[hw1]
     refine⟨i+1,[0,1,2,3,4],h2,by omega,?_⟩
     rw[hnx]
     conv=>whnf
     repeat'(first|exact ⟨⟩|exact rfl|exact subZ_self _|exact Or.inr rfl|exact fun _ _=>rfl|exact fun _ h=>absurd h (Nat.not_lt_zero _)|apply And.intro)
     all_goals first
      |exact said_ren _
      |exact name_ren _
      |exact nameB_sub _ _ _
    |some y =>
     rw [hb] at hnx
     simp only at hnx
     refine brF (decide_eq_false (by show ¬ ((countN y:Nat):Int)<0;omega)) ?_
     conv=>whnf
     by_cases hc:countN c<countN y
     ·rw [if_pos hc] at hnx
      refine brT (decide_eq_true (by show((countN c:Nat):Int)<((countN y:Nat):Int);omega)) ?_
      conv=>whnf
      rw[hw1]
      refine⟨i+1,[0,1,2,3,4],h2,by omega,?_⟩
      rw[hnx]
      conv=>whnf
      repeat'(first|exact ⟨⟩|exact rfl|exact subZ_self _|exact Or.inr rfl|exact fun _ _=>rfl|exact fun _ h=>absurd h (Nat.not_lt_zero _)|apply And.intro)
      all_goals first
       |exact said_ren _
       |exact name_ren _
       |exact nameB_sub _ _ _
     ·rw [if_neg hc] at hnx
      refine brF (decide_eq_false (by show ¬ ((countN c:Nat):Int)<((countN y:Nat):Int);omega)) ?_
      conv=>whnf
      rw[hw1]
      refine⟨i+1,[0,1,2,3,4],h2,by omega,?_⟩
      rw[hnx]
      conv=>whnf
      repeat'(first|exact ⟨⟩|exact rfl|exact subZ_self _|exact Or.inr rfl|exact fun _ _=>rfl|exact fun _ h=>absurd h (Nat.not_lt_zero _)|apply And.intro)
      all_goals first
       |exact said_ren _
       |exact name_ren _
       |exact nameB_sub _ _ _
  ·have h2:i=L.length:=by
    have h:¬ (i:Int)<L.length:=of_decide_eq_false h2
    omega
   subst h2
   have hsp:=bestC_spec name L
   rw[List.take_length]
   conv=>whnf
   cases hb:bestC name L with
   |none =>
    refine brT rfl ?_
    conv=>whnf
    repeat'(first|exact ⟨⟩|exact rfl|exact⟨rfl,rfl,.inr rfl,fun _ _=>rfl⟩|exact⟨rfl,rfl,.inl rfl,fun i hi=>absurd hi (Nat.not_lt_zero _)⟩|apply And.intro)
   |some c =>
    rw [hb] at hsp
    have hcn:=hsn c hsp.1
    refine brF (decide_eq_false (by show ¬ ((countN c:Nat):Int)<0;omega)) ?_
    conv=>whnf
    refine .one (.data _ (find_ok c 2 z.z z.rrs (by omega) (by have:=hcn.2.1;omega) (fun r hr=>(hz r hr).1)) rfl rfl ?_)
    conv=>whnf
    repeat'(first|exact ⟨⟩|exact rfl|exact⟨rfl,rfl,.inr rfl,fun _ _=>rfl⟩|exact⟨rfl,rfl,.inl rfl,fun i hi=>absurd hi (Nat.not_lt_zero _)⟩|apply And.intro)
end Go.Proofs.Ytnfoihdifohkeaa
namespace Go.Proofs.Ytnfoihdifohkeaa
open Go Go.Eng
set_option maxRecDepth 100000
def deeper(n c:List UInt8)(b:Option (List UInt8)):Option (List UInt8):=if withinN n c then (match b with
 |none=>some c
 |some y=>if countN y<countN c then some c else some y) else b
theorem deepF_append(n:List UInt8):∀ (l:List (List UInt8)) (c:List UInt8) (b:Option (List UInt8)),deepF n (l++[c]) b=deeper n c (deepF n l b)
 |[],c,b=>rfl
 |x :: l,c,b=>by
  show deepF n (l++[c]) _=deeper n c (deepF n l _)
  exact deepF_append n l c _
theorem deepF_next{n:List UInt8}{l:List (List UInt8)}{i:Nat}{c:List UInt8}(h:l[i]? = some c):deepF n (l.take (i+1)) none=deeper n c (deepF n (l.take i) none):=by
 rw[List.take_add_one,h]
 exact deepF_append n _ c none
def fewD:Option (List UInt8)→Int
 |none=>-1
 |some c=>countN c
def deepR(n:List UInt8)(l:List (List UInt8)):List UInt8 × Int:=if isName n then (match deepF n l none with
 |none=>([],3)
 |some c=>(c,0)) else ([],2)
set_option maxHeartbeats 8000000 in
theorem deepest_ok(name:List UInt8)(z:Bool)(L:List (List UInt8))(hsl:L.length≤100000):FnOk Try.prog 76 [.d (.str name),.d (.sl z L.length 1 (strs L))] (.tup [.d (.str (deepR name L).1),.d (.int .i64 (deepR name L).2)]):=by
 refine fnOk_of_run (TT:=TT) (IN:=lookI []) TT_ok INok_nil mixed 1000 Try.func76 rfl (enters Try.func76 (by kernel_rfl) rfl) rfl 33 (by kernel_rfl) ?_
 conv=>whnf
 refine .one (.data _ (check_ok name) rfl rfl ?_)
 unfold deepR
 by_cases hn:isName name
 case neg =>
  rw[if_neg hn,if_neg hn]
  conv=>whnf
  refine brT rfl ?_
  conv=>whnf
  repeat'(first|exact ⟨⟩|exact rfl|exact⟨rfl,rfl,.inr rfl,fun _ _=>rfl⟩|exact⟨rfl,rfl,.inl rfl,fun i hi=>absurd hi (Nat.not_lt_zero _)⟩|apply And.intro)
 rw[if_pos hn,if_pos hn]
 conv=>whnf
 refine brF rfl ?_
 conv=>whnf
 refine .inv Nat (fun i=>i≤L.length) (fun i=>[(16,iV i),(6,.d (.str ((deepF name (L.take i) none).getD []))),(7,.d (.int .i64 (fewD (deepF name (L.take i) none))))]) (fun i=>[]) (fun i=>L.length - i) ⟨0,[],Nat.zero_le _,?_⟩ ?_
 ·conv=>whnf
  repeat'(first|exact ⟨⟩|exact rfl|exact subZ_self _|exact Or.inr rfl|exact fun _ _=>rfl|exact fun _ h=>absurd h (Nat.not_lt_zero _)|apply And.intro)
 intro i hi
 conv=>whnf
 refine⟨fun h2=>?_,fun h2=>?_⟩
 ·have h2:i<L.length:=by
   have h:(i:Int)<L.length:=of_decide_eq_true h2
   omega
  have hw1:IntKind.i64.wrap ((i:Int)+1)=((i+1:Nat):Int):=by rw[w64_in _ (by omega)];omega
  have hli:L[i]? = some (L[i]?.getD []):=by rw[List.getElem?_eq_getElem h2];rfl
  have hnx:=deepF_next (n:=name) hli
  conv=>whnf
  refine⟨by omega,?_⟩
  conv=>whnf
  rw[Int.toNat_natCast]
  generalize L[i]?.getD []=c at hli hnx ⊢
  unfold deeper at hnx
  refine .one (.data _ (within_ok _ _) rfl rfl ?_)
  cases hw:withinN name c with
  |false =>
   rw [hw,if_neg (by decide)] at hnx
   conv=>whnf
   refine brT rfl ?_
   conv=>whnf
   rw[hw1]
   refine⟨i+1,[],h2,by omega,?_⟩
   rw[hnx]
   conv=>whnf
   repeat'(first|exact ⟨⟩|exact rfl|exact subZ_self _|exact Or.inr rfl|exact fun _ _=>rfl|exact fun _ h=>absurd h (Nat.not_lt_zero _)|apply And.intro)
  |true =>
   rw [hw,if_pos rfl] at hnx
   conv=>whnf
   refine brF rfl ?_
   conv=>whnf
   refine .one (.data _ (count_ok _) rfl rfl ?_)
   conv=>whnf
   cases hb:deepF name (L.take i) none with
   |none =>
    rw [hb] at hnx
    refine brT (decide_eq_true (by show((countN c:Nat):Int) > -1;omega)) ?_
    conv=>whnf
    rw[hw1]
    refine⟨i+1,[],h2,by omega,?_⟩
    rw[hnx]
    conv=>whnf
    repeat'(first|exact ⟨⟩|exact rfl|exact subZ_self _|exact Or.inr rfl|exact fun _ _=>rfl|exact fun _ h=>absurd h (Nat.not_lt_zero _)|apply And.intro)
   |some y =>
    rw [hb] at hnx
    simp only at hnx
    by_cases hc:countN y<countN c
    ·rw [if_pos hc] at hnx
     refine brT (decide_eq_true (by show((countN c:Nat):Int) > ((countN y:Nat):Int);omega)) ?_
     conv=>whnf
     rw[hw1]
     refine⟨i+1,[],h2,by omega,?_⟩
     rw[hnx]
     conv=>whnf
     repeat'(first|exact ⟨⟩|exact rfl|exact subZ_self _|exact Or.inr rfl|exact fun _ _=>rfl|exact fun _ h=>absurd h (Nat.not_lt_zero _)|apply And.intro)
    ·rw [if_neg hc] at hnx
     refine brF (decide_eq_false (by show ¬ ((countN c:Nat):Int) > ((countN y:Nat):Int);omega)) ?_
     conv=>whnf
     rw[hw1]
     refine⟨i+1,[],h2,by omega,?_⟩
     rw[hnx]
     conv=>whnf
     repeat'(first|exact ⟨⟩|exact rfl|exact subZ_self _|exact Or.inr rfl|exact fun _ _=>rfl|exact fun _ h=>absurd h (Nat.not_lt_zero _)|apply And.intro)
 ·have h2:i=L.length:=by
   have h:¬ (i:Int)<L.length:=of_decide_eq_false h2
   omega
  subst h2
  rw[List.take_length]
  conv=>whnf
  cases hb:deepF name L none with
  |none =>
   refine brT rfl ?_
   conv=>whnf
   repeat'(first|exact ⟨⟩|exact rfl|exact⟨rfl,rfl,.inr rfl,fun _ _=>rfl⟩|exact⟨rfl,rfl,.inl rfl,fun i hi=>absurd hi (Nat.not_lt_zero _)⟩|apply And.intro)
  |some c =>
   refine brF (decide_eq_false (by show ¬ ((countN c:Nat):Int)<0;omega)) ?_
   conv=>whnf
   repeat'(first|exact ⟨⟩|exact rfl|exact⟨rfl,rfl,.inr rfl,fun _ _=>rfl⟩|exact⟨rfl,rfl,.inl rfl,fun i hi=>absurd hi (Nat.not_lt_zero _)⟩|apply And.intro)
end Go.Proofs.Ytnfoihdifohkeaa
namespace Go.Proofs.Ytnfoihdifohkeaa
open Go Go.Eng
set_option maxRecDepth 100000
def placesF(k:Nat):List Zo→List (List UInt8 × Nat)
 |[]=>[]
 |z :: l=>(fold z.apex,k) :: placesF (k+1) l
def placesL(zs:List Zo):List (List UInt8 × Nat):=placesF 0 zs
theorem placesF_append:∀ (l m:List Zo) (k:Nat),placesF k (l++m)=placesF k l++placesF (k+l.length) m
 |[],m,k=>rfl
 |z :: l,m,k=>by
  show(fold z.apex,k) :: placesF (k+1) (l++m)=_
  rw[placesF_append l m (k+1),show k+1+l.length=k+(z :: l).length by simp;omega]
  rfl
theorem places_snoc(l:List Zo)(z:Zo):placesL (l++[z])=placesL l++[(fold z.apex,l.length)]:=by
 unfold placesL
 rw[placesF_append,Nat.zero_add]
 rfl
theorem placesF_get(n:List UInt8):∀ (l:List Zo) (k:Nat),aget (placesF k l) n=(placeZ l n).map (· + k)
 |[],k=>rfl
 |z :: l,k=>by
  show(if n=fold z.apex then some k else aget (placesF (k+1) l) n)=_
  unfold placeZ
  rw[List.findIdx?_cons]
  by_cases h:n=fold z.apex
  ·rw[if_pos h,show(fold z.apex == n)=true by simpa using h.symm,if_pos rfl]
   simp
  ·rw[if_neg h,show(fold z.apex == n)=false by simpa using fun e=>h e.symm,if_neg (by decide),placesF_get n l (k+1)]
   unfold placeZ
   rw[Option.map_map]
   congr 1
   funext x
   simp only[Function.comp]
   omega
theorem places_get(l:List Zo)(n:List UInt8):aget (placesL l) n=placeZ l n:=by
 unfold placesL
 rw[placesF_get]
 cases placeZ l n <;> rfl
theorem place_none{l:List Zo}{n:List UInt8}:placeZ l n=none↔∀ z ∈ l,fold z.apex≠n:=by
 unfold placeZ
 rw[List.findIdx?_eq_none_iff]
 simp
theorem onceN_snoc(l:List (List UInt8))(a:List UInt8):onceN (l++[a])=(onceN l && !l.contains a):=by
 induction l with
 |nil=>simp[onceN]
 |cons x l ih =>
  show(!(l++[a]).contains x && onceN (l++[a]))=((!l.contains x && onceN l) && !(x :: l).contains a)
  rw[ih,Bool.eq_iff_iff]
  simp only[List.contains_append,List.contains_cons,List.contains_nil,Bool.or_false,Bool.not_or,Bool.and_eq_true,Bool.not_eq_true',beq_eq_false_iff_ne]
  constructor
  ·rintro ⟨⟨h1,h2⟩,h3,h4⟩;exact⟨⟨h1,h3⟩,fun e=>h2 e.symm,h4⟩
  ·rintro ⟨⟨h1,h3⟩,h2,h4⟩;exact⟨⟨h1,fun e=>h2 e.symm⟩,h3,h4⟩
theorem onceN_take{l:List (List UInt8)}{i:Nat}(h:onceN (l.take i)=false):onceN l=false:=by
 have hl:l=l.take i++l.drop i:=(List.take_append_drop i l).symm
 cases e:onceN l with
 |false=>rfl
 |true =>
  exfalso
  have:∀ (m n:List (List UInt8)),onceN (m++n)=true→onceN m=true:=by
   intro m n
   refine snoc_ind (P:=fun n=>onceN (m++n)=true→onceN m=true) (fun h=>by rwa [List.append_nil] at h) (fun n r ih h=>?_) n
   rw [←List.append_assoc,onceN_snoc,Bool.and_eq_true] at h
   exact ih h.1
  rw [hl] at e
  rw [this _ _ e] at h
  cases h
end Go.Proofs.Ytnfoihdifohkeaa
namespace Go.Proofs.Ytnfoihdifohkeaa
open Go Go.Eng
set_option maxRecDepth 100000
def Zo.enc(z:Zo):List DV:=[.str z.apex,rrsD z.z z.rrs]
def zonesD(b:Bool)(l:List Zo):DV:=.sl b l.length 2 (fun i=>(l.getD i default).enc)
def hostE(h:Int × Bool × List Int):List DV:=[.int .u32 h.1,.sl h.2.1 h.2.2.length 1 (fun j=>[.int .i64 (h.2.2.getD j 0)])]
def hostsD(b:Bool)(l:List (Int × Bool × List Int)):DV:=.sl b l.length 2 (fun i=>hostE (l.getD i default))
def Fo.V(f:Fo):SV:=.agg [.d (zonesD f.zz f.zones),.d (hostsD f.hz f.hosts)]
def Fo.Fit(f:Fo):Prop:=∀ z ∈ f.zones,z.apex.length≤100000∧z.Fit
def placesB(P:List (List UInt8 × Nat)):KB:=.map [.str] false false (aenc strK intV P)
theorem places_map{σ:Nat→Nat}(P:List (List UInt8 × Nat)):mapK σ (placesB P)=placesB P:=by
 show KB.mapx _ _ _ (mapM _ (aenc strK intV P)) _=_
 rw[aenc_map (fun _=>rfl)]
 rfl
theorem places_ren{ρ:List Nat}(P:List (List UInt8 × Nat)):renM ρ (aenc strK intV P)=aenc strK intV P:=aenc_ren (fun _=>rfl) P
def othersTo(zs:List Zo)(i j:Nat):List (List UInt8):=(((zs.take j).zipIdx).filter (fun p=>p.2 != i)).map (·.1.apex)
theorem othersTo_next{zs:List Zo}{i j:Nat}{z:Zo}(h:zs[j]? = some z):othersTo zs i (j+1)=if j≠i then othersTo zs i j++[z.apex] else othersTo zs i j:=by
 unfold othersTo
 have hj:j<zs.length:=(List.getElem?_eq_some_iff.1 h).1
 rw[List.take_add_one,h]
 simp only[Option.toList_some,List.zipIdx_append,List.filter_append,List.map_append]
 by_cases hc:j=i
 ·subst hc
  simp[List.length_take,Nat.min_eq_left (Nat.le_of_lt hj)]
 ·simp[List.length_take,Nat.min_eq_left (Nat.le_of_lt hj),hc]
theorem othersTo_len(zs:List Zo)(i j:Nat):(othersTo zs i j).length≤j:=by
 unfold othersTo
 rw[List.length_map]
 exact Nat.le_trans (List.length_filter_le _ _) (by rw[List.length_zipIdx,List.length_take];omega)
theorem othersTo_end(zs:List Zo){i:Nat}(hi:i<zs.length):othersTo zs i zs.length=othersZ zs i:=by
 unfold othersTo othersZ
 rw[List.take_length]
 have h:zs=zs.take i++zs[i] :: zs.drop (i+1):=by rw[List.getElem_cons_drop,List.take_append_drop]
 have hl:(zs.take i).length=i:=by rw[List.length_take];omega
 generalize zs.take i=A at h hl ⊢
 generalize zs.drop (i+1)=B at h ⊢
 generalize zs[i]=x at h
 subst h
 rw[List.zipIdx_append,List.filter_append,List.zipIdx_cons,List.filter_cons,List.map_append,List.map_append]
 have e1:(A.zipIdx.filter fun p=>p.2 != i).map (·.1.apex)=A.map (·.apex):=by
  rw[List.filter_eq_self.2 (fun p hp=>by
   have:=List.snd_lt_of_mem_zipIdx hp
   simp;omega)]
  rw[show(fun p:Zo × Nat=>p.1.apex)=(fun z:Zo=>z.apex) ∘ Prod.fst from rfl,←List.map_map,List.zipIdx_map_fst]
 have e2:((B.zipIdx (0+A.length+1)).filter fun p=>p.2 != i).map (·.1.apex)=B.map (·.apex):=by
  rw[List.filter_eq_self.2 (fun p hp=>by
   have:=List.le_snd_of_mem_zipIdx hp
   simp;omega)]
  rw[show(fun p:Zo × Nat=>p.1.apex)=(fun z:Zo=>z.apex) ∘ Prod.fst from rfl,←List.map_map,List.zipIdx_map_fst]
 rw[e1,if_neg (by simp[hl]),e2]
theorem opn_enc{K V:Type}[DecidableEq K]{ek:K→List DV}{ev:V→List SV}(hk:∀ a b,keyEq (ek a) (ek b)=decide (a=b))(k:K)(z:List SV):∀ l:List (K × V),∃ (l1:List (List DV × List SV)) (q:Nat),opnM (aenc ek ev l) (ek k) z=(l1,((aget l k).map ev).getD z,q)∧findM l1 (ek k)=some (((aget l k).map ev).getD z)∧∀ v,putQ l1 q (ev v)=aenc ek ev (aput l k v)
 |[]=>⟨[(ek k,z)],0,rfl,by show(if keyEq (ek k) (ek k) then some z else _)=_;rw[hk,if_pos (by simp)];rfl,fun v=>rfl⟩
 |e :: l=>by
  obtain⟨l1,q,h1,h2,h3⟩:=opn_enc hk k z l
  by_cases h:k=e.1
  ·refine⟨aenc ek ev (e :: l),0,?_,?_,fun v=>?_⟩
   ·show(if keyEq (ek k) (ek e.1) then _ else _)=_
    rw[hk,if_pos (by simpa using h)]
    simp only[aget,if_pos h]
    rfl
   ·show(if keyEq (ek k) (ek e.1) then some (ev e.2) else _)=_
    rw[hk,if_pos (by simpa using h)]
    simp only[aget,if_pos h]
    rfl
   ·show(ek e.1,ev v) :: aenc ek ev l=aenc ek ev (aput (e :: l) k v)
    simp only[aput,if_pos h]
    rw[←h]
    rfl
  ·refine⟨(ek e.1,ev e.2) :: l1,q+1,?_,?_,fun v=>?_⟩
   ·show(if keyEq (ek k) (ek e.1) then _ else ((ek e.1,ev e.2) :: (opnM (aenc ek ev l) (ek k) z).1,(opnM (aenc ek ev l) (ek k) z).2.1,(opnM (aenc ek ev l) (ek k) z).2.2+1))=_
    rw[hk,if_neg (by simpa using h),h1]
    simp only[aget,if_neg h]
   ·show(if keyEq (ek k) (ek e.1) then some (ev e.2) else findM l1 (ek k))=_
    rw[hk,if_neg (by simpa using h),h2]
    simp only[aget,if_neg h]
   ·show(ek e.1,ev e.2) :: putQ l1 q (ev v)=aenc ek ev (aput (e :: l) k v)
    rw[h3]
    simp only[aput,if_neg h]
    rfl
def pairK(p:Nat × Nat):List DV:=[.int .i64 (p.1:Nat),.int .i64 (p.2:Nat)]
theorem pairK_eq(a b:Nat × Nat):keyEq (pairK a) (pairK b)=decide (a=b):=by
 rw[Bool.eq_iff_iff]
 obtain⟨a1,a2⟩:=a
 obtain⟨b1,b2⟩:=b
 simp[pairK,keyEq,dEq,kEq]
 omega
def pairsB(C:List ((Nat × Nat) × Nat)):KB:=.map [.int .i64,.int .i64] true false (aenc pairK intV C)
theorem pairs_ren{ρ:List Nat}(C:List ((Nat × Nat) × Nat)):renM ρ (aenc pairK intV C)=aenc pairK intV C:=aenc_ren (fun _=>rfl) C
theorem deepF_mem{n:List UInt8}:∀ {l:List (List UInt8)} {b:Option (List UInt8)} {a:List UInt8},deepF n l b=some a→a ∈ l∨b=some a
 |[],b,a,h=>.inr h
 |c :: l,b,a,h=>by
  unfold deepF at h
  rcases deepF_mem h with h|h
  ·exact .inl (List.mem_cons_of_mem _ h)
  ·split at h
   ·cases b with
    |none=>simp only [Option.some.injEq] at h;subst h;exact .inl (List.mem_cons_self ..)
    |some y =>
     simp only at h
     split at h
     ·simp only [Option.some.injEq] at h;subst h;exact .inl (List.mem_cons_self ..)
     ·exact .inr h
   ·exact .inr h
def closeR(P:List (List UInt8 × Nat))(apex:List UInt8)(L:List (List UInt8)):Nat × Bool:=match deepF apex L none with
 |none=>(0,false)
 |some a=>match aget P (fold a) with
  |none=>(0,false)
  |some k=>(k,true)
set_option maxHeartbeats 8000000 in
theorem closest_raw(f:Fo)(hl:f.zones.length≤64)(i:Nat)(hi:i<f.zones.length)(apex:List UInt8)(ha:isName apex)(P:List (List UInt8 × Nat))(hn:∀ z ∈ f.zones,isName z.apex) :
 COk Try.prog 54 [f.V,iV i,.d (.str apex),.map 0] [placesB P] (fun s k=>∃ b,s = .tup [iV (closeR P apex (othersZ f.zones i)).1,.d b]∧DenTo (.d b) (.d (.bool (closeR P apex (othersZ f.zones i)).2))∧k=[placesB P]):=by
 refine cOk_of_run (TT:=TT) (IN:=lookI []) TT_ok INok_nil mixed 1000 Try.func54 rfl (enters Try.func54 (by kernel_rfl) rfl) 47 (by kernel_rfl) ?_
 conv=>whnf
 refine .nilT 10 9 1 (strs []) _ _ rfl ?_
 conv=>whnf
 refine .inv Nat (fun j=>j≤f.zones.length) (fun j=>[(20,iV j),(10,.all 2)]) (fun j=>[(2,.row 9 1 (othersTo f.zones i j).length .iff (strs (othersTo f.zones i j)))]) (fun j=>f.zones.length - j) ⟨0,[0,1,2],Nat.zero_le _,?_⟩ ?_
 ·conv=>whnf
  repeat'(first|exact ⟨⟩|exact rfl|exact subZ_self _|exact Or.inr rfl|exact fun _ _=>rfl|exact fun _ h=>absurd h (Nat.not_lt_zero _)|apply And.intro)
  all_goals first
   |exact places_ren _
 intro j hj
 conv=>whnf
 have hol:=othersTo_len f.zones i j
 refine⟨fun h2=>?_,fun h2=>?_⟩
 ·have h2:j<f.zones.length:=by
   have h:(j:Int)<f.zones.length:=of_decide_eq_true h2
   omega
  have hw1:IntKind.i64.wrap ((j:Int)+1)=((j+1:Nat):Int):=by rw[w64_in _ (by omega)];omega
  obtain⟨z,hz⟩:∃ z,f.zones.getD j default=z:=⟨_,rfl⟩
  have hzl:f.zones[j]? = some z:=by rw[←hz,List.getD,List.getElem?_eq_getElem h2];rfl
  have hnx:=othersTo_next (i:=i) hzl
  conv=>whnf
  refine⟨by omega,?_⟩
  conv=>whnf
  rw[Int.toNat_natCast,hz]
  refine⟨fun h3=>?_,fun h3=>?_⟩
  ·have h3:j≠i:=by
    have h:(j:Int)≠(i:Int):=by simpa using h3
    omega
   rw [if_pos h3] at hnx
   conv=>whnf
   refine⟨by omega,?_⟩
   conv=>whnf
   rw[hw1]
   refine⟨j+1,[0,1,5],h2,by omega,?_⟩
   rw[hnx]
   conv=>whnf
   repeat'(first|exact ⟨⟩|exact rfl|exact subZ_self _|exact Or.inr rfl|exact fun _ _=>rfl|exact fun _ h=>absurd h (Nat.not_lt_zero _)|apply And.intro)
   all_goals first
    |exact places_ren _
    |(show _+1=(_++[_]).length;simp;done)
    |exact strs_cat _ _ _ rfl
  ·have h3:¬ j≠i:=by
    have h:¬ (j:Int)≠(i:Int):=by simpa using h3
    omega
   rw [if_neg h3] at hnx
   conv=>whnf
   rw[hw1]
   refine⟨j+1,[0,1,2],h2,by omega,?_⟩
   rw[hnx]
   conv=>whnf
   repeat'(first|exact ⟨⟩|exact rfl|exact subZ_self _|exact Or.inr rfl|exact fun _ _=>rfl|exact fun _ h=>absurd h (Nat.not_lt_zero _)|apply And.intro)
   all_goals first
    |exact places_ren _
 ·have h2:j=f.zones.length:=by
   have h:¬ (j:Int)<f.zones.length:=of_decide_eq_false h2
   omega
  subst h2
  rw [othersTo_end f.zones hi] at hol ⊢
  generalize hL:othersZ f.zones i=L at hol ⊢
  have hLn:∀ c ∈ L,isName c:=fun c hc=>by
   rw [←hL] at hc
   unfold othersZ at hc
   obtain⟨z,hz,rfl⟩:=List.mem_map.1 hc
   refine hn z ?_
   rcases List.mem_append.1 hz with h|h
   ·exact List.mem_of_mem_take h
   ·exact List.mem_of_mem_drop h
  conv=>whnf
  refine .one (.view _ _ [2] (deepest_ok apex (Nat.beq L.length 0) L (by omega)) ?_ rfl rfl ?_)
  ·conv=>whnf
   exact⟨rfl,rfl⟩
  unfold deepR
  rw[if_pos ha]
  cases hd:deepF apex L none with
  |none =>
   rw[show closeR P apex L=(0,false) by unfold closeR;rw[hd]]
   conv=>whnf
   refine brT rfl ?_
   conv=>whnf
   refine⟨[0],_,[placesB P],rfl,rfl,?_,?_,.ff,rfl,DenTo.ff,rfl⟩
   ·exact rfl
   ·conv=>whnf
    repeat'(first|exact ⟨⟩|exact rfl|exact subZ_self _|exact Or.inr rfl|exact fun _ _=>rfl|exact fun _ h=>absurd h (Nat.not_lt_zero _)|apply And.intro)
    all_goals first
     |exact places_ren _
  |some a =>
   conv=>whnf
   refine brF rfl ?_
   conv=>whnf
   refine .one (.data _ (fold_ok a ?_) rfl rfl ?_)
   ·rcases deepF_mem hd with h|h
    ·have:=(hLn a h).2.1;omega
    ·cases h
   conv=>whnf
   have hf:=find_enc (ev:=intV) strK_eq P (fold a)
   refine⟨_,hf,?_⟩
   cases hg:aget P (fold a) with
   |none =>
    rw[show closeR P apex L=(0,false) by unfold closeR;rw[hd];show(match aget P (fold a) with|none=>(0,false)|some k=>(k,true))=_;rw[hg]]
    conv=>whnf
    refine⟨[0],_,[placesB P],rfl,rfl,?_,?_,.ff,rfl,DenTo.ff,rfl⟩
    ·exact rfl
    ·conv=>whnf
     repeat'(first|exact ⟨⟩|exact rfl|exact subZ_self _|exact Or.inr rfl|exact fun _ _=>rfl|exact fun _ h=>absurd h (Nat.not_lt_zero _)|apply And.intro)
     all_goals first
      |exact places_ren _
   |some k =>
    rw[show closeR P apex L=(k,true) by unfold closeR;rw[hd];show(match aget P (fold a) with|none=>(0,false)|some k=>(k,true))=_;rw[hg]]
    conv=>whnf
    refine⟨[0],_,[placesB P],rfl,rfl,?_,?_,.tt,rfl,DenTo.tt,rfl⟩
    ·exact rfl
    ·conv=>whnf
     repeat'(first|exact ⟨⟩|exact rfl|exact subZ_self _|exact Or.inr rfl|exact fun _ _=>rfl|exact fun _ h=>absurd h (Nat.not_lt_zero _)|apply And.intro)
     all_goals first
      |exact places_ren _
end Go.Proofs.Ytnfoihdifohkeaa
namespace Go.Proofs.Ytnfoihdifohkeaa
open Go Go.Eng
set_option maxRecDepth 100000
def CutI(zs:List Zo)(P:List (List UInt8 × Nat))(a b:Nat):Prop:=∃ c ∈ cutsZ (zs.getD a default),aget P (fold c)=some b
structure HInv(zs:List Zo)(P:List (List UInt8 × Nat))(i:Nat)(L:List (List UInt8))(m:Nat)(C:List ((Nat × Nat) × Nat)):Prop where
 has:∀ a b,(aget C (a,b)).isSome=true↔(a<i∧CutI zs P a b)∨(a=i∧∃ c ∈ L,aget P (fold c)=some b)
 le:∀ k v,aget C k=some v→1≤v∧v≤m
variable{zs:List Zo}{P:List (List UInt8 × Nat)}
theorem HInv.zero:HInv zs P 0 [] 0 []:=⟨fun a b=>⟨fun h=>(by cases h),fun h=>(by rcases h with h|⟨_,c,hc,_⟩;exact absurd h.1 (Nat.not_lt_zero _);cases hc)⟩,fun k v h=>by cases h⟩
theorem HInv.next{i m:Nat}{L:List (List UInt8)}{C:List ((Nat × Nat) × Nat)}(h:HInv zs P i L m C){m':Nat}(hm:m≤m')(hL:L=cutsZ (zs.getD i default)):HInv zs P (i+1) [] m' C:=by
 refine⟨fun a b=>?_,fun k v hv=>?_⟩
 ·rw[h.has]
  constructor
  ·rintro (⟨h1,h2⟩|⟨rfl,c,hc,e⟩)
   ·exact .inl ⟨by omega,h2⟩
   ·exact .inl ⟨Nat.lt_succ_self _,c,hL ▸ hc,e⟩
  ·rintro (⟨h1,h2⟩|⟨_,c,hc,_⟩)
   ·rcases Nat.lt_or_ge a i with h3|h3
    ·exact .inl ⟨h3,h2⟩
    ·have:a=i:=by omega
     subst this
     obtain⟨c,hc,e⟩:=h2
     exact .inr ⟨rfl,c,hL ▸ hc,e⟩
   ·cases hc
 ·have:=h.le k v hv
  omega
theorem HInv.skip{i m:Nat}{L:List (List UInt8)}{C:List ((Nat × Nat) × Nat)}(h:HInv zs P i L m C){c:List UInt8}(hc:aget P (fold c)=none):HInv zs P i (L++[c]) (m+1) C:=by
 refine⟨fun a b=>?_,fun k v hv=>?_⟩
 ·rw[h.has]
  constructor
  ·rintro (h1|⟨rfl,c',hc',e⟩)
   ·exact .inl h1
   ·exact .inr ⟨rfl,c',List.mem_append_left _ hc',e⟩
  ·rintro (h1|⟨rfl,c',hc',e⟩)
   ·exact .inl h1
   ·rcases List.mem_append.1 hc' with h2|h2
    ·exact .inr ⟨rfl,c',h2,e⟩
    ·rw [List.mem_singleton.1 h2,hc] at e
     cases e
 ·have:=h.le k v hv
  omega
theorem HInv.put{i m:Nat}{L:List (List UInt8)}{C:List ((Nat × Nat) × Nat)}(h:HInv zs P i L m C){c:List UInt8}{b:Nat}(hc:aget P (fold c)=some b){v:Nat}(hv:(aget C (i,b)).getD 0=v):HInv zs P i (L++[c]) (m+1) (aput C (i,b) (v+1)):=by
 refine⟨fun a b'=>?_,fun k w hw=>?_⟩
 ·rw[aget_put]
  by_cases hk:(a,b')=(i,b)
  ·rw[if_pos hk]
   obtain⟨rfl,rfl⟩:=Prod.mk.inj hk
   exact⟨fun _=>.inr ⟨rfl,c,by simp,hc⟩,fun _=>rfl⟩
  ·rw[if_neg hk,h.has]
   constructor
   ·rintro (h1|⟨rfl,c',hc',e⟩)
    ·exact .inl h1
    ·exact .inr ⟨rfl,c',List.mem_append_left _ hc',e⟩
   ·rintro (h1|⟨rfl,c',hc',e⟩)
    ·exact .inl h1
    ·rcases List.mem_append.1 hc' with h2|h2
     ·exact .inr ⟨rfl,c',h2,e⟩
     ·rw [List.mem_singleton.1 h2,hc] at e
      simp only [Option.some.injEq] at e
      exact absurd (by rw[e]) hk
 ·rw [aget_put] at hw
  split at hw
  ·simp only [Option.some.injEq] at hw
   subst hw
   cases hg:aget C (i,b) with
   |none=>rw [hg] at hv;simp at hv;omega
   |some x =>
    rw [hg] at hv
    simp at hv
    have:=h.le _ _ hg
    omega
  ·have:=h.le k w hw
   omega
theorem close_lt{n:Nat}(hP:∀ k v,aget P k=some v→v<n)(apex:List UInt8)(L:List (List UInt8)):(closeR P apex L).2=true→(closeR P apex L).1<n:=by
 unfold closeR
 cases deepF apex L none with
 |none=>exact fun h=>by cases h
 |some a =>
  show(match aget P (fold a) with|none=>(0,false)|some k=>(k,true)).2=true→(match aget P (fold a) with|none=>(0,false)|some k=>(k,true)).1<n
  cases hg:aget P (fold a) with
  |none=>exact fun h=>by cases h
  |some k=>exact fun _=>hP _ _ hg
theorem closest_ok(f:Fo)(hl:f.zones.length≤64)(i:Nat)(hi:i<f.zones.length)(apex:List UInt8)(ha:isName apex)(P:List (List UInt8 × Nat))(hn:∀ z ∈ f.zones,isName z.apex) :
 COk Try.prog 54 [f.V,iV i,.d (.str apex),.map 0] [placesB P] (fun s k=>s = .tup [iV (closeR P apex (othersZ f.zones i)).1,.d (.bool (closeR P apex (othersZ f.zones i)).2)]∧k=[placesB P]) :=
 COk.resD (closest_raw f hl i hi apex ha P hn) fun _ _ ⟨_,h1,h2,h3⟩=>⟨_,h1 ▸ DenTo.tup ⟨DenTo.refl _,h2,trivial⟩,rfl,h3⟩
def hangI(zs:List Zo)(P:List (List UInt8 × Nat))(i:Nat):Bool:=i == 0 || ((closeR P (zs.getD i default).apex (othersZ zs i)).2 && (cutsZ (zs.getD (closeR P (zs.getD i default).apex (othersZ zs i)).1 default)).any fun c=>decide (aget P (fold c)=some i))
def hangR(zs:List Zo)(P:List (List UInt8 × Nat)):Bool:=(List.range zs.length).all (hangI zs P)
theorem hang_bad{i:Nat}(hi:i<zs.length)(h:hangI zs P i=false):hangR zs P=false:=by
 unfold hangR
 rw[List.all_eq_false]
 exact⟨i,List.mem_range.2 hi,by rw[h];decide⟩
set_option maxHeartbeats 16000000 in
theorem hang_ok(f:Fo)(hf:f.Fit)(hl:f.zones.length≤64)(P:List (List UInt8 × Nat))(hz:∀ z ∈ f.zones,z.ok=true)(hP:∀ k v,aget P k=some v→v<f.zones.length) :
 COk Try.prog 35 [f.V,.map 0] [placesB P] (fun s k=>s = .d (.bool (hangR f.zones P))∧k=[placesB P]):=by
 refine cOk_of_run (TT:=TT) (IN:=lookI []) TT_ok INok_nil mixed 1000 Try.func35 rfl (enters Try.func35 (by kernel_rfl) rfl) 78 (by kernel_rfl) ?_
 conv=>whnf
 refine .inv (Nat × List ((Nat × Nat) × Nat)) (fun s=>s.1≤f.zones.length∧HInv f.zones P s.1 [] (s.1 * 256) s.2) (fun s=>[(20,iV s.1)]) (fun s=>[(2,pairsB s.2)]) (fun s=>f.zones.length - s.1) ⟨(0,[]),[0,1,2],⟨Nat.zero_le _,HInv.zero⟩,?_⟩ ?_
 ·conv=>whnf
  repeat'(first|exact ⟨⟩|exact rfl|exact subZ_self _|exact Or.inr rfl|exact fun _ _=>rfl|exact fun _ h=>absurd h (Nat.not_lt_zero _)|apply And.intro)
  all_goals first
   |exact places_ren _
 intro s hs
 obtain⟨hi,hI⟩:=hs
 conv=>whnf
 generalize s.1=i at hi hI ⊢
 generalize s.2=C at hI ⊢
 refine⟨fun h2=>?_,fun h2=>?_⟩
 ·have h2:i<f.zones.length:=by
   have h:(i:Int)<f.zones.length:=of_decide_eq_true h2
   omega
  have hw1:IntKind.i64.wrap ((i:Int)+1)=((i+1:Nat):Int):=by rw[w64_in _ (by omega)];omega
  obtain⟨z,hzd⟩:∃ z,f.zones.getD i default=z:=⟨_,rfl⟩
  have hzl:f.zones[i]? = some z:=by rw[←hzd,List.getD,List.getElem?_eq_getElem h2];rfl
  have hzm:=List.mem_of_getElem? hzl
  conv=>whnf
  refine⟨by omega,?_⟩
  conv=>whnf
  rw[Int.toNat_natCast,hzd]
  refine .one (.data _ (zcuts_ok z (hf z hzm).2) rfl rfl ?_)
  have hLl:(cutsZ z).length≤256:=by
   unfold cutsZ
   split
   ·rename_i hok
    have h1:=sortN_len z.cutL
    have h2:z.cutL.length≤z.rrs.length:=by unfold Zo.cutL;rw[List.length_map];exact List.length_filter_le _ _
    have h3:=z.ok_len hok
    omega
   ·exact Nat.zero_le _
  have hLn:∀ c ∈ cutsZ z,isName c:=fun c hc=>by
   unfold cutsZ at hc
   split at hc
   ·exact(sortN_mem hc).2
   ·cases hc
  have hLz:cutsZ z=cutsZ (f.zones.getD i default):=by rw[hzd]
  generalize cutsZ z=L at hLl hLn hLz ⊢
  conv=>whnf
  refine .inv (Nat × List ((Nat × Nat) × Nat)) (fun s=>s.1≤L.length∧HInv f.zones P i (L.take s.1) (i * 256+s.1) s.2) (fun s=>[(28,iV s.1)]) (fun s=>[(2,pairsB s.2)]) (fun s=>L.length - s.1) ⟨(0,C),[0,1,2,3],⟨Nat.zero_le _,hI⟩,?_⟩ ?_
  ·conv=>whnf
   repeat'(first|exact ⟨⟩|exact rfl|exact subZ_self _|exact Or.inr rfl|exact fun _ _=>rfl|exact fun _ h=>absurd h (Nat.not_lt_zero _)|apply And.intro)
   all_goals first
    |exact places_ren _
    |exact pairs_ren _
  clear hI
  intro s hs
  obtain⟨hj,hI⟩:=hs
  conv=>whnf
  generalize s.1=j at hj hI ⊢
  generalize s.2=D at hI ⊢
  refine⟨fun h3=>?_,fun h3=>?_⟩
  ·have h3:j<L.length:=by
    have h:(j:Int)<L.length:=of_decide_eq_true h3
    omega
   have hwj:IntKind.i64.wrap ((j:Int)+1)=((j+1:Nat):Int):=by rw[w64_in _ (by omega)];omega
   have hli:L[j]? = some (L[j]?.getD []):=by rw[List.getElem?_eq_getElem h3];rfl
   conv=>whnf
   refine⟨by omega,?_⟩
   conv=>whnf
   rw[Int.toNat_natCast]
   generalize L[j]?.getD []=c at hli ⊢
   have hcn:=hLn c (List.mem_of_getElem? hli)
   have htk:L.take (j+1)=L.take j++[c]:=by rw[List.take_add_one,hli];rfl
   refine .one (.data _ (fold_ok c (by have:=hcn.2.1;omega)) rfl rfl ?_)
   conv=>whnf
   have hfc:=find_enc (ev:=intV) strK_eq P (fold c)
   refine⟨_,hfc,?_⟩
   cases hg:aget P (fold c) with
   |none =>
    conv=>whnf
    rw[hwj]
    refine⟨(j+1,D),[0,1,2,3],⟨h3,by rw[htk];exact hI.skip hg⟩,by show _ - (j+1)<_;omega,?_⟩
    conv=>whnf
    repeat'(first|exact ⟨⟩|exact rfl|exact subZ_self _|exact Or.inr rfl|exact fun _ _=>rfl|exact fun _ h=>absurd h (Nat.not_lt_zero _)|apply And.intro)
    all_goals first
     |exact places_ren _
     |exact pairs_ren _
   |some b =>
    conv=>whnf
    obtain⟨l1,q,ho1,ho2,ho3⟩:=opn_enc (ev:=intV) pairK_eq (i,b) [SV.d (.int .i64 0)] D
    have hfs:=find_enc (ev:=intV) pairK_eq D (i,b)
    cases hgc:aget D (i,b) with
    |none =>
     rw [hgc] at hfs ho1 ho2
     have hput:putQ l1 q [SV.d (.int .i64 1)]=aenc pairK intV (aput D (i,b) 1):=ho3 1
     have hnext:=hI.put hg (v:=0) (by rw[hgc];rfl)
     apply Exists.intro
     refine⟨?_,?_⟩
     ·conv=>whnf
      repeat'(first|exact ⟨⟩|exact⟨rfl,rfl⟩|refine⟨_,hfs,?_⟩|refine⟨_,ho2,?_⟩|refine⟨_,_,_,ho1,?_⟩|intro s|refine⟨rfl,_,hput,?_⟩|apply And.intro|(conv=>whnf))
     conv=>whnf
     rw[hwj]
     refine⟨(j+1,aput D (i,b) 1),[0,1,2,3],⟨h3,by rw[htk];exact hnext⟩,by show _ - (j+1)<_;omega,?_⟩
     conv=>whnf
     repeat'(first|exact ⟨⟩|exact rfl|exact subZ_self _|exact Or.inr rfl|exact fun _ _=>rfl|exact fun _ h=>absurd h (Nat.not_lt_zero _)|apply And.intro)
     all_goals first
      |exact places_ren _
      |exact pairs_ren _
    |some v =>
     rw [hgc] at hfs ho1 ho2
     have hvb:=hI.le _ _ hgc
     have hwv:IntKind.i64.wrap ((v:Int)+1)=((v+1:Nat):Int):=by rw[w64_in _ (by omega)];omega
     have hput:putQ l1 q [SV.d (.int .i64 (IntKind.i64.wrap ((v:Int)+1)))]=aenc pairK intV (aput D (i,b) (v+1)):=by rw[hwv];exact ho3 (v+1)
     have hnext:=hI.put hg (v:=v) (by rw[hgc];rfl)
     apply Exists.intro
     refine⟨?_,?_⟩
     ·conv=>whnf
      repeat'(first|exact ⟨⟩|exact⟨rfl,rfl⟩|refine⟨_,hfs,?_⟩|refine⟨_,ho2,?_⟩|refine⟨_,_,_,ho1,?_⟩|intro s|refine⟨rfl,_,hput,?_⟩|apply And.intro|(conv=>whnf))
     conv=>whnf
     rw[hwj]
     refine⟨(j+1,aput D (i,b) (v+1)),[0,1,2,3],⟨h3,by rw[htk];exact hnext⟩,by show _ - (j+1)<_;omega,?_⟩
     conv=>whnf
     repeat'(first|exact ⟨⟩|exact rfl|exact subZ_self _|exact Or.inr rfl|exact fun _ _=>rfl|exact fun _ h=>absurd h (Nat.not_lt_zero _)|apply And.intro)
     all_goals first
      |exact places_ren _
      |exact pairs_ren _
  ·have h3:j=L.length:=by
    have h:¬ (j:Int)<L.length:=of_decide_eq_false h3
    omega
   subst h3
   rw [List.take_length] at hI
   conv=>whnf
   rw[hw1]
   refine⟨(i+1,D),[0,1,2],⟨h2,hI.next (by omega) hLz⟩,by show _ - (i+1)<_;omega,?_⟩
   conv=>whnf
   repeat'(first|exact ⟨⟩|exact rfl|exact subZ_self _|exact Or.inr rfl|exact fun _ _=>rfl|exact fun _ h=>absurd h (Nat.not_lt_zero _)|apply And.intro)
   all_goals first
    |exact places_ren _
    |exact pairs_ren _
 ·have h2:i=f.zones.length:=by
   have h:¬ (i:Int)<f.zones.length:=of_decide_eq_false h2
   omega
  subst h2
  conv=>whnf
  refine .inv Nat (fun i=>i≤f.zones.length∧∀ k,k<i→hangI f.zones P k=true) (fun i=>[(53,iV i)]) (fun i=>[]) (fun i=>f.zones.length - i) ⟨0,[0,1,2],⟨Nat.zero_le _,fun k hk=>absurd hk (Nat.not_lt_zero _)⟩,?_⟩ ?_
  ·conv=>whnf
   repeat'(first|exact ⟨⟩|exact rfl|exact subZ_self _|exact Or.inr rfl|exact fun _ _=>rfl|exact fun _ h=>absurd h (Nat.not_lt_zero _)|apply And.intro)
   all_goals first
    |exact places_ren _
    |exact pairs_ren _
  intro i hs
  obtain⟨hi,hs⟩:=hs
  conv=>whnf
  refine⟨fun h2=>?_,fun h2=>?_⟩
  ·have h2:i<f.zones.length:=by
    have h:(i:Int)<f.zones.length:=of_decide_eq_true h2
    omega
   have hw1:IntKind.i64.wrap ((i:Int)+1)=((i+1:Nat):Int):=by rw[w64_in _ (by omega)];omega
   obtain⟨z,hzd⟩:∃ z,f.zones.getD i default=z:=⟨_,rfl⟩
   have hzl:f.zones[i]? = some z:=by rw[←hzd,List.getD,List.getElem?_eq_getElem h2];rfl
   have hzm:=List.mem_of_getElem? hzl
   have hnext:hangI f.zones P i=true→∀ k,k<i+1→hangI f.zones P k=true:=fun h k hk=>by
    by_cases e:k=i
    ·subst e;exact h
    ·exact hs k (by omega)
   conv=>whnf
   refine⟨by omega,?_⟩
   conv=>whnf
   rw[Int.toNat_natCast,hzd]
   refine⟨fun h3=>?_,fun h3=>?_⟩
   ·have h3:i=0:=by
     have h:(i:Int)=0:=by simpa using h3
     omega
    conv=>whnf
    rw[hw1]
    refine⟨i+1,[0,1,2],⟨h2,hnext (by subst h3;rfl)⟩,by omega,?_⟩
    conv=>whnf
    repeat'(first|exact ⟨⟩|exact rfl|exact subZ_self _|exact Or.inr rfl|exact fun _ _=>rfl|exact fun _ h=>absurd h (Nat.not_lt_zero _)|apply And.intro)
    all_goals first
     |exact places_ren _
     |exact pairs_ren _
   ·have h3:i≠0:=by
     have h:¬ (i:Int)=0:=by simpa using h3
     omega
    have hh:hangI f.zones P i=((closeR P z.apex (othersZ f.zones i)).2 && (cutsZ (f.zones.getD (closeR P z.apex (othersZ f.zones i)).1 default)).any fun c=>decide (aget P (fold c)=some i)):=by
     unfold hangI
     rw[hzd,show(i == 0)=false by simpa using h3,Bool.false_or]
    conv=>whnf
    refine .rel _ (COk.frameX (closest_ok f hl i h2 z.apex (Zo.ok_name (hz z hzm)) P (fun z hz'=>Zo.ok_name (hz z hz'))) [0] rfl rfl (by show[placesB P]=[mapK _ (placesB P)];rw[places_map])) (fun x ks' hR=>?_)
    obtain⟨s0,k0,⟨rfl,rfl⟩,rfl,rfl⟩:=hR
    have hcl:=close_lt hP z.apex (othersZ f.zones i)
    generalize closeR P z.apex (othersZ f.zones i)=r at hh hcl ⊢
    obtain⟨a,b⟩:=r
    rw[show mapB (sig [0] _) [placesB P]=[placesB P] from congrArg (fun x=>[x]) (places_map P)]
    have hhas:=hI.has a i
    cases b with
    |false =>
     conv=>whnf
     refine brT rfl ?_
     conv=>whnf
     rw[hang_bad h2 (hh.trans rfl)]
     refine⟨[0],_,[placesB P],rfl,rfl,?_,?_,rfl,rfl⟩
     ·exact rfl
     ·conv=>whnf
      repeat'(first|exact ⟨⟩|exact rfl|exact subZ_self _|exact Or.inr rfl|exact fun _ _=>rfl|exact fun _ h=>absurd h (Nat.not_lt_zero _)|apply And.intro)
      all_goals first
       |exact places_ren _
    |true =>
     have hcl:a<f.zones.length:=hcl rfl
     conv=>whnf
     refine brF rfl ?_
     conv=>whnf
     have hfs:=find_enc (ev:=intV) pairK_eq C (a,i)
     refine⟨_,hfs,?_⟩
     cases hgc:aget C (a,i) with
     |none =>
      have hb:hangI f.zones P i=false:=by
       rw[hh]
       show((cutsZ (f.zones.getD a default)).any fun c=>decide (aget P (fold c)=some i))=false
       rw[List.any_eq_false]
       intro c hc hd
       have:=hhas.2 (.inl ⟨hcl,c,hc,by simpa using hd⟩)
       rw [hgc] at this
       cases this
      conv=>whnf
      refine brT rfl ?_
      conv=>whnf
      rw[hang_bad h2 hb]
      refine⟨[0],_,[placesB P],rfl,rfl,?_,?_,rfl,rfl⟩
      ·exact rfl
      ·conv=>whnf
       repeat'(first|exact ⟨⟩|exact rfl|exact subZ_self _|exact Or.inr rfl|exact fun _ _=>rfl|exact fun _ h=>absurd h (Nat.not_lt_zero _)|apply And.intro)
       all_goals first
        |exact places_ren _
     |some v =>
      have hb:hangI f.zones P i=true:=by
       rw[hh]
       show((cutsZ (f.zones.getD a default)).any fun c=>decide (aget P (fold c)=some i))=true
       rcases hhas.1 (by rw[hgc];rfl) with⟨_,c,hc,e⟩|⟨_,c,hc,_⟩
       ·exact List.any_eq_true.2 ⟨c,hc,by simpa using e⟩
       ·cases hc
      have hv1:=(hI.le _ _ hgc).1
      conv=>whnf
      refine brF (by rw[beq_eq_false_iff_ne];omega) ?_
      conv=>whnf
      rw[hw1]
      refine⟨i+1,[0,1,2],⟨h2,hnext hb⟩,by omega,?_⟩
      conv=>whnf
      repeat'(first|exact ⟨⟩|exact rfl|exact subZ_self _|exact Or.inr rfl|exact fun _ _=>rfl|exact fun _ h=>absurd h (Nat.not_lt_zero _)|apply And.intro)
      all_goals first
       |exact places_ren _
       |exact pairs_ren _
  ·have h2:i=f.zones.length:=by
    have h:¬ (i:Int)<f.zones.length:=of_decide_eq_false h2
    omega
   have hb:hangR f.zones P=true:=by
    unfold hangR
    rw[List.all_eq_true]
    intro k hk
    exact hs k (by rw[h2];exact List.mem_range.1 hk)
   conv=>whnf
   rw[hb]
   refine⟨[0],_,[placesB P],rfl,rfl,?_,?_,rfl,rfl⟩
   ·exact rfl
   ·conv=>whnf
    repeat'(first|exact ⟨⟩|exact rfl|exact subZ_self _|exact Or.inr rfl|exact fun _ _=>rfl|exact fun _ h=>absurd h (Nat.not_lt_zero _)|apply And.intro)
    all_goals first
     |exact places_ren _
end Go.Proofs.Ytnfoihdifohkeaa
namespace Go.Proofs.Ytnfoihdifohkeaa
open Go Go.Eng
set_option maxRecDepth 100000
def addrK(a:Int):List DV:=[.int .u32 a]
theorem addrK_eq(a b:Int):keyEq (addrK a) (addrK b)=decide (a=b):=by
 rw[Bool.eq_iff_iff]
 simp[addrK,keyEq,dEq,kEq]
def addrL(l:List (Int × Bool × List Int)):List (Int × Nat):=l.map fun h=>(h.1,1)
def addrsB(S:List (Int × Nat)):KB:=.map [.int .u32] false false (aenc addrK intV S)
theorem addrs_ren{ρ:List Nat}(C:List (Int × Nat)):renM ρ (aenc addrK intV C)=aenc addrK intV C:=aenc_ren (fun _=>rfl) C
theorem addr_get(l:List (Int × Bool × List Int))(a:Int):aget (addrL l) a=if l.any (fun h=>h.1 == a) then some 1 else none:=by
 induction l with
 |nil=>rfl
 |cons r l ih =>
  show(if a=r.1 then some 1 else aget (addrL l) a)=_
  rw[ih,List.any_cons]
  by_cases h:a=r.1
  ·subst h;simp
  ·have h':(r.1 == a)=false:=by simpa using fun e=>h e.symm
   rw[if_neg h,h',Bool.false_or]
theorem onceI_snoc(l:List Int)(a:Int):onceI (l++[a])=(onceI l && !l.contains a):=by
 induction l with
 |nil=>simp[onceI]
 |cons x l ih =>
  show(!(l++[a]).contains x && onceI (l++[a]))=((!l.contains x && onceI l) && !(x :: l).contains a)
  rw[ih,Bool.eq_iff_iff]
  simp only[List.contains_append,List.contains_cons,List.contains_nil,Bool.or_false,Bool.not_or,Bool.and_eq_true,Bool.not_eq_true',beq_eq_false_iff_ne]
  constructor
  ·rintro ⟨⟨h1,h2⟩,h3,h4⟩;exact⟨⟨h1,h3⟩,fun e=>h2 e.symm,h4⟩
  ·rintro ⟨⟨h1,h3⟩,h2,h4⟩;exact⟨⟨h1,fun e=>h2 e.symm⟩,h3,h4⟩
def goodAt(n:Nat)(a:Int):Bool:=decide (0≤a) && decide (a<(n:Int))
theorem housed_snoc(n:Nat)(l:List (Int × Bool × List Int))(h:Int × Bool × List Int):housedF n (l++[h])=(housedF n l && (!l.any (fun x=>x.1 == h.1) && h.2.2.all (goodAt n))):=by
 unfold housedF
 rw[List.map_append,List.map_cons,List.map_nil,onceI_snoc,List.all_append,List.all_cons,List.all_nil,Bool.and_true]
 have e:(l.map (·.1)).contains h.1=l.any (fun x=>x.1 == h.1):=by
  rw[Bool.eq_iff_iff,List.contains_iff_mem,List.any_eq_true]
  constructor
  ·intro hm
   obtain⟨x,hx,e⟩:=List.mem_map.1 hm
   exact⟨x,hx,by simpa using e⟩
  ·rintro ⟨x,hx,e⟩
   exact List.mem_map.2 ⟨x,hx,by simpa using e⟩
 rw[e]
 show _=_
 unfold goodAt
 cases onceI (l.map (·.1)) <;> cases (l.any fun x=>x.1 == h.1) <;> cases (l.all fun h=>h.2.2.all fun at_=>decide (0≤at_) && decide (at_<(n:Int))) <;> rfl
theorem housed_mono(n:Nat)(l m:List (Int × Bool × List Int))(h:housedF n l=false):housedF n (l++m)=false:=by
 refine snoc_ind (P:=fun m=>housedF n (l++m)=false) (by rwa [List.append_nil]) (fun m r ih=>?_) m
 rw[←List.append_assoc,housed_snoc,ih]
 rfl
theorem housed_bad{n:Nat}{l:List (Int × Bool × List Int)}{i:Nat}(h:housedF n (l.take i)=false):housedF n l=false:=by
 rw[←List.take_append_drop i l]
 exact housed_mono n _ _ h
theorem allG_next{n:Nat}{l:List Int}{j:Nat}{a:Int}(h:l[j]? = some a):(l.take (j+1)).all (goodAt n)=((l.take j).all (goodAt n) && goodAt n a):=by
 rw[List.take_add_one,h,List.all_append]
 simp
theorem allG_bad{n:Nat}{l:List Int}{j:Nat}(h:(l.take j).all (goodAt n)=false):l.all (goodAt n)=false:=by
 rw [List.all_eq_false] at h ⊢
 obtain⟨x,hx,e⟩:=h
 exact⟨x,List.mem_of_mem_take hx,e⟩
set_option maxHeartbeats 16000000 in
theorem housed_ok(f:Fo)(hh:f.hosts.length≤64)(hl:∀ h ∈ f.hosts,h.2.2.length≤9223372036854775807):FnOk Try.prog 36 [f.V] (.d (.bool (housedF f.zones.length f.hosts))):=by
 refine fnOk_of_run (TT:=TT) (IN:=lookI [(56,Try.f56,2),(77,Try.f77,2),(55,Try.f55,2)]) TT_ok (INok_cons (INok_cons (INok_cons INok_nil Try.func55 (by kernel_rfl) (by kernel_rfl)) Try.func77 (by kernel_rfl) (by kernel_rfl)) Try.func56 (by kernel_rfl) (by kernel_rfl)) mixed 1000 Try.func36 rfl (enters Try.func36 (by kernel_rfl) rfl) rfl 32 (by kernel_rfl) ?_
 conv=>whnf
 refine .inv Nat (fun i=>i≤f.hosts.length∧housedF f.zones.length (f.hosts.take i)=true) (fun i=>[(12,iV i)]) (fun i=>[(1,addrsB (addrL (f.hosts.take i)))]) (fun i=>f.hosts.length - i) ⟨0,[0,1],⟨Nat.zero_le _,rfl⟩,?_⟩ ?_
 ·conv=>whnf
  repeat'(first|exact ⟨⟩|exact rfl|exact subZ_self _|exact Or.inr rfl|exact fun _ _=>rfl|exact fun _ h=>absurd h (Nat.not_lt_zero _)|apply And.intro)
 intro i hi
 obtain⟨hi,hti⟩:=hi
 conv=>whnf
 refine⟨fun h2=>?_,fun h2=>?_⟩
 ·have h2:i<f.hosts.length:=by
   have h:(i:Int)<f.hosts.length:=of_decide_eq_true h2
   omega
  have hw1:IntKind.i64.wrap ((i:Int)+1)=((i+1:Nat):Int):=by rw[w64_in _ (by omega)];omega
  obtain⟨h,hhd⟩:∃ h,f.hosts.getD i default=h:=⟨_,rfl⟩
  have hhl:f.hosts[i]? = some h:=by rw[←hhd,List.getD,List.getElem?_eq_getElem h2];rfl
  have hlz:=hl h (List.mem_of_getElem? hhl)
  have htk:f.hosts.take (i+1)=f.hosts.take i++[h]:=by rw[List.take_add_one,hhl];rfl
  have hsn:=housed_snoc f.zones.length (f.hosts.take i) h
  rw [hti,Bool.true_and] at hsn
  conv=>whnf
  refine⟨by omega,?_⟩
  conv=>whnf
  rw[Int.toNat_natCast,hhd]
  have hfs:=find_enc (ev:=intV) addrK_eq (addrL (f.hosts.take i)) h.1
  have hga:=addr_get (f.hosts.take i) h.1
  refine⟨_,hfs,?_⟩
  cases hany:(f.hosts.take i).any (fun x=>x.1 == h.1) with
  |true =>
   rw [hany] at hga hsn
   rw[hga]
   conv=>whnf
   refine brT rfl ?_
   conv=>whnf
   rw[housed_bad (i:=i+1) (by rw[htk,hsn];rfl)]
  |false =>
   rw [hany] at hga hsn
   rw[hga]
   conv=>whnf
   refine brF rfl ?_
   conv=>whnf
   have hsn:housedF f.zones.length (f.hosts.take (i+1))=h.2.2.all (goodAt f.zones.length):=by rw[htk,hsn];rfl
   have hput:putM (aenc addrK intV (addrL (f.hosts.take i))) [.int .u32 h.1] [.d (.int .i64 1)]=aenc addrK intV (addrL (f.hosts.take (i+1))):=by
    have h1:=put_enc (ev:=intV) addrK_eq (addrL (f.hosts.take i)) h.1 1
    rw [aput_new hga,] at h1
    rw[htk]
    unfold addrL at h1 ⊢
    rw[List.map_append]
    exact h1
   generalize hm:h.2.2=m at hlz hsn ⊢
   refine .inv Nat (fun j=>j≤m.length∧(m.take j).all (goodAt f.zones.length)=true) (fun j=>[(8,iV j)]) (fun j=>[]) (fun j=>m.length - j) ⟨0,[0,1,2],⟨Nat.zero_le _,rfl⟩,?_⟩ ?_
   ·conv=>whnf
    repeat'(first|exact ⟨⟩|exact rfl|exact subZ_self _|exact Or.inr rfl|exact fun _ _=>rfl|exact fun _ h=>absurd h (Nat.not_lt_zero _)|apply And.intro)
    all_goals first
     |exact addrs_ren _
   intro j hj
   obtain⟨hj,htj⟩:=hj
   conv=>whnf
   refine⟨fun h3=>?_,fun h3=>?_⟩
   ·have h3:j<m.length:=by
     have h:(j:Int)<m.length:=of_decide_eq_true h3
     omega
    have hwj:IntKind.i64.wrap ((j:Int)+1)=((j+1:Nat):Int):=by rw[w64_in _ (by omega)];omega
    have hmj:m[j]? = some (m.getD j 0):=by rw[List.getD,List.getElem?_eq_getElem h3];rfl
    have hnx:=allG_next (n:=f.zones.length) hmj
    rw [htj,Bool.true_and] at hnx
    conv=>whnf
    refine⟨by omega,?_⟩
    conv=>whnf
    rw[Int.toNat_natCast]
    generalize m.getD j 0=a at hmj hnx ⊢
    refine⟨fun h4=>?_,fun h4=>?_⟩
    ·have h4:a<0:=of_decide_eq_true h4
     have hg:goodAt f.zones.length a=false:=by unfold goodAt;rw[decide_eq_false (by omega:¬ 0≤a)];rfl
     have hb:housedF f.zones.length f.hosts=false:=housed_bad (i:=i+1) (by rw[hsn];exact allG_bad (j:=j+1) (by rw[hnx,hg]))
     conv=>whnf
     refine brT (decide_eq_true (by omega)) ?_
     conv=>whnf
     rw[hb]
    ·have h4:¬ a<0:=of_decide_eq_false h4
     conv=>whnf
     refine⟨fun h5=>?_,fun h5=>?_⟩
     ·have h5:a ≥ (f.zones.length:Int):=of_decide_eq_true h5
      have hg:goodAt f.zones.length a=false:=by unfold goodAt;rw[decide_eq_false (by omega:¬ a<(f.zones.length:Int)),Bool.and_false]
      have hb:housedF f.zones.length f.hosts=false:=housed_bad (i:=i+1) (by rw[hsn];exact allG_bad (j:=j+1) (by rw[hnx,hg]))
      conv=>whnf
      refine brT (decide_eq_true (by omega)) ?_
      conv=>whnf
      rw[hb]
     ·have h5:¬ a ≥ (f.zones.length:Int):=of_decide_eq_false h5
      have hg:goodAt f.zones.length a=true:=by unfold goodAt;rw[decide_eq_true (by omega:0≤a),decide_eq_true (by omega:a<(f.zones.length:Int))];rfl
      conv=>whnf
      rw[hwj]
      refine⟨j+1,[0,1,2],⟨h3,by rw[hnx,hg]⟩,by omega,?_⟩
      conv=>whnf
      repeat'(first|exact ⟨⟩|exact rfl|exact subZ_self _|exact Or.inr rfl|exact fun _ _=>rfl|exact fun _ h=>absurd h (Nat.not_lt_zero _)|apply And.intro)
      all_goals first
       |exact addrs_ren _
   ·have h3:j=m.length:=by
     have h:¬ (j:Int)<m.length:=of_decide_eq_false h3
     omega
    subst h3
    rw [List.take_length] at htj
    rw [htj] at hsn
    conv=>whnf
    refine brF rfl ?_
    conv=>whnf
    refine⟨_,hfs,?_⟩
    rw[hga]
    conv=>whnf
    refine⟨_,hput,?_⟩
    conv=>whnf
    rw[hw1]
    refine⟨i+1,[0,1],⟨h2,hsn⟩,by omega,?_⟩
    conv=>whnf
    repeat'(first|exact ⟨⟩|exact rfl|exact subZ_self _|exact Or.inr rfl|exact fun _ _=>rfl|exact fun _ h=>absurd h (Nat.not_lt_zero _)|apply And.intro)
    all_goals first
     |exact addrs_ren _
 ·have h2:i=f.hosts.length:=by
   have h:¬ (i:Int)<f.hosts.length:=of_decide_eq_false h2
   omega
  subst h2
  rw [List.take_length] at hti
  conv=>whnf
  rw[hti]
end Go.Proofs.Ytnfoihdifohkeaa
namespace Go.Proofs.Ytnfoihdifohkeaa
open Go Go.Eng
set_option maxRecDepth 100000
theorem within_suf{n z:List UInt8}:withinN n z=true↔isName n∧isName z∧fl z <:+ fl n:=by
 unfold withinN
 simp only[Bool.and_eq_true,decide_eq_true_eq,List.isSuffixOf_iff_suffix]
theorem within_trans{a b c:List UInt8}(h:withinN a b=true)(k:withinN b c=true):withinN a c=true:=by
 obtain⟨h1,h2,h3⟩:=within_suf.1 h
 obtain⟨k1,k2,k3⟩:=within_suf.1 k
 exact within_suf.2 ⟨h1,k2,k3.trans h3⟩
theorem countN_fl{n:List UInt8}(h:isName n):countN n=(fl n).length:=by
 unfold countN fl
 rw[if_pos h,List.length_map]
theorem within_cmp{n a b:List UInt8}(ha:withinN n a=true)(hb:withinN n b=true)(hc:countN a≤countN b):withinN b a=true:=by
 obtain⟨h1,h2,h3⟩:=within_suf.1 ha
 obtain⟨k1,k2,k3⟩:=within_suf.1 hb
 exact within_suf.2 ⟨k2,h2,List.suffix_of_suffix_length_le h3 k3 (by rw[←countN_fl h2,←countN_fl k2];exact hc)⟩
theorem count_eq{a b:List UInt8}(ha:isName a)(hb:isName b)(h:fold a=fold b):countN a=countN b:=by
 rw[←countN_fold ha,←countN_fold hb,h]
theorem count_zero:countN [0]=0:=by decide
theorem Zo.cutL_spec{z:Zo}(hz:z.ok=true){c:List UInt8}(h:c ∈ z.cutL):∃ r ∈ z.rrs,r.nm=c∧r.ty=2∧withinN c z.apex=true∧sameN c z.apex=false∧isName c∧takeZ z.apex r=true:=by
 unfold Zo.cutL at h
 obtain⟨r,hr,rfl⟩:=List.mem_map.1 h
 obtain⟨hr,hp⟩:=List.mem_filter.1 hr
 have ht:=z.ok_take hz hr
 have ht':=ht
 unfold takeZ at ht'
 simp only [Bool.and_eq_true] at ht' hp
 exact⟨r,hr,rfl,by simpa[isNs] using hp.1,ht'.2.2.2.2,by simpa using hp.2,(within_name ht'.2.2.2.2).1,ht⟩
structure Good(zs:List Zo):Prop where
 zok:∀ z ∈ zs,z.ok=true
 un:∀ (i j:Nat) (a b:Zo),zs[i]? = some a→zs[j]? = some b→fold a.apex=fold b.apex→i=j
 root:∀ z,zs[0]? = some z→fold z.apex=[0]
 hang:∀ (i:Nat) (z:Zo),zs[i]? = some z→i≠0→∃ (a:Nat) (za:Zo) (c:List UInt8),zs[a]? = some za∧a≠i∧c ∈ za.cutL∧fold c=fold z.apex∧withinN z.apex za.apex=true ∧
  ∀ (j:Nat) (zj:Zo),j≠i→zs[j]? = some zj→withinN z.apex zj.apex=true→countN zj.apex≤countN za.apex
theorem fold_root{n:List UInt8}(h:fold n=[0]):countN n=0∨¬ isName n:=by
 by_cases hn:isName n
 ·left
  rw[←countN_fold hn,h]
  exact count_zero
 ·exact .inr hn
theorem count_root{n:List UInt8}(hn:isName n)(h:countN n=0):fold n=[0]:=by
 rw [countN_fl hn] at h
 rw[fold_fl hn,List.eq_nil_of_length_eq_zero h]
 rfl
theorem Good.covers{zs:List Zo}(g:Good zs){name:List UInt8}{i:Nat}{zi:Zo}(hi:zs[i]? = some zi)(wi:withinN name zi.apex=true):∀ (k j:Nat) (zj:Zo),zs[j]? = some zj→i≠j→withinN name zj.apex=true→countN zi.apex≤countN zj.apex→countN zj.apex<k →
 ∃ c ∈ zi.cutL,withinN name c=true∧∃ (m:Nat) (zm:Zo),zs[m]? = some zm∧fold zm.apex=fold c
 |0,j,zj,_,_,_,_,hk=>by omega
 |k+1,j,zj,hj,hij,wj,hc,hk=>by
  have hni:=(within_name wi).2
  have hnj:=(within_name wj).2
  have hj0:j≠0:=fun e=>by
   subst e
   have h1:=g.root zj hj
   have h2:countN zj.apex=0:=(fold_root h1).resolve_right (fun e=>e hnj)
   have h3:=count_root hni (by omega)
   exact hij (g.un i 0 zi zj hi hj (by rw[h1,h3]))
  obtain⟨a,za,c,ha,haj,hca,hcf,wa,hmax⟩:=g.hang j zj hj hj0
  have hzam:=g.zok za (List.mem_of_getElem? ha)
  obtain⟨r,_,_,_,wc,sc,nc,_⟩:=za.cutL_spec hzam hca
  have wnc:withinN name c=true:=within_of_fold nc hcf wj
  by_cases hai:i=a
  ·subst hai
   rw [hi] at ha
   cases ha
   exact⟨c,hca,wnc,j,zj,hj,hcf.symm⟩
  ·have w1:=within_cmp wi wj hc
   have h1:=hmax i zi hij hi w1
   have hlt:countN za.apex<countN zj.apex:=by
    rw[←count_eq nc hnj hcf]
    exact within_strict wc sc
   exact g.covers hi wi k a za ha hai (within_trans wj wa) h1 (by omega)
end Go.Proofs.Ytnfoihdifohkeaa
namespace Go.Proofs.Ytnfoihdifohkeaa
open Go Go.Eng
set_option maxRecDepth 100000
theorem onceN_inj:∀ {l:List (List UInt8)},onceN l=true→∀ {i j:Nat} {a:List UInt8},l[i]? = some a→l[j]? = some a→i=j
 |[],_,_,_,_,h,_=>by cases h
 |x :: l,h,i,j,a,hi,hj=>by
  have h':(!l.contains x && onceN l)=true:=h
  simp only [Bool.and_eq_true,Bool.not_eq_true'] at h'
  have hx:∀ k,l[k]?≠some x:=fun k hk=>by
   have:=List.mem_of_getElem? hk
   rw [←List.contains_iff_mem,h'.1] at this
   cases this
  cases i with
  |zero =>
   cases j with
   |zero=>rfl
   |succ j =>
    simp at hi hj
    subst hi
    exact absurd hj (hx j)
  |succ i =>
   cases j with
   |zero =>
    simp at hi hj
    subst hj
    exact absurd hi (hx i)
   |succ j =>
    simp at hi hj
    rw[onceN_inj h'.2 hi hj]
theorem apex_un{zs:List Zo}(h:onceN (zs.map fun z=>fold z.apex)=true){i j:Nat}{a b:Zo}(hi:zs[i]? = some a)(hj:zs[j]? = some b)(e:fold a.apex=fold b.apex):i=j :=
 onceN_inj h (a:=fold a.apex) (by rw[List.getElem?_map,hi];rfl) (by rw[List.getElem?_map,hj,e];rfl)
theorem place_iff{zs:List Zo}(h:onceN (zs.map fun z=>fold z.apex)=true){i:Nat}{z:Zo}(hi:zs[i]? = some z)(n:List UInt8):placeZ zs n=some i↔fold z.apex=n:=by
 constructor
 ·intro e
  obtain⟨y,hy,e1⟩:=place_spec e
  rw [hi] at hy
  cases hy
  exact e1
 ·intro e
  cases hp:placeZ zs n with
  |none=>exact absurd e (place_none.1 hp z (List.mem_of_getElem? hi))
  |some k =>
   obtain⟨y,hy,e1⟩:=place_spec hp
   rw[apex_un h hy hi (e1.trans e.symm)]
theorem close_above(zs:List Zo)(i:Nat)(apex:List UInt8):aboveF zs i apex=if (closeR (placesL zs) apex (othersZ zs i)).2 then some (closeR (placesL zs) apex (othersZ zs i)).1 else none:=by
 unfold aboveF closeR
 cases deepF apex (othersZ zs i) none with
 |none=>rfl
 |some a =>
  show placeZ zs (fold a)=if (match aget (placesL zs) (fold a) with|none=>(0,false)|some k=>(k,true)).2 then some (match aget (placesL zs) (fold a) with|none=>(0,false)|some k=>(k,true)).1 else none
  rw[places_get]
  cases placeZ zs (fold a) <;> rfl
theorem hang_eq{zs:List Zo}(hz:∀ z ∈ zs,z.ok=true)(ho:onceN (zs.map fun z=>fold z.apex)=true):hangR zs (placesL zs)=hangF zs:=by
 have hi:∀ i,i<zs.length→hangI zs (placesL zs) i=(i == 0 || (match aboveF zs i (zs.getD i default).apex with
  |none=>false
  |some a=>(zs.getD a default).cutL.any fun c=>fold c == fold (zs.getD i default).apex)):=fun i hi=>by
  unfold hangI
  rw[close_above]
  have hzi:zs[i]? = some (zs.getD i default):=by rw[List.getD_eq_getElem?_getD,List.getElem?_eq_getElem hi];rfl
  congr 1
  have hcl:=close_lt (n:=zs.length) (P:=placesL zs) (fun k v hv=>by
   rw [places_get] at hv
   obtain⟨y,hy,_⟩:=place_spec hv
   exact(List.getElem?_eq_some_iff.1 hy).1) (zs.getD i default).apex (othersZ zs i)
  generalize closeR (placesL zs) (zs.getD i default).apex (othersZ zs i)=r at hcl ⊢
  obtain⟨a,b⟩:=r
  cases b with
  |false=>rfl
  |true =>
   have ha:a<zs.length:=hcl rfl
   have hza:zs[a]? = some (zs.getD a default):=by rw[List.getD_eq_getElem?_getD,List.getElem?_eq_getElem ha];rfl
   have hok:=hz _ (List.mem_of_getElem? hza)
   show((cutsZ (zs.getD a default)).any fun c=>decide (aget (placesL zs) (fold c)=some i))=(zs.getD a default).cutL.any fun c=>fold c == fold (zs.getD i default).apex
   unfold cutsZ
   rw[if_pos hok,Bool.eq_iff_iff,List.any_eq_true,List.any_eq_true]
   have hp:∀ c,(aget (placesL zs) (fold c)=some i)↔fold c=fold (zs.getD i default).apex:=fun c=>by
    rw[places_get,place_iff ho hzi]
    exact eq_comm
   constructor
   ·rintro ⟨c,hc,e⟩
    exact⟨c,(sortN_mem hc).1,by simpa using(hp c).1 (by simpa using e)⟩
   ·rintro ⟨c,hc,e⟩
    obtain⟨_,_,_,_,_,_,hcn,_⟩:=Zo.cutL_spec hok hc
    obtain⟨m,hm,em⟩:=sortN_has hc hcn
    exact⟨m,hm,by simpa using(hp m).2 (by rw[em];simpa using e)⟩
 unfold hangR hangF
 rw[Bool.eq_iff_iff,List.all_eq_true,List.all_eq_true]
 constructor
 ·intro h i hm
  exact(hi i (List.mem_range.1 hm)).symm.trans (h i hm)
 ·intro h i hm
  exact(hi i (List.mem_range.1 hm)).trans (h i hm)
def surveyed(zs:List Zo)(i:Nat):Bool:=(zs.take i).all Zo.ok && (onceN ((zs.take i).map fun z=>fold z.apex) && (i == 0 || fold (zs.getD 0 default).apex == [0]))
theorem all_take{p:Zo→Bool}{zs:List Zo}{i:Nat}(h:(zs.take i).all p=false):zs.all p=false:=by
 rw [List.all_eq_false] at h ⊢
 obtain⟨x,hx,e⟩:=h
 exact⟨x,List.mem_of_mem_take hx,e⟩
theorem survey_bad{f:Fo}{i:Nat}(h:surveyed f.zones i=false):f.ok=false:=by
 unfold surveyed at h
 unfold Fo.ok
 simp only [Bool.and_eq_false_iff] at h ⊢
 rcases h with h|h|h
 ·exact .inr (.inr (.inr (.inl (all_take h))))
 ·rw [List.map_take] at h
  exact .inr (.inr (.inr (.inr (.inl (onceN_take h)))))
 ·rw [Bool.or_eq_false_iff] at h
  exact .inr (.inr (.inr (.inr (.inr (.inl h.2)))))
theorem survey_next{zs:List Zo}{i:Nat}{z:Zo}(h:zs[i]? = some z)(hs:surveyed zs i=true):surveyed zs (i+1)=(z.ok && ((placeZ (zs.take i) (fold z.apex)).isNone && (i != 0 || fold z.apex == [0]))):=by
 unfold surveyed at hs ⊢
 simp only [Bool.and_eq_true] at hs
 obtain⟨h1,h2,h3⟩:=hs
 rw[List.take_add_one,h]
 simp only[Option.toList_some,List.all_append,List.map_append,List.map_cons,List.map_nil,onceN_snoc,h1,h2,List.all_cons,List.all_nil,Bool.and_true,Bool.true_and]
 have e1:(!((zs.take i).map fun z=>fold z.apex).contains (fold z.apex))=(placeZ (zs.take i) (fold z.apex)).isNone:=by
  rw[Bool.eq_iff_iff,Bool.not_eq_true',Option.isNone_iff_eq_none,place_none,←Bool.not_eq_true,List.contains_iff_mem]
  constructor
  ·intro hm y hy e
   exact hm (List.mem_map.2 ⟨y,hy,e⟩)
  ·intro hm hc
   obtain⟨y,hy,e⟩:=List.mem_map.1 hc
   exact hm y hy e
 rw[e1]
 congr 2
 cases i with
 |zero =>
  have:zs.getD 0 default=z:=by rw[List.getD_eq_getElem?_getD,h];rfl
  rw[this]
  rfl
 |succ i =>
  have h3':(fold (zs.getD 0 default).apex == [0])=true:=by
   rw [Bool.or_eq_true] at h3
   exact h3.resolve_left (by simp)
  rw[h3']
  rfl
def surveyS(f:Fo):SV:=if f.ok then .tup [.map 0,.d (.int .i64 0)] else .tup [.v (.map none),.d (.int .i64 2)]
def surveyK(f:Fo):List KB:=if f.ok then [placesB (placesL f.zones)] else []
set_option maxHeartbeats 16000000 in
theorem survey_ok(f:Fo)(hf:f.Fit)(hl:∀ h ∈ f.hosts,h.2.2.length≤9223372036854775807) :
 COk Try.prog 17 [f.V] [] (fun s k=>s=surveyS f∧k=surveyK f):=by
 refine cOk_of_run (TT:=TT) (IN:=lookI []) TT_ok INok_nil mixed 1000 Try.func17 rfl (enters Try.func17 (by kernel_rfl) rfl) 72 (by kernel_rfl) ?_
 have hno:f.ok=false→surveyS f = .tup [.v (.map none),.d (.int .i64 2)]∧surveyK f=[]:=fun h=>by
  unfold surveyS surveyK
  rw[h]
  exact⟨rfl,rfl⟩
 conv=>whnf
 refine⟨fun h1=>?_,fun h1=>?_⟩
 ·have h1:¬ 1≤f.zones.length:=by
   have h:(f.zones.length:Int)<1:=of_decide_eq_true h1
   omega
  obtain⟨e1,e2⟩:=hno (by unfold Fo.ok;rw[decide_eq_false h1];rfl)
  rw[e1,e2]
  conv=>whnf
  refine⟨[],_,[],rfl,rfl,?_,?_,rfl,rfl⟩
  ·exact rfl
  ·exact True.intro
 have h1:1≤f.zones.length:=by
  have h:¬ (f.zones.length:Int)<1:=of_decide_eq_false h1
  omega
 conv=>whnf
 refine⟨fun h2=>?_,fun h2=>?_⟩
 ·have h2:¬ f.zones.length≤64:=by
   have h:(f.zones.length:Int) > 64:=of_decide_eq_true h2
   omega
  obtain⟨e1,e2⟩:=hno (by unfold Fo.ok;rw[decide_eq_false h2,Bool.false_and,Bool.and_false])
  rw[e1,e2]
  conv=>whnf
  refine⟨[],_,[],rfl,rfl,?_,?_,rfl,rfl⟩
  ·exact rfl
  ·exact True.intro
 have h2:f.zones.length≤64:=by
  have h:¬ (f.zones.length:Int) > 64:=of_decide_eq_false h2
  omega
 conv=>whnf
 refine⟨fun h3=>?_,fun h3=>?_⟩
 ·have h3:¬ f.hosts.length≤64:=by
   have h:(f.hosts.length:Int) > 64:=of_decide_eq_true h3
   omega
  obtain⟨e1,e2⟩:=hno (by unfold Fo.ok;rw[decide_eq_false h3,Bool.false_and,Bool.and_false,Bool.and_false])
  rw[e1,e2]
  conv=>whnf
  refine⟨[],_,[],rfl,rfl,?_,?_,rfl,rfl⟩
  ·exact rfl
  ·exact True.intro
 have h3:f.hosts.length≤64:=by
  have h:¬ (f.hosts.length:Int) > 64:=of_decide_eq_false h3
  omega
 have hok:f.ok=(f.zones.all Zo.ok && (onceN (f.zones.map fun z=>fold z.apex) && (fold (f.zones.getD 0 default).apex == [0] && (hangF f.zones && housedF f.zones.length f.hosts)))):=by
  unfold Fo.ok
  rw[decide_eq_true h1,decide_eq_true h2,decide_eq_true h3]
  rfl
 conv=>whnf
 refine .inv Nat (fun i=>i≤f.zones.length∧surveyed f.zones i=true) (fun i=>[(33,iV i)]) (fun i=>[(1,placesB (placesL (f.zones.take i)))]) (fun i=>f.zones.length - i) ⟨0,[0,1],⟨Nat.zero_le _,rfl⟩,?_⟩ ?_
 ·conv=>whnf
  repeat'(first|exact ⟨⟩|exact rfl|exact subZ_self _|exact Or.inr rfl|exact fun _ _=>rfl|exact fun _ h=>absurd h (Nat.not_lt_zero _)|apply And.intro)
 intro i hi
 obtain⟨hi,hti⟩:=hi
 conv=>whnf
 refine⟨fun h4=>?_,fun h4=>?_⟩
 ·have h4:i<f.zones.length:=by
   have h:(i:Int)<f.zones.length:=of_decide_eq_true h4
   omega
  have hw1:IntKind.i64.wrap ((i:Int)+1)=((i+1:Nat):Int):=by rw[w64_in _ (by omega)];omega
  obtain⟨z,hzd⟩:∃ z,f.zones.getD i default=z:=⟨_,rfl⟩
  have hzl:f.zones[i]? = some z:=by rw[←hzd,List.getD,List.getElem?_eq_getElem h4];rfl
  have hzf:=hf z (List.mem_of_getElem? hzl)
  have hnx:=survey_next hzl hti
  have htk:f.zones.take (i+1)=f.zones.take i++[z]:=by rw[List.take_add_one,hzl];rfl
  have hbad:surveyed f.zones (i+1)=false→f.ok=false:=survey_bad
  conv=>whnf
  refine⟨by omega,?_⟩
  conv=>whnf
  rw[Int.toNat_natCast,hzd]
  refine .one (.data _ (zcheck_ok z hzf.2) rfl rfl ?_)
  cases hzo:z.ok with
  |false =>
   obtain⟨e1,e2⟩:=hno (hbad (by rw[hnx,hzo];rfl))
   rw[e1,e2,if_neg (by decide)]
   conv=>whnf
   refine brT rfl ?_
   conv=>whnf
   refine⟨[],_,[],rfl,rfl,?_,?_,rfl,rfl⟩
   ·exact rfl
   ·exact True.intro
  |true =>
   rw[if_pos rfl]
   rw [hzo,Bool.true_and] at hnx
   conv=>whnf
   refine brF rfl ?_
   conv=>whnf
   refine .one (.data _ (fold_ok z.apex (by have:=hzf.1;omega)) rfl rfl ?_)
   conv=>whnf
   have hfs:=find_enc (ev:=intV) strK_eq (placesL (f.zones.take i)) (fold z.apex)
   rw [places_get] at hfs
   refine⟨_,hfs,?_⟩
   cases hp:placeZ (f.zones.take i) (fold z.apex) with
   |some k =>
    rw [hp] at hnx
    obtain⟨e1,e2⟩:=hno (hbad (by rw[hnx];rfl))
    rw[e1,e2]
    conv=>whnf
    refine⟨[],_,[],rfl,rfl,?_,?_,rfl,rfl⟩
    ·exact rfl
    ·exact True.intro
   |none =>
    rw [hp] at hnx
    have hput:putM (aenc strK intV (placesL (f.zones.take i))) [.str (fold z.apex)] [.d (.int .i64 (i:Nat))]=aenc strK intV (placesL (f.zones.take (i+1))):=by
     have h1:=put_enc (ev:=intV) strK_eq (placesL (f.zones.take i)) (fold z.apex) i
     rw [aput_new (by rw [places_get,hp])] at h1
     rw[htk,places_snoc,show(f.zones.take i).length=i by rw[List.length_take];omega]
     exact h1
    have hgo:surveyed f.zones (i+1)=true→surveyed f.zones (i+1)=true:=id
    conv=>whnf
    refine⟨fun h5=>?_,fun h5=>?_⟩
    ·have h5:i=0:=by
      have h:(i:Int)=0:=by simpa using h5
      omega
     conv=>whnf
     refine⟨fun h6=>?_,fun h6=>?_⟩
     ·have h6:(fold z.apex == [0])=false:=by simpa using h6
      obtain⟨e1,e2⟩:=hno (hbad (by rw[hnx,h6,h5];rfl))
      rw[e1,e2]
      conv=>whnf
      refine⟨[],_,[],rfl,rfl,?_,?_,rfl,rfl⟩
      ·exact rfl
      ·exact True.intro
     ·have h6:(fold z.apex == [0])=true:=by simpa using h6
      conv=>whnf
      refine⟨_,hput,?_⟩
      conv=>whnf
      rw[hw1]
      refine⟨i+1,[0,1],⟨h4,by rw[hnx,h6,Bool.or_true];rfl⟩,by omega,?_⟩
      conv=>whnf
      repeat'(first|exact ⟨⟩|exact rfl|exact subZ_self _|exact Or.inr rfl|exact fun _ _=>rfl|exact fun _ h=>absurd h (Nat.not_lt_zero _)|apply And.intro)
      all_goals first
       |exact places_ren _
    ·have h5:(i != 0)=true:=by
      have h:¬ (i:Int)=0:=by simpa using h5
      simp;omega
     conv=>whnf
     refine⟨_,hput,?_⟩
     conv=>whnf
     rw[hw1]
     refine⟨i+1,[0,1],⟨h4,by rw[hnx,h5];rfl⟩,by omega,?_⟩
     conv=>whnf
     repeat'(first|exact ⟨⟩|exact rfl|exact subZ_self _|exact Or.inr rfl|exact fun _ _=>rfl|exact fun _ h=>absurd h (Nat.not_lt_zero _)|apply And.intro)
     all_goals first
      |exact places_ren _
 ·have h4:i=f.zones.length:=by
   have h:¬ (i:Int)<f.zones.length:=of_decide_eq_false h4
   omega
  subst h4
  unfold surveyed at hti
  rw [List.take_length] at hti ⊢
  simp only [Bool.and_eq_true] at hti
  obtain⟨t1,t2,t3⟩:=hti
  have t3:(fold (f.zones.getD 0 default).apex == [0])=true:=by
   rw [Bool.or_eq_true] at t3
   exact t3.resolve_left (fun e=>by
    have:f.zones.length=0:=by simpa using e
    omega)
  have hz:∀ z ∈ f.zones,z.ok=true:=List.all_eq_true.1 t1
  rw [t1,t2,t3,Bool.true_and,Bool.true_and,Bool.true_and,←hang_eq hz t2] at hok
  have hP:∀ k v,aget (placesL f.zones) k=some v→v<f.zones.length:=fun k v hv=>by
   rw [places_get] at hv
   obtain⟨y,hy,_⟩:=place_spec hv
   exact(List.getElem?_eq_some_iff.1 hy).1
  conv=>whnf
  refine .rel _ (COk.frameX (hang_ok f hf h2 (placesL f.zones) hz hP) [1] rfl rfl (by show[placesB _]=[mapK _ (placesB _)];rw[places_map])) (fun x ks' hR=>?_)
  obtain⟨s0,k0,⟨rfl,rfl⟩,rfl,rfl⟩:=hR
  rw[show mapB (sig [1] _) [placesB (placesL f.zones)]=[placesB (placesL f.zones)] from congrArg (fun x=>[x]) (places_map _)]
  cases hh:hangR f.zones (placesL f.zones) with
  |false =>
   obtain⟨e1,e2⟩:=hno (by rw[hok,hh];rfl)
   rw[e1,e2]
   conv=>whnf
   refine brT rfl ?_
   conv=>whnf
   refine⟨[],_,[],rfl,rfl,?_,?_,rfl,rfl⟩
   ·exact rfl
   ·exact True.intro
  |true =>
   rw [hh,Bool.true_and] at hok
   conv=>whnf
   refine brF rfl ?_
   conv=>whnf
   refine .one (.data _ (housed_ok f h3 hl) rfl rfl ?_)
   rw[←hok]
   cases hk:f.ok with
   |false =>
    obtain⟨e1,e2⟩:=hno hk
    rw[e1,e2]
    conv=>whnf
    refine brT rfl ?_
    conv=>whnf
    refine⟨[],_,[],rfl,rfl,?_,?_,rfl,rfl⟩
    ·exact rfl
    ·exact True.intro
   |true =>
    have e1:surveyS f = .tup [.map 0,.d (.int .i64 0)]:=by unfold surveyS;rw[hk];rfl
    have e2:surveyK f=[placesB (placesL f.zones)]:=by unfold surveyK;rw[hk];rfl
    rw[e1,e2]
    conv=>whnf
    refine brF rfl ?_
    conv=>whnf
    refine⟨[1],_,[placesB (placesL f.zones)],rfl,rfl,?_,?_,rfl,rfl⟩
    ·exact rfl
    ·conv=>whnf
     repeat'(first|exact ⟨⟩|exact rfl|exact subZ_self _|exact Or.inr rfl|exact fun _ _=>rfl|exact fun _ h=>absurd h (Nat.not_lt_zero _)|apply And.intro)
     all_goals first
      |exact places_ren _
end Go.Proofs.Ytnfoihdifohkeaa
namespace Go.Proofs.Ytnfoihdifohkeaa
open Go Go.Eng
set_option maxRecDepth 100000
theorem Fo.parts{f:Fo}(h:f.ok=true):(1≤f.zones.length∧f.zones.length≤64∧f.hosts.length≤64)∧(∀ z ∈ f.zones,z.ok=true)∧onceN (f.zones.map fun z=>fold z.apex)=true∧fold (f.zones.getD 0 default).apex=[0]∧hangF f.zones=true∧housedF f.zones.length f.hosts=true:=by
 unfold Fo.ok at h
 simp only [Bool.and_eq_true,decide_eq_true_eq,beq_iff_eq] at h
 obtain⟨a1,a2,a3,a4,a5,a6,a7,a8⟩:=h
 exact⟨⟨a1,a2,a3⟩,List.all_eq_true.1 a4,a5,a6,a7,a8⟩
theorem find_cut{z:Zo}(hz:z.ok=true){c:List UInt8}(hc:c ∈ z.cutL):(findS c 2 z.rrs).2=0∧(findS c 2 z.rrs).1.nm=c:=by
 obtain⟨r,hr,hn,ht,_,_,hcn,hk⟩:=Zo.cutL_spec hz hc
 have hp:pickR c 2 z.rrs≠[]:=by
  intro e
  have hm:r ∈ pickR c 2 z.rrs:=by
   unfold pickR nearR rightR
   refine List.mem_filter.2 ⟨List.mem_filter.2 ⟨hr,?_⟩,?_⟩
   ·rw[ht,hn];simp
   ·unfold takeZ at hk
    simp only [Bool.and_eq_true] at hk
    rw[hk.1,hk.2.2.2.1]
    rfl
  rw [e] at hm
  cases hm
 have e:findS c 2 z.rrs=(buildS c 2 (pickR c 2 z.rrs),0):=by
  unfold findS
  rw[if_pos hcn,if_neg (by simpa using hp)]
 rw[e]
 exact⟨rfl,rfl⟩
theorem cutQ_spec{z:Zo}(hz:z.ok=true)(name:List UInt8):(z.cut name=none∧(cutQ z name).2=3∧cutQ z name=(St.no,3))∨∃ c,z.cut name=some (fold c)∧(cutQ z name).2=0∧(cutQ z name).1.nm=c∧isName c∧c ∈ z.cutL∧withinN name c=true∧cutQ z name=findS c 2 z.rrs:=by
 have hb:=best_cut (name:=name) (l:=z.cutL) (fun c hc=>by
  obtain⟨_,_,_,_,_,_,h,_⟩:=Zo.cutL_spec hz hc;exact h)
 have hs:=bestC_spec name (sortN z.cutL)
 unfold cutQ Zo.cut
 rw[if_pos hz]
 cases hc:bestC name (sortN z.cutL) with
 |none =>
  rw [hc] at hb
  exact .inl ⟨hb.symm,rfl,rfl⟩
 |some c =>
  rw [hc] at hb hs
  obtain⟨h1,h2,_⟩:=hs
  obtain⟨hm,hn⟩:=sortN_mem h1
  obtain⟨f1,f2⟩:=find_cut hz hm
  exact .inr ⟨c,hb.symm,f1,f2,hn,hm,h2,rfl⟩
def downR(f:Fo)(name:List UInt8):Nat × Int:=if isName name then (match downF f.zones name 300 0 with
 |none=>(0,12)
 |some a=>(a,0)) else (0,2)
theorem count_small{n:List UInt8}:countN n≤255:=by
 unfold countN
 split
 ·rename_i h
  obtain⟨h1,h2,h3⟩:=labN_of h
  have:∀ l:List (List UInt8),l.length≤(mk l).length:=fun l=>by
   induction l with
   |nil=>exact Nat.zero_le _
   |cons a l ih =>
    have:(mk (a :: l)).length=1+a.length+(mk l).length:=mk_len_cons0 a l
    rw[this,List.length_cons]
    omega
  have h4:=this (labN n)
  rw [←h3] at h4
  omega
 ·exact Nat.zero_le _
theorem root_within{z:Zo}(hz:isName z.apex)(h:fold z.apex=[0]){name:List UInt8}(hn:isName name):withinN name z.apex=true:=by
 refine within_suf.2 ⟨hn,hz,?_⟩
 have:countN z.apex=0:=(fold_root h).resolve_right (fun e=>e hz)
 rw [countN_fl hz] at this
 rw[List.eq_nil_of_length_eq_zero this]
 exact List.nil_suffix
structure DwS where
 k:Nat
 at_:Nat
set_option maxHeartbeats 16000000 in
theorem down_ok(f:Fo)(hf:f.Fit)(hok:f.ok=true)(name:List UInt8) :
 COk Try.prog 18 [f.V,.map 0,.d (.str name)] [placesB (placesL f.zones)] (fun s k=>s = .tup [iV (downR f name).1,.d (.int .i64 (downR f name).2)]∧k=[placesB (placesL f.zones)]):=by
 obtain⟨⟨h1,h2,h3⟩,hz,ho,hr,_,_⟩:=Fo.parts hok
 refine cOk_of_run (TT:=TT) (IN:=lookI []) TT_ok INok_nil mixed 1000 Try.func18 rfl (enters Try.func18 (by kernel_rfl) rfl) 37 (by kernel_rfl) ?_
 conv=>whnf
 refine .one (.data _ (check_ok name) rfl rfl ?_)
 unfold downR
 by_cases hn:isName name
 case neg =>
  rw[if_neg hn,if_neg hn]
  conv=>whnf
  refine brT rfl ?_
  conv=>whnf
  refine⟨[0],_,[placesB (placesL f.zones)],rfl,rfl,?_,?_,rfl,rfl⟩
  ·exact rfl
  ·conv=>whnf
   repeat'(first|exact ⟨⟩|exact rfl|exact subZ_self _|exact Or.inr rfl|exact fun _ _=>rfl|exact fun _ h=>absurd h (Nat.not_lt_zero _)|apply And.intro)
   all_goals first
    |exact places_ren _
 rw[if_pos hn,if_pos hn]
 conv=>whnf
 refine brF rfl ?_
 conv=>whnf
 have hz0:f.zones[0]? = some (f.zones.getD 0 default):=by rw[List.getD_eq_getElem?_getD,List.getElem?_eq_getElem h1];rfl
 have hc0:=@count_small name
 refine .inv DwS (fun s=>(∃ z,f.zones[s.at_]? = some z∧withinN name z.apex=true∧countN name<s.k+countN z.apex)∧downF f.zones name s.k s.at_=downF f.zones name 300 0) (fun s=>[(8,iV s.at_)]) (fun s=>[]) (fun s=>s.k) ⟨⟨300,0⟩,[0,1],⟨⟨_,hz0,root_within (Zo.ok_name (hz _ (List.mem_of_getElem? hz0))) hr hn,by show countN name<300+_;omega⟩,rfl⟩,?_⟩ ?_
 ·conv=>whnf
  repeat'(first|exact ⟨⟩|exact rfl|exact subZ_self _|exact Or.inr rfl|exact fun _ _=>rfl|exact fun _ h=>absurd h (Nat.not_lt_zero _)|apply And.intro)
  all_goals first
   |exact places_ren _
 intro s hs
 obtain⟨⟨z,hza,hwi,hcn⟩,hdn⟩:=hs
 conv=>whnf
 generalize s.k=k at hcn hdn ⊢
 generalize s.at_=at_ at hza hdn ⊢
 have hzm:=List.mem_of_getElem? hza
 have hlt:at_<f.zones.length:=(List.getElem?_eq_some_iff.1 hza).1
 have hzd:f.zones.getD at_ default=z:=by rw[List.getD_eq_getElem?_getD,hza];rfl
 obtain⟨k,rfl⟩:∃ k',k=k'+1:=⟨k - 1,by have:=within_count hwi;omega⟩
 have e1:downF f.zones name (k+1) at_=match z.cut name with
  |none=>some at_
  |some c=>match placeZ f.zones c with
   |none=>none
   |some next=>downF f.zones name k next:=by
  show(match f.zones[at_]? with|none=>none|some z=>_)=_
  rw[hza]
  rfl
 conv=>whnf
 refine⟨by omega,?_⟩
 conv=>whnf
 rw[Int.toNat_natCast,hzd]
 refine .one (.data _ (zcut_ok z (hf z hzm).2 name) rfl rfl ?_)
 rcases cutQ_spec (hz z hzm) name with⟨hcut,hq,_⟩|⟨c,hcut,hq,hnm,hcn2,_,_,_⟩
 ·have hfin:downF f.zones name 300 0=some at_:=by rw[←hdn,e1,hcut]
  rw[hfin,hq]
  conv=>whnf
  refine brT rfl ?_
  conv=>whnf
  refine⟨[0],_,[placesB (placesL f.zones)],rfl,rfl,?_,?_,rfl,rfl⟩
  ·exact rfl
  ·conv=>whnf
   repeat'(first|exact ⟨⟩|exact rfl|exact subZ_self _|exact Or.inr rfl|exact fun _ _=>rfl|exact fun _ h=>absurd h (Nat.not_lt_zero _)|apply And.intro)
   all_goals first
    |exact places_ren _
 ·rw [hcut] at e1
  simp only at e1
  rw[hq]
  generalize hS:(cutQ z name).1=S at hnm ⊢
  conv=>whnf
  refine brF rfl ?_
  conv=>whnf
  refine .one (.data _ (fold_ok S.nm (by rw[hnm];have:=hcn2.2.1;omega)) rfl rfl ?_)
  rw[hnm]
  conv=>whnf
  have hfs:=find_enc (ev:=intV) strK_eq (placesL f.zones) (fold c)
  rw [places_get] at hfs
  refine⟨_,hfs,?_⟩
  cases hp:placeZ f.zones (fold c) with
  |none =>
   rw [hp] at e1
   have hfin:downF f.zones name 300 0=none:=by rw[←hdn,e1]
   rw[hfin]
   conv=>whnf
   refine⟨[0],_,[placesB (placesL f.zones)],rfl,rfl,?_,?_,rfl,rfl⟩
   ·exact rfl
   ·conv=>whnf
    repeat'(first|exact ⟨⟩|exact rfl|exact subZ_self _|exact Or.inr rfl|exact fun _ _=>rfl|exact fun _ h=>absurd h (Nat.not_lt_zero _)|apply And.intro)
    all_goals first
     |exact places_ren _
  |some next =>
   rw [hp] at e1
   simp only at e1
   obtain⟨y,hy,ey⟩:=place_spec hp
   obtain⟨c',ec,w1,w2,w3⟩:=z.cut_spec (hz z hzm) hcut
   have hyn:=Zo.ok_name (hz y (List.mem_of_getElem? hy))
   have hyc:fold y.apex=fold c':=by rw[ey,ec]
   have wy:=within_of_fold hyn hyc w1
   have hlt:=within_strict w2 w3
   have hcc:countN y.apex=countN c':=count_eq hyn (within_name w1).2 hyc
   conv=>whnf
   refine⟨⟨k,next⟩,[0,1],⟨⟨y,hy,wy,by show countN name<k+_;omega⟩,by show downF f.zones name k next=_;rw[←e1,hdn]⟩,Nat.lt_succ_self k,?_⟩
   conv=>whnf
   repeat'(first|exact ⟨⟩|exact rfl|exact subZ_self _|exact Or.inr rfl|exact fun _ _=>rfl|exact fun _ h=>absurd h (Nat.not_lt_zero _)|apply And.intro)
   all_goals first
    |exact places_ren _
end Go.Proofs.Ytnfoihdifohkeaa
namespace Go.Proofs.Ytnfoihdifohkeaa
open Go Go.Eng
structure Q where
 nm:List UInt8
 ty:Int
 cl:Int
deriving Inhabited
def Q.enc(q:Q):List DV:=[.str q.nm,.int .u16 q.ty,.int .u16 q.cl]
end Go.Proofs.Ytnfoihdifohkeaa
namespace Go.Proofs.Ytnfoihdifohkeaa
open Go Go.Eng
set_option maxRecDepth 100000
def Fo.Len(f:Fo):Prop:=∀ h ∈ f.hosts,h.2.2.length≤9223372036854775807
theorem survey_fr(f:Fo)(hf:f.Fit)(hl:f.Len)(ks:List KB):COk Try.prog 17 [f.V] ks (fun s k=>s=(if f.ok then .tup [.map (lenB ks),.d (.int .i64 0)] else .tup [.v (.map none),.d (.int .i64 2)])∧k=(if f.ok then appB ks [placesB (placesL f.zones)] else ks)) :=
 (COk.frameX (survey_ok f hf hl) [] rfl rfl rfl).imp fun r k ⟨s0,k0,⟨h1,h2⟩,h3,h4⟩=>by
  subst h1 h2 h3 h4
  unfold surveyS surveyK
  cases f.ok with
  |true =>
   refine⟨rfl,?_⟩
   show appB ks [mapK _ (placesB _)]=_
   rw[places_map]
   rfl
  |false=>exact⟨rfl,by show appB ks []=ks;rw[appB_eq,List.append_nil]⟩
set_option maxHeartbeats 8000000 in
theorem icheck_ok(f:Fo)(hf:f.Fit)(hl:f.Len):FnOk Try.prog 6 [f.V] (.d (.int .i64 (if f.ok then 0 else 2))):=by
 refine fnOk_of_run (TT:=TT) (IN:=lookI []) TT_ok INok_nil mixed 1000 Try.func6 rfl (enters Try.func6 (by kernel_rfl) rfl) rfl 10 (by kernel_rfl) ?_
 conv=>whnf
 refine .rel _ (survey_fr f hf hl _) (fun r ks' hR=>?_)
 obtain⟨rfl,rfl⟩:=hR
 cases f.ok with
 |true =>
  rw[if_pos rfl,if_pos rfl,if_pos rfl]
  conv=>whnf
 |false =>
  rw[if_neg (by decide),if_neg (by decide),if_neg (by decide)]
  conv=>whnf
def zoneR(f:Fo)(name:List UInt8):Nat × Int:=if f.ok then downR f name else (0,2)
set_option maxHeartbeats 8000000 in
theorem izone_ok(f:Fo)(hf:f.Fit)(hl:f.Len)(name:List UInt8):FnOk Try.prog 10 [f.V,.d (.str name)] (.tup [iV (zoneR f name).1,.d (.int .i64 (zoneR f name).2)]):=by
 refine fnOk_of_run (TT:=TT) (IN:=lookI []) TT_ok INok_nil mixed 1000 Try.func10 rfl (enters Try.func10 (by kernel_rfl) rfl) rfl 20 (by kernel_rfl) ?_
 conv=>whnf
 refine .rel _ (survey_fr f hf hl _) (fun r ks' hR=>?_)
 obtain⟨rfl,rfl⟩:=hR
 unfold zoneR
 cases hok:f.ok with
 |false =>
  rw[if_neg (by decide),if_neg (by decide),if_neg (by decide)]
  conv=>whnf
  refine brT rfl ?_
  conv=>whnf
  repeat'(first|exact ⟨⟩|exact rfl|exact⟨rfl,rfl,.inr rfl,fun _ _=>rfl⟩|exact⟨rfl,rfl,.inl rfl,fun i hi=>absurd hi (Nat.not_lt_zero _)⟩|apply And.intro)
 |true =>
  rw[if_pos rfl,if_pos rfl,if_pos rfl]
  conv=>whnf
  refine brF rfl ?_
  conv=>whnf
  refine .rel _ (COk.frameX (down_ok f hf hok name) [1] rfl rfl (by show[placesB _]=[mapK _ (placesB _)];rw[places_map])) (fun x ks' hR=>?_)
  obtain⟨s0,k0,⟨rfl,rfl⟩,rfl,rfl⟩:=hR
  conv=>whnf
  repeat'(first|exact ⟨⟩|exact rfl|exact⟨rfl,rfl,.inr rfl,fun _ _=>rfl⟩|exact⟨rfl,rfl,.inl rfl,fun i hi=>absurd hi (Nat.not_lt_zero _)⟩|apply And.intro)
def Ver.no(why:Int):Ver:=⟨[],St.no,0,why⟩
def Ver.V(v:Ver):SV:=.agg [.d (.int .i64 v.code),.d (stsD v.chain.isEmpty v.chain),.d (.str v.ans.nm),.d (.int .u16 v.ans.ty),.d (.int .u32 v.ans.ttl),.d (.sl v.ans.z v.ans.data.length 1 (strs v.ans.data))]
def ofR(f:Fo)(q:Q):Ver:=if f.ok then ofF f.zones q.ty 20 q.nm [] else Ver.no 2
theorem len_empty{α:Type}(l:List α):Nat.beq l.length 0=l.isEmpty:=by cases l <;> rfl
structure OfS where
 k:Nat
 nm:List UInt8
 ch:List St
set_option maxHeartbeats 32000000 in
theorem iof_ok(f:Fo)(hf:f.Fit)(hl:f.Len)(q:Q):FnOk Try.prog 7 [f.V,.agg [.d (.str q.nm),.d (.int .u16 q.ty),.d (.int .u16 q.cl)]] (.tup [(ofR f q).V,.d (.int .i64 (ofR f q).why)]):=by
 refine fnOk_of_run (TT:=TT) (IN:=lookI []) TT_ok INok_nil mixed 1000 Try.func7 rfl (enters Try.func7 (by kernel_rfl) rfl) rfl 95 (by kernel_rfl) ?_
 conv=>whnf
 refine .rel _ (survey_fr f hf hl _) (fun r ks' hR=>?_)
 obtain⟨rfl,rfl⟩:=hR
 unfold ofR
 cases hok:f.ok with
 |false =>
  rw[if_neg (by decide),if_neg (by decide),if_neg (by decide)]
  conv=>whnf
  refine brT rfl ?_
  conv=>whnf
  repeat'(first|exact ⟨⟩|exact rfl|exact⟨rfl,rfl,.inr rfl,fun _ _=>rfl⟩|exact⟨rfl,rfl,.inl rfl,fun i hi=>absurd hi (Nat.not_lt_zero _)⟩|apply And.intro)
 |true =>
  obtain⟨⟨h1,h2,h3⟩,hz,ho,hr,_,_⟩:=Fo.parts hok
  rw[if_pos rfl,if_pos rfl,if_pos rfl]
  conv=>whnf
  refine brF rfl ?_
  conv=>whnf
  refine .nilC 4 1 38 4 (fun _=>[]) _ _ _ _ rfl rfl ?_
  refine .inv OfS (fun s=>ofF f.zones q.ty s.k s.nm s.ch=ofF f.zones q.ty 20 q.nm []∧s.ch.length+s.k=20∧s.ch.length≤8) (fun s=>[(9,.d (.str s.nm))])
   (fun s=>[(4,.cells 40 [.d (.int .i64 0),.all 5,.d (.str []),.d (.int .u16 0),.d (.int .u32 0),nilS]),(5,.row 38 4 s.ch.length .iff (fun j=>(s.ch.getD j default).enc))]) (fun s=>s.k) ⟨⟨20,q.nm,[]⟩,[0,1,2,3,4,5],⟨rfl,rfl,Nat.zero_le _⟩,?_⟩ ?_
  ·conv=>whnf
   repeat'(first|exact ⟨⟩|exact rfl|exact subZ_self _|exact Or.inr rfl|exact fun _ _=>rfl|exact fun _ h=>absurd h (Nat.not_lt_zero _)|apply And.intro)
   all_goals first
    |exact places_ren _
  intro s hs
  obtain⟨hof,hkl,hcl⟩:=hs
  conv=>whnf
  generalize s.k=k at hof hkl ⊢
  generalize s.nm=nm at hof ⊢
  generalize s.ch=ch at hof hkl hcl ⊢
  obtain⟨k,rfl⟩:∃ k',k=k'+1:=⟨k - 1,by omega⟩
  generalize hV:ofF f.zones q.ty 20 q.nm []=V at hof ⊢
  have e1:ofF f.zones q.ty (k+1) nm ch=if isName nm then (match downF f.zones nm 300 0 with
   |none=>⟨[],St.no,0,12⟩
   |some at_=>if (findS nm q.ty (f.zones.getD at_ default).rrs).2=0 then ⟨ch,(findS nm q.ty (f.zones.getD at_ default).rrs).1,0,0⟩
    else if q.ty=5∨(findS nm 5 (f.zones.getD at_ default).rrs).2≠0∨(findS nm 5 (f.zones.getD at_ default).rrs).1.data.length=0 then ⟨ch,St.no,if existsZ (f.zones.getD at_ default) nm then 0 else 3,0⟩
    else if ch.length ≥ 8 then ⟨[],St.no,0,9⟩
    else ofF f.zones q.ty k ((findS nm 5 (f.zones.getD at_ default).rrs).1.data.headD []) (ch++[(findS nm 5 (f.zones.getD at_ default).rrs).1])) else ⟨[],St.no,0,2⟩:=rfl
  refine .rel _ (COk.frameX (down_ok f hf hok nm) [3] rfl rfl (by show[placesB _]=[mapK _ (placesB _)];rw[places_map])) (fun x ks' hR=>?_)
  obtain⟨s0,k0,⟨rfl,rfl⟩,rfl,rfl⟩:=hR
  rw[show mapB (sig [3] _) [placesB (placesL f.zones)]=[placesB (placesL f.zones)] from congrArg (fun x=>[x]) (places_map _)]
  by_cases hn:isName nm
  case neg =>
   rw [if_neg hn] at e1
   rw[show downR f nm=(0,2) from if_neg hn,←hof,e1]
   conv=>whnf
   refine brT rfl ?_
   conv=>whnf
   repeat'(first|exact ⟨⟩|exact rfl|exact⟨rfl,rfl,.inr rfl,fun _ _=>rfl⟩|exact⟨rfl,rfl,.inl rfl,fun i hi=>absurd hi (Nat.not_lt_zero _)⟩|apply And.intro)
  rw [if_pos hn] at e1
  cases hd:downF f.zones nm 300 0 with
  |none =>
   rw [hd] at e1
   rw[show downR f nm=(0,12) by unfold downR;rw[if_pos hn,hd],←hof,e1]
   conv=>whnf
   refine brT rfl ?_
   conv=>whnf
   repeat'(first|exact ⟨⟩|exact rfl|exact⟨rfl,rfl,.inr rfl,fun _ _=>rfl⟩|exact⟨rfl,rfl,.inl rfl,fun i hi=>absurd hi (Nat.not_lt_zero _)⟩|apply And.intro)
  |some at_ =>
   rw [hd] at e1
   simp only at e1
   have hz0:f.zones[0]? = some (f.zones.getD 0 default):=by rw[List.getD_eq_getElem?_getD,List.getElem?_eq_getElem h1];rfl
   obtain⟨z,hza,_,_⟩:=(down_spec hz 300 0 _ hz0 (root_within (Zo.ok_name (hz _ (List.mem_of_getElem? hz0))) hr hn) (by have:=@count_small nm;omega)).2 at_ hd
   have hzm:=List.mem_of_getElem? hza
   have hlt:at_<f.zones.length:=(List.getElem?_eq_some_iff.1 hza).1
   have hzd:f.zones.getD at_ default=z:=by rw[List.getD_eq_getElem?_getD,hza];rfl
   have hzo:=hz z hzm
   have hzf:=(hf z hzm).2
   rw [hzd] at e1
   have hnl:nm.length≤100000:=by have:=hn.2.1;omega
   have hg:∀ t,getZ z nm t=findS nm t z.rrs:=fun t=>by unfold getZ;rw[if_pos hzo]
   rw[show downR f nm=(at_,0) by unfold downR;rw[if_pos hn,hd]]
   conv=>whnf
   refine brF rfl ?_
   conv=>whnf
   refine⟨by omega,?_⟩
   conv=>whnf
   rw[Int.toNat_natCast,hzd]
   refine .one (.data _ (zget_ok z hzf nm q.ty hnl) rfl rfl ?_)
   rw[hg]
   generalize findS nm q.ty z.rrs=r1 at e1 ⊢
   conv=>whnf
   refine⟨fun g1=>?_,fun g1=>?_⟩
   ·have g1:r1.2=0:=by simpa using g1
    rw [if_pos g1] at e1
    rw[←hof,e1]
    conv=>whnf
    repeat'(first|exact ⟨⟩|exact rfl|exact⟨rfl,rfl,.inr rfl,fun _ _=>rfl⟩|exact⟨rfl,rfl,.inl rfl,fun i hi=>absurd hi (Nat.not_lt_zero _)⟩|apply And.intro)
    all_goals first
     |exact len_empty _
     |exact .inr rfl
     |exact fun _ _=>rfl
   have g1:¬ r1.2=0:=by simpa using g1
   rw [if_neg g1] at e1
   conv=>whnf
   refine .one (.data _ (zget_ok z hzf nm 5 hnl) rfl rfl ?_)
   rw[hg]
   have hrt:(findS nm 5 z.rrs).2=0→(findS nm 5 z.rrs).1.ok=true:=fun h=>(find_right h (by decide)).1
   generalize findS nm 5 z.rrs=r2 at e1 hrt ⊢
   obtain⟨L,e2⟩:=r2
   have hno:(q.ty=5∨e2≠0∨L.data.length=0)→V=⟨ch,St.no,if existsZ z nm then 0 else 3,0⟩:=fun h=>by rw[←hof,e1,if_pos h]
   have hyes:¬ (q.ty=5∨e2≠0∨L.data.length=0)→V=if ch.length ≥ 8 then ⟨[],St.no,0,9⟩ else ofF f.zones q.ty k (L.data.headD []) (ch++[L]):=fun h=>by rw[←hof,e1,if_neg h]
   clear e1
   conv=>whnf
   refine⟨fun g2=>?_,fun g2=>?_⟩
   ·have g2:q.ty=5:=by simpa using g2
    have hV':=hno (.inl g2)
    conv=>whnf
    refine .one (.data _ (zexists_ok z hzf nm) rfl rfl ?_)
    rw[show existsR z nm=existsZ z nm by unfold existsR;rw[hzo];rfl,hV']
    cases existsZ z nm with
    |true =>
     rw[if_pos rfl]
     conv=>whnf
     refine brF rfl ?_
     conv=>whnf
     repeat'(first|exact ⟨⟩|exact rfl|exact⟨rfl,rfl,.inr rfl,fun _ _=>rfl⟩|exact⟨rfl,rfl,.inl rfl,fun i hi=>absurd hi (Nat.not_lt_zero _)⟩|apply And.intro)
     all_goals first
      |exact len_empty _
      |exact .inr rfl
      |exact fun _ _=>rfl
    |false =>
     rw[if_neg (by decide)]
     conv=>whnf
     refine brT rfl ?_
     conv=>whnf
     repeat'(first|exact ⟨⟩|exact rfl|exact⟨rfl,rfl,.inr rfl,fun _ _=>rfl⟩|exact⟨rfl,rfl,.inl rfl,fun i hi=>absurd hi (Nat.not_lt_zero _)⟩|apply And.intro)
     all_goals first
      |exact len_empty _
      |exact .inr rfl
      |exact fun _ _=>rfl
   have g2:¬ q.ty=5:=by simpa using g2
   conv=>whnf
   refine⟨fun g3=>?_,fun g3=>?_⟩
   ·have g3:e2≠0:=by simpa using g3
    have hV':=hno (.inr (.inl g3))
    conv=>whnf
    refine .one (.data _ (zexists_ok z hzf nm) rfl rfl ?_)
    rw[show existsR z nm=existsZ z nm by unfold existsR;rw[hzo];rfl,hV']
    cases existsZ z nm with
    |true =>
     rw[if_pos rfl]
     conv=>whnf
     refine brF rfl ?_
     conv=>whnf
     repeat'(first|exact ⟨⟩|exact rfl|exact⟨rfl,rfl,.inr rfl,fun _ _=>rfl⟩|exact⟨rfl,rfl,.inl rfl,fun i hi=>absurd hi (Nat.not_lt_zero _)⟩|apply And.intro)
     all_goals first
      |exact len_empty _
      |exact .inr rfl
      |exact fun _ _=>rfl
    |false =>
     rw[if_neg (by decide)]
     conv=>whnf
     refine brT rfl ?_
     conv=>whnf
     repeat'(first|exact ⟨⟩|exact rfl|exact⟨rfl,rfl,.inr rfl,fun _ _=>rfl⟩|exact⟨rfl,rfl,.inl rfl,fun i hi=>absurd hi (Nat.not_lt_zero _)⟩|apply And.intro)
     all_goals first
      |exact len_empty _
      |exact .inr rfl
      |exact fun _ _=>rfl
   have g3:e2=0:=by simpa using g3
   conv=>whnf
   refine⟨fun g4=>?_,fun g4=>?_⟩
   ·have g4:L.data.length=0:=by
     have h:(L.data.length:Int)=0:=by simpa using g4
     omega
    have hV':=hno (.inr (.inr g4))
    conv=>whnf
    refine .one (.data _ (zexists_ok z hzf nm) rfl rfl ?_)
    rw[show existsR z nm=existsZ z nm by unfold existsR;rw[hzo];rfl,hV']
    cases existsZ z nm with
    |true =>
     rw[if_pos rfl]
     conv=>whnf
     refine brF rfl ?_
     conv=>whnf
     repeat'(first|exact ⟨⟩|exact rfl|exact⟨rfl,rfl,.inr rfl,fun _ _=>rfl⟩|exact⟨rfl,rfl,.inl rfl,fun i hi=>absurd hi (Nat.not_lt_zero _)⟩|apply And.intro)
     all_goals first
      |exact len_empty _
      |exact .inr rfl
      |exact fun _ _=>rfl
    |false =>
     rw[if_neg (by decide)]
     conv=>whnf
     refine brT rfl ?_
     conv=>whnf
     repeat'(first|exact ⟨⟩|exact rfl|exact⟨rfl,rfl,.inr rfl,fun _ _=>rfl⟩|exact⟨rfl,rfl,.inl rfl,fun i hi=>absurd hi (Nat.not_lt_zero _)⟩|apply And.intro)
     all_goals first
      |exact len_empty _
      |exact .inr rfl
      |exact fun _ _=>rfl
   have g4:¬ L.data.length=0:=by
    have h:¬ (L.data.length:Int)=0:=by simpa using g4
    omega
   have hV':=hyes (fun h=>h.elim g2 (fun h=>h.elim (fun h=>h g3) g4))
   conv=>whnf
   refine⟨fun g5=>?_,fun g5=>?_⟩
   ·have g5:ch.length ≥ 8:=by
     have h:(ch.length:Int) ≥ 8:=of_decide_eq_true g5
     omega
    rw [if_pos g5] at hV'
    rw[hV']
    conv=>whnf
    repeat'(first|exact ⟨⟩|exact rfl|exact⟨rfl,rfl,.inr rfl,fun _ _=>rfl⟩|exact⟨rfl,rfl,.inl rfl,fun i hi=>absurd hi (Nat.not_lt_zero _)⟩|apply And.intro)
    all_goals first
     |exact len_empty _
     |exact .inr rfl
     |exact fun _ _=>rfl
   have g5:¬ ch.length ≥ 8:=by
    have h:¬ (ch.length:Int) ≥ 8:=of_decide_eq_false g5
    omega
   rw [if_neg g5] at hV'
   conv=>whnf
   refine⟨by omega,?_⟩
   conv=>whnf
   refine⟨⟨Int.le_refl 0,by show(0:Int)<(L.data.length:Int);omega⟩,?_⟩
   conv=>whnf
   have hhd:L.data.headD []=L.data[0]?.getD []:=by cases L.data <;> rfl
   rw [hhd] at hV'
   refine⟨⟨k,L.data[0]?.getD [],ch++[L]⟩,[0,1,2,3,4,10],⟨hV'.symm,by show(ch++[L]).length+k=20;rw[List.length_append,List.length_singleton];omega,by show(ch++[L]).length≤8;rw[List.length_append,List.length_singleton];omega⟩,Nat.lt_succ_self k,?_⟩
   conv=>whnf
   repeat'(first|exact ⟨⟩|exact rfl|exact subZ_self _|exact Or.inr rfl|exact fun _ _=>rfl|exact fun _ h=>absurd h (Nat.not_lt_zero _)|apply And.intro)
   all_goals first
    |exact places_ren _
    |(show _+1=(_++[_]).length;simp;done)
    |exact fun j hj=>st_cat _ _ j hj
end Go.Proofs.Ytnfoihdifohkeaa
namespace Go.Proofs.Ytnfoihdifohkeaa
open Go Go.Eng
set_option maxRecDepth 100000
def eqF(t u:Int)(a b:List (List UInt8)):Bool:=a.map (rfold t) == b.map (rfold u)
def saysS(a b:St):Bool:=a.ok && (b.ok && (sameN a.nm b.nm && (a.ty == b.ty && eqF a.ty b.ty a.data b.data)))
set_option maxHeartbeats 8000000 in
theorem says_ok(a b:St):FnOk Try.prog 33 [a.V,b.V] (.d (.bool (saysS a b))):=by
 refine fnOk_of_run (TT:=TT) (IN:=lookI [(51,Try.f51,3),(52,Try.f52,4)]) TT_ok (INok_cons (INok_cons INok_nil Try.func52 (by kernel_rfl) (by kernel_rfl)) Try.func51 (by kernel_rfl) (by kernel_rfl)) mixed 1000 Try.func33 rfl (enters Try.func33 (by kernel_rfl) rfl) rfl 32 (by kernel_rfl) ?_
 conv=>whnf
 refine .one (.data _ (scheck_ok a.nm a.ty a.ttl a.z a.data) rfl rfl ?_)
 rw[show scheck a.nm a.ty a.ttl a.data=a.ok from rfl]
 cases hok:a.ok with
 |false =>
  rw[show saysS a b=false by unfold saysS;rw[hok];rfl]
  conv=>whnf
  repeat(first|(refine brT rfl ?_;conv=>whnf))
  try exact rfl
 |true =>
  conv=>whnf
  refine brF rfl ?_
  conv=>whnf
  refine .one (.data _ (scheck_ok b.nm b.ty b.ttl b.z b.data) rfl rfl ?_)
  rw[show scheck b.nm b.ty b.ttl b.data=b.ok from rfl]
  cases hok2:b.ok with
  |false =>
   rw[show saysS a b=false by unfold saysS;rw[hok,hok2];rfl]
   conv=>whnf
   repeat(first|(refine brT rfl ?_;conv=>whnf))
   try exact rfl
  |true =>
   conv=>whnf
   refine brF rfl ?_
   conv=>whnf
   refine .one (.data _ (lsame_ok a.nm b.nm) rfl rfl ?_)
   conv=>whnf
   cases hs:sameN a.nm b.nm with
   |false =>
    rw[show saysS a b=false by unfold saysS;rw[hok,hok2,hs];rfl]
    repeat(first|(refine brT rfl ?_;conv=>whnf))
    try exact rfl
   |true =>
    refine brF rfl ?_
    conv=>whnf
    cases ht:a.ty == b.ty with
    |false =>
     rw[show saysS a b=false by unfold saysS;rw[hok,hok2,hs,ht];rfl]
     refine brT (by show(!(a.ty == b.ty))=true;rw[ht];rfl) ?_
     conv=>whnf
     try exact rfl
    |true =>
     rw[show saysS a b=eqF a.ty b.ty a.data b.data by unfold saysS;rw[hok,hok2,hs,ht];rfl]
     have h64:a.data.length≤64:=by
      unfold St.ok scheck at hok
      simp only [Bool.and_eq_true,decide_eq_true_eq] at hok
      exact hok.1.2.2
     refine brF (by show(!(a.ty == b.ty))=false;rw[ht];rfl) ?_
     conv=>whnf
     refine⟨fun h1=>?_,fun h1=>?_⟩
     ·have h:a.data.length≠b.data.length:=by intro e;rw [e] at h1;simp at h1
      rw[show eqF a.ty b.ty a.data b.data=false from teq_len (by simpa using h)]
      conv=>whnf
      try exact rfl
     have hl:a.data.length=b.data.length:=by simp at h1;omega
     conv=>whnf
     refine .inv Nat (fun i=>i≤a.data.length∧eqF a.ty b.ty (a.data.drop i) (b.data.drop i)=eqF a.ty b.ty a.data b.data) (fun i=>[(17,iV i)]) (fun _=>[]) (fun i=>a.data.length - i) ⟨0,[0,1],⟨Nat.zero_le _,rfl⟩,?_⟩ ?_
     ·conv=>whnf
      repeat'(first|exact ⟨⟩|exact rfl|exact fun _=>Iff.rfl|exact fun _ _=>rfl|exact renM_ent rfl _|apply And.intro)
     rintro i ⟨hi,hrest⟩
     conv=>whnf
     refine⟨fun c5=>?_,fun c5=>?_⟩
     ·have c5':i<a.data.length:=(by have h:(i:Int)<a.data.length:=of_decide_eq_true c5;omega)
      obtain⟨q,hq⟩:∃ q,a.data[i]?.getD []=q:=⟨_,rfl⟩
      obtain⟨r,hr⟩:∃ r,b.data[i]?.getD []=r:=⟨_,rfl⟩
      have hda:a.data.drop i=q :: a.data.drop (i+1):=by
       rw[List.drop_eq_getElem_cons c5',←hq,List.getElem?_eq_getElem c5']
       rfl
      have hdb:b.data.drop i=r :: b.data.drop (i+1):=by
       rw[List.drop_eq_getElem_cons (by omega),←hr,List.getElem?_eq_getElem (by omega)]
       rfl
      have hst:(rfold a.ty q == rfold b.ty r && eqF a.ty b.ty (a.data.drop (i+1)) (b.data.drop (i+1)))=eqF a.ty b.ty a.data b.data:=by rw[←hrest,hda,hdb];rfl
      have hw1:IntKind.i64.wrap ((i:Int)+1)=((i+1:Nat):Int):=by rw[w64_in _ (by omega)];omega
      conv=>whnf
      refine⟨by omega,?_⟩
      conv=>whnf
      refine⟨by omega,?_⟩
      conv=>whnf
      rw[Int.toNat_natCast,hq,hr]
      refine .data _ (rfold_ok a.ty q) rfl rfl ?_
      conv=>whnf
      refine .data _ (rfold_ok b.ty r) rfl rfl ?_
      conv=>whnf
      cases he:rfold a.ty q == rfold b.ty r
      ·rw [he,Bool.false_and] at hst
       rw[←hst]
       refine brT rfl ?_
       conv=>whnf
       try exact rfl
      ·rw [he,Bool.true_and] at hst
       refine brF rfl ?_
       conv=>whnf
       rw[hw1]
       refine⟨i+1,[0,1],⟨c5',hst⟩,by omega,?_⟩
       conv=>whnf
       repeat'(first|exact ⟨⟩|exact rfl|exact fun _=>Iff.rfl|exact fun _ _=>rfl|exact renM_ent rfl _|apply And.intro)
     have hia:i=a.data.length:=(by have h:¬ (i:Int)<a.data.length:=of_decide_eq_false c5;omega)
     rw [List.drop_of_length_le (by omega),List.drop_of_length_le (by omega)] at hrest
     rw[←hrest]
     conv=>whnf
     exact rfl
end Go.Proofs.Ytnfoihdifohkeaa
namespace Go.Proofs.Ytnfoihdifohkeaa
open Go Go.Eng
set_option maxRecDepth 100000
def sayTo(l m:List St)(i:Nat):Bool:=(List.range i).all fun j=>saysS (l.getD j default) (m.getD j default)
def saysL(l m:List St):Bool:=l.length == m.length && sayTo l m l.length
theorem sayTo_succ(l m:List St)(i:Nat):sayTo l m (i+1)=(sayTo l m i && saysS (l.getD i default) (m.getD i default)):=by
 unfold sayTo
 rw[List.range_succ,List.all_append]
 simp
theorem sayTo_bad{l m:List St}{i:Nat}(hi:i<l.length)(h:saysS (l.getD i default) (m.getD i default)=false):sayTo l m l.length=false:=by
 unfold sayTo
 rw[List.all_eq_false]
 exact⟨i,List.mem_range.2 hi,by rw[h];decide⟩
set_option maxHeartbeats 8000000 in
theorem eqsets_ok(y z:Bool)(l m:List St)(hl:l.length≤100000):FnOk Try.prog 32 [.d (stsD y l),.d (stsD z m),.fn 33 []] (.d (.bool (saysL l m))):=by
 refine fnOk_of_run (TT:=TT) (IN:=lookI []) TT_ok INok_nil mixed 1000 Try.func32 rfl (enters Try.func32 (by kernel_rfl) rfl) rfl 29 (by kernel_rfl) ?_
 unfold saysL
 conv=>whnf
 by_cases hlen:l.length=m.length
 case neg =>
  rw[show(l.length == m.length)=false by simpa using hlen,Bool.false_and]
  refine brT (by rw[bne_iff_ne];omega) ?_
  conv=>whnf
  all_goals exact rfl
 rw[show(l.length == m.length)=true by simpa using hlen,Bool.true_and]
 refine brF (by rw[bne_eq_false_iff_eq];omega) ?_
 conv=>whnf
 refine .inv Nat (fun i=>i≤l.length∧sayTo l m i=true) (fun i=>[(17,iV i)]) (fun _=>[]) (fun i=>l.length - i) ⟨0,[],⟨Nat.zero_le _,rfl⟩,?_⟩ ?_
 ·conv=>whnf
  repeat'(first|exact ⟨⟩|exact rfl|exact subZ_self _|exact Or.inr rfl|exact fun _ _=>rfl|exact fun _ h=>absurd h (Nat.not_lt_zero _)|apply And.intro)
 intro i hi
 obtain⟨hi,hti⟩:=hi
 conv=>whnf
 refine⟨fun h1=>?_,fun h1=>?_⟩
 ·have h1:i<l.length:=by
   have h:(i:Int)<l.length:=of_decide_eq_true h1
   omega
  have hw1:IntKind.i64.wrap ((i:Int)+1)=((i+1:Nat):Int):=by rw[w64_in _ (by omega)];omega
  have hnx:=sayTo_succ l m i
  rw [hti,Bool.true_and] at hnx
  have hbad:=sayTo_bad (m:=m) h1
  conv=>whnf
  refine⟨by omega,?_⟩
  conv=>whnf
  refine⟨by omega,?_⟩
  conv=>whnf
  rw[Int.toNat_natCast]
  generalize l.getD i default=a at hnx hbad ⊢
  generalize m.getD i default=b at hnx hbad ⊢
  refine .one (.data _ (says_ok a b) rfl rfl ?_)
  cases hs:saysS a b with
  |false =>
   rw[hbad hs]
   conv=>whnf
   refine brT rfl ?_
   conv=>whnf
   all_goals exact rfl
  |true =>
   conv=>whnf
   refine brF rfl ?_
   conv=>whnf
   rw[hw1]
   refine⟨i+1,[],⟨h1,by rw[hnx,hs]⟩,by omega,?_⟩
   conv=>whnf
   repeat'(first|exact ⟨⟩|exact rfl|exact subZ_self _|exact Or.inr rfl|exact fun _ _=>rfl|exact fun _ h=>absurd h (Nat.not_lt_zero _)|apply And.intro)
 ·have h1:i=l.length:=by
   have h:¬ (i:Int)<l.length:=of_decide_eq_false h1
   omega
  subst h1
  conv=>whnf
  rw[hti]
  all_goals exact rfl
def sameVer(a b:Ver):Bool:=a.code == b.code && (saysL a.chain b.chain && (if a.ans.data.length=0∧b.ans.data.length=0 then true else saysS a.ans b.ans))
set_option maxHeartbeats 8000000 in
theorem isame_ok(a b:Ver)(hl:a.chain.length≤100000):FnOk Try.prog 15 [a.V,b.V] (.d (.bool (sameVer a b))):=by
 refine fnOk_of_run (TT:=TT) (IN:=lookI []) TT_ok INok_nil mixed 1000 Try.func15 rfl (enters Try.func15 (by kernel_rfl) rfl) rfl 33 (by kernel_rfl) ?_
 conv=>whnf
 refine⟨fun h1=>?_,fun h1=>?_⟩
 ·have h1:(a.code == b.code)=false:=by simpa using h1
  rw[show sameVer a b=false by unfold sameVer;rw[h1];rfl]
  conv=>whnf
  all_goals exact rfl
 have h1:(a.code == b.code)=true:=by simpa using h1
 conv=>whnf
 refine .one (.data _ (eqsets_ok a.chain.isEmpty b.chain.isEmpty a.chain b.chain hl) rfl rfl ?_)
 cases h2:saysL a.chain b.chain with
 |false =>
  rw[show sameVer a b=false by unfold sameVer;rw[h1,h2];rfl]
  conv=>whnf
  refine brT rfl ?_
  conv=>whnf
  all_goals exact rfl
 |true =>
  have hs:sameVer a b=if a.ans.data.length=0∧b.ans.data.length=0 then true else saysS a.ans b.ans:=by unfold sameVer;rw[h1,h2];rfl
  rw[hs]
  conv=>whnf
  refine brF rfl ?_
  conv=>whnf
  refine⟨fun h3=>?_,fun h3=>?_⟩
  ·have h3:a.ans.data.length=0:=by
    have h:(a.ans.data.length:Int)=0:=by simpa using h3
    omega
   conv=>whnf
   refine⟨fun h4=>?_,fun h4=>?_⟩
   ·have h4:b.ans.data.length=0:=by
     have h:(b.ans.data.length:Int)=0:=by simpa using h4
     omega
    rw[if_pos ⟨h3,h4⟩]
    conv=>whnf
    all_goals exact rfl
   ·have h4:¬ b.ans.data.length=0:=by
     have h:¬ (b.ans.data.length:Int)=0:=by simpa using h4
     omega
    rw[if_neg (fun h=>h4 h.2)]
    conv=>whnf
    refine .one (.data _ (says_ok a.ans b.ans) rfl rfl ?_)
    conv=>whnf
    all_goals exact rfl
  ·have h3:¬ a.ans.data.length=0:=by
    have h:¬ (a.ans.data.length:Int)=0:=by simpa using h3
    omega
   rw[if_neg (fun h=>h3 h.1)]
   conv=>whnf
   refine .one (.data _ (says_ok a.ans b.ans) rfl rfl ?_)
   conv=>whnf
   all_goals exact rfl
set_option maxHeartbeats 4000000 in
theorem rclone_ok(y:Bool)(a:List RR)(h:y=true→a=[])(ha:a.length≤1000000):FnOk Try.prog 31 [.d (rrsD y a)] (.d (rrsD y a)):=by
 refine fnOk_of_run (TT:=TT) (IN:=lookI []) TT_ok INok_nil mixed 1000 Try.func31 rfl (enters Try.func31 (by kernel_rfl) rfl) rfl 7 (by kernel_rfl) ?_
 conv=>whnf
 refine⟨fun h1=>?_,fun h1=>?_⟩
 ·have h1:y=true:=h1
  rw[h h1,h1]
  conv=>whnf
  exact⟨rfl,rfl,.inl rfl,fun i hi=>absurd hi (Nat.not_lt_zero _)⟩
 ·have h1:y=false:=h1
  rw[h1]
  conv=>whnf
  refine⟨by omega,?_⟩
  conv=>whnf
  refine⟨rfl,Nat.zero_add _,.inr rfl,fun i hi=>?_⟩
  unfold catF
  rw[if_neg (Nat.not_lt_zero _),Nat.sub_zero]
def small22(z:Zo):Bool:=decide (z.apex.length≤1000) && (decide (z.rrs.length≤60) && z.rrs.all fun r=>decide (r.d.length≤5000) && decide (r.nm.length≤1000))
set_option maxHeartbeats 8000000 in
theorem small22_ok(z:Zo):FnOk Try.prog 16 [z.V] (.d (.int .i64 (if small22 z then 1 else 0))):=by
 refine fnOk_of_run (TT:=TT) (IN:=lookI []) TT_ok INok_nil mixed 1000 Try.func16 rfl (enters Try.func16 (by kernel_rfl) rfl) rfl 32 (by kernel_rfl) ?_
 conv=>whnf
 refine⟨fun h1=>?_,fun h1=>?_⟩
 ·have h1:¬ z.apex.length≤1000:=by
   have h:(z.apex.length:Int) > 1000:=of_decide_eq_true h1
   omega
  rw[show small22 z=false by unfold small22;rw[decide_eq_false h1];rfl]
  conv=>whnf
  all_goals exact rfl
 have h1:z.apex.length≤1000:=by
  have h:¬ (z.apex.length:Int) > 1000:=of_decide_eq_false h1
  omega
 conv=>whnf
 refine⟨fun h2=>?_,fun h2=>?_⟩
 ·have h2:¬ z.rrs.length≤60:=by
   have h:(z.rrs.length:Int) > 60:=of_decide_eq_true h2
   omega
  rw[show small22 z=false by unfold small22;rw[decide_eq_false h2,Bool.false_and,Bool.and_false]]
  conv=>whnf
  all_goals exact rfl
 have h2:z.rrs.length≤60:=by
  have h:¬ (z.rrs.length:Int) > 60:=of_decide_eq_false h2
  omega
 have hs:small22 z=z.rrs.all fun r=>decide (r.d.length≤5000) && decide (r.nm.length≤1000):=by unfold small22;rw[decide_eq_true h1,decide_eq_true h2];rfl
 rw[hs]
 conv=>whnf
 refine .inv Nat (fun i=>i≤z.rrs.length∧(z.rrs.take i).all (fun r=>decide (r.d.length≤5000) && decide (r.nm.length≤1000))=true) (fun i=>[(18,iV i)]) (fun i=>[]) (fun i=>z.rrs.length - i) ⟨0,[0],⟨Nat.zero_le _,rfl⟩,?_⟩ ?_
 ·conv=>whnf
  repeat'(first|exact ⟨⟩|exact rfl|exact subZ_self _|exact Or.inr rfl|exact fun _ _=>rfl|exact fun _ h=>absurd h (Nat.not_lt_zero _)|apply And.intro)
 intro i hi
 obtain⟨hi,hti⟩:=hi
 conv=>whnf
 refine⟨fun h3=>?_,fun h3=>?_⟩
 ·have h3:i<z.rrs.length:=by
   have h:(i:Int)<z.rrs.length:=of_decide_eq_true h3
   omega
  have hw1:IntKind.i64.wrap ((i:Int)+1)=((i+1:Nat):Int):=by rw[w64_in _ (by omega)];omega
  obtain⟨r,hr⟩:∃ r,z.rrs.getD i default=r:=⟨_,rfl⟩
  have hrl:z.rrs[i]? = some r:=by rw[←hr,List.getD,List.getElem?_eq_getElem h3];rfl
  have hbad:(decide (r.d.length≤5000) && decide (r.nm.length≤1000))=false→(z.rrs.all fun r=>decide (r.d.length≤5000) && decide (r.nm.length≤1000))=false:=fun h=>by
   rw[List.all_eq_false]
   exact⟨r,List.mem_of_getElem? hrl,by rw[h];decide⟩
  conv=>whnf
  refine⟨by omega,?_⟩
  conv=>whnf
  rw[Int.toNat_natCast,hr]
  refine⟨fun h4=>?_,fun h4=>?_⟩
  ·have h4:¬ r.d.length≤5000:=by
    have h:(r.d.length:Int) > 5000:=of_decide_eq_true h4
    omega
   rw[hbad (by rw[decide_eq_false h4];rfl)]
   conv=>whnf
   all_goals exact rfl
  have h4:r.d.length≤5000:=by
   have h:¬ (r.d.length:Int) > 5000:=of_decide_eq_false h4
   omega
  conv=>whnf
  refine⟨fun h5=>?_,fun h5=>?_⟩
  ·have h5:¬ r.nm.length≤1000:=by
    have h:(r.nm.length:Int) > 1000:=of_decide_eq_true h5
    omega
   rw[hbad (by rw[decide_eq_false h5,Bool.and_false])]
   conv=>whnf
   all_goals exact rfl
  have h5:r.nm.length≤1000:=by
   have h:¬ (r.nm.length:Int) > 1000:=of_decide_eq_false h5
   omega
  conv=>whnf
  rw[hw1]
  refine⟨i+1,[0],⟨h3,by rw[List.take_add_one,hrl,List.all_append,hti];simp[h4,h5]⟩,by omega,?_⟩
  conv=>whnf
  repeat'(first|exact ⟨⟩|exact rfl|exact subZ_self _|exact Or.inr rfl|exact fun _ _=>rfl|exact fun _ h=>absurd h (Nat.not_lt_zero _)|apply And.intro)
 ·have h3:i=z.rrs.length:=by
   have h:¬ (i:Int)<z.rrs.length:=of_decide_eq_false h3
   omega
  subst h3
  rw [List.take_length] at hti
  rw[hti]
  conv=>whnf
  all_goals exact rfl
def Fo.small(f:Fo):Bool:=decide (f.zones.length≤8) && (decide (f.hosts.length≤12) && f.zones.all small22)
set_option maxHeartbeats 8000000 in
theorem small24_ok(f:Fo):FnOk Try.prog 5 [f.V] (.d (.int .i64 (if f.small then 1 else 0))):=by
 refine fnOk_of_run (TT:=TT) (IN:=lookI []) TT_ok INok_nil mixed 1000 Try.func5 rfl (enters Try.func5 (by kernel_rfl) rfl) rfl 25 (by kernel_rfl) ?_
 conv=>whnf
 refine⟨fun h1=>?_,fun h1=>?_⟩
 ·have h1:¬ f.zones.length≤8:=by
   have h:(f.zones.length:Int) > 8:=of_decide_eq_true h1
   omega
  rw[show f.small=false by unfold Fo.small;rw[decide_eq_false h1];rfl]
  conv=>whnf
  all_goals exact rfl
 have h1:f.zones.length≤8:=by
  have h:¬ (f.zones.length:Int) > 8:=of_decide_eq_false h1
  omega
 conv=>whnf
 refine⟨fun h2=>?_,fun h2=>?_⟩
 ·have h2:¬ f.hosts.length≤12:=by
   have h:(f.hosts.length:Int) > 12:=of_decide_eq_true h2
   omega
  rw[show f.small=false by unfold Fo.small;rw[decide_eq_false h2,Bool.false_and,Bool.and_false]]
  conv=>whnf
  all_goals exact rfl
 have h2:f.hosts.length≤12:=by
  have h:¬ (f.hosts.length:Int) > 12:=of_decide_eq_false h2
  omega
 have hs:f.small=f.zones.all small22:=by unfold Fo.small;rw[decide_eq_true h1,decide_eq_true h2];rfl
 rw[hs]
 conv=>whnf
 refine .inv Nat (fun i=>i≤f.zones.length∧(f.zones.take i).all small22=true) (fun i=>[(18,iV i)]) (fun i=>[]) (fun i=>f.zones.length - i) ⟨0,[0],⟨Nat.zero_le _,rfl⟩,?_⟩ ?_
 ·conv=>whnf
  repeat'(first|exact ⟨⟩|exact rfl|exact subZ_self _|exact Or.inr rfl|exact fun _ _=>rfl|exact fun _ h=>absurd h (Nat.not_lt_zero _)|apply And.intro)
 intro i hi
 obtain⟨hi,hti⟩:=hi
 conv=>whnf
 refine⟨fun h3=>?_,fun h3=>?_⟩
 ·have h3:i<f.zones.length:=by
   have h:(i:Int)<f.zones.length:=of_decide_eq_true h3
   omega
  have hw1:IntKind.i64.wrap ((i:Int)+1)=((i+1:Nat):Int):=by rw[w64_in _ (by omega)];omega
  obtain⟨z,hzd⟩:∃ z,f.zones.getD i default=z:=⟨_,rfl⟩
  have hzl:f.zones[i]? = some z:=by rw[←hzd,List.getD,List.getElem?_eq_getElem h3];rfl
  conv=>whnf
  refine⟨by omega,?_⟩
  conv=>whnf
  rw[Int.toNat_natCast,hzd]
  refine .one (.data _ (small22_ok z) rfl rfl ?_)
  cases hz:small22 z with
  |false =>
   have hb:f.zones.all small22=false:=by
    rw[List.all_eq_false]
    exact⟨z,List.mem_of_getElem? hzl,by rw[hz];decide⟩
   rw[hb,if_neg (by decide)]
   conv=>whnf
   refine brT rfl ?_
   conv=>whnf
   all_goals exact rfl
  |true =>
   rw[if_pos rfl]
   conv=>whnf
   refine brF rfl ?_
   conv=>whnf
   rw[hw1]
   refine⟨i+1,[0],⟨h3,by rw[List.take_add_one,hzl,List.all_append,hti];simp[hz]⟩,by omega,?_⟩
   conv=>whnf
   repeat'(first|exact ⟨⟩|exact rfl|exact subZ_self _|exact Or.inr rfl|exact fun _ _=>rfl|exact fun _ h=>absurd h (Nat.not_lt_zero _)|apply And.intro)
 ·have h3:i=f.zones.length:=by
   have h:¬ (i:Int)<f.zones.length:=of_decide_eq_false h3
   omega
  subst h3
  rw [List.take_length] at hti
  rw[hti]
  conv=>whnf
  all_goals exact rfl
end Go.Proofs.Ytnfoihdifohkeaa
namespace Go.Proofs.Ytnfoihdifohkeaa
open Go Go.Eng
set_option maxRecDepth 100000
def lzD:List UInt8:=[0,0]++List.replicate 20 0
def lzS:RR:=⟨[0],6,1,9,lzD⟩
def lzN:RR:=⟨[0],2,1,9,[1,110,0]⟩
def lzB:RR:=⟨[1,98,0],2,1,9,[1,110,1,98,0]⟩
def lzC:RR:=⟨[1,97,0],5,1,9,[1,119,1,98,0]⟩
def lzS2:RR:=⟨[1,98,0],6,1,9,lzD⟩
def lzN2:RR:=⟨[1,98,0],2,1,9,[1,110,0]⟩
def lzA:RR:=⟨[1,119,1,98,0],1,1,9,[97,98,99,100]⟩
def lzF:Fo:=⟨false,[⟨[0],false,[lzS,lzN,lzB,lzC]⟩,⟨[1,98,0],false,[lzS2,lzN2,lzA]⟩],false,[(7,false,[1])]⟩
def lzQ:Q:=⟨[1,97,0],1,1⟩
def lzX:Q:=⟨[1,120,0],1,1⟩
def lzV:Ver:=⟨[⟨[1,97,0],5,9,false,[[1,119,1,98,0]]⟩],⟨[1,119,1,98,0],1,9,false,[[97,98,99,100]]⟩,0,0⟩
def lzW:Ver:=⟨[],St.no,3,0⟩
theorem lz_ok:lzF.ok=true:=by kernel_rfl
theorem lz_of:ofR lzF lzQ=lzV:=by kernel_rfl
theorem lz_ofX:ofR lzF lzX=lzW:=by kernel_rfl
theorem lz_zone:zoneR lzF [1,98,0]=(1,0):=by kernel_rfl
theorem lz_same:sameVer lzV lzV=true∧sameVer lzV lzW=false:=⟨by kernel_rfl,by kernel_rfl⟩
def lzR1:List DV:=lzS.enc++(lzN.enc++(lzB.enc++lzC.enc))
def lzR2:List DV:=lzS2.enc++(lzN2.enc++lzA.enc)
def lzZr:List DV:=[.str [0],.sl false 4 5 (chunk lzR1 5),.str [1,98,0],.sl false 3 5 (chunk lzR2 5)]
def lzHr:List DV:=[.int .u32 7,.sl false 1 1 (chunk [.int .i64 1] 1)]
def lzG:SV:=.agg [.d (.sl false 2 2 (chunk lzZr 2)),.d (.sl false 1 2 (chunk lzHr 2))]
theorem lz_z1:DS (.sl false 4 5 (chunk lzR1 5)) (rrsD false [lzS,lzN,lzB,lzC]):=DS.rows fun i hi=>(match i,hi with
 |0,_=>DSL.refl _
 |1,_=>DSL.refl _
 |2,_=>DSL.refl _
 |3,_=>DSL.refl _)
theorem lz_z2:DS (.sl false 3 5 (chunk lzR2 5)) (rrsD false [lzS2,lzN2,lzA]):=DS.rows fun i hi=>(match i,hi with
 |0,_=>DSL.refl _
 |1,_=>DSL.refl _
 |2,_=>DSL.refl _)
theorem lz_aF:AEq lzG lzF.V:=AEq.aggL ⟨.d (DS.rows fun i hi=>(match i,hi with
 |0,_=>⟨.refl _,lz_z1,trivial⟩
 |1,_=>⟨.refl _,lz_z2,trivial⟩)),.d (DS.rows fun i hi=>(match i,hi with
 |0,_=>⟨.refl _,DS.rows fun i hi=>(match i,hi with
  |0,_=>DSL.refl _),trivial⟩)),trivial⟩
theorem Fo.fit_small{f:Fo}(h:f.small=true):f.Fit:=fun z hz=>by
 unfold Fo.small at h
 simp only [Bool.and_eq_true,List.all_eq_true] at h
 have h1:=h.2.2 z hz
 unfold small22 at h1
 simp only [Bool.and_eq_true,decide_eq_true_eq,List.all_eq_true] at h1
 exact⟨by omega,fun r hr=>by have:=h1.2.2 r hr;omega⟩
theorem lz_fit:lzF.Fit:=Fo.fit_small (by kernel_rfl)
theorem lz_len:lzF.Len:=fun h hh=>by
 simp only [lzF,List.mem_cons,List.mem_nil_iff,or_false] at hh
 subst hh
 decide
set_option maxHeartbeats 32000000 in
theorem lives24_ok:FnOk Try.prog 4 [] (.d (.bool true)):=by
 have c1:=(iof_ok lzF lz_fit lz_len lzQ).convA (args':=[lzG,.agg [.d (.str [1,97,0]),.d (.int .u16 1),.d (.int .u16 1)]]) ⟨lz_aF,.refl _,trivial⟩
 rw [lz_of] at c1
 have c2:=(iof_ok lzF lz_fit lz_len lzX).convA (args':=[lzG,.agg [.d (.str [1,120,0]),.d (.int .u16 1),.d (.int .u16 1)]]) ⟨lz_aF,.refl _,trivial⟩
 rw [lz_ofX] at c2
 have c3:=(izone_ok lzF lz_fit lz_len [1,98,0]).convA (args':=[lzG,.d (.str [1,98,0])]) ⟨lz_aF,.refl _,trivial⟩
 rw [lz_zone] at c3
 have c4:=(icheck_ok lzF lz_fit lz_len).convA (args':=[lzG]) ⟨lz_aF,trivial⟩
 rw [lz_ok,if_pos rfl] at c4
 have c5:=izone_ok ⟨true,[],true,[]⟩ (fun z hz=>by cases hz) (fun h hh=>by cases hh) [0]
 rw [show zoneR ⟨true,[],true,[]⟩ [0]=(0,2) by kernel_rfl] at c5
 have c5:=c5.convA (args':=[.agg [nilS,nilS],.d (.str [0])]) ⟨AEq.aggL ⟨.none _ _ _ _ _,.none _ _ _ _ _,trivial⟩,.refl _,trivial⟩
 have c8:=(rclone_ok false [lzS2,lzN2,lzA] (fun h=>by cases h) (by decide)).convA (args':=[.d (.sl false 3 5 (chunk lzR2 5))]) ⟨.d lz_z2,trivial⟩
 have c6:=isame_ok lzV lzV (by decide)
 rw [lz_same.1] at c6
 have c7:=isame_ok lzV lzW (by decide)
 rw [lz_same.2] at c7
 refine fnOk_of_run (TT:=TT) (IN:=lookI [(14,Try.f14,2),(29,Try.f29,2),(30,Try.f30,2)]) TT_ok (INok_cons (INok_cons (INok_cons INok_nil Try.func30 (by kernel_rfl) (by kernel_rfl)) Try.func29 (by kernel_rfl) (by kernel_rfl)) Try.func14 (by kernel_rfl) (by kernel_rfl)) mixed 1000 Try.func4 rfl (enters Try.func4 (by kernel_rfl) rfl) rfl 151 (by kernel_rfl) ?_
 conv=>whnf
 refine⟨by decide,?_⟩
 conv=>whnf
 refine⟨fun i _=>⟨0,rfl⟩,?_⟩
 conv=>whnf
 refine⟨by decide,?_⟩
 conv=>whnf
 refine .fz [5,8,11] [(10,49,lzZr.map .d),(12,59,lzHr.map .d)] ⟨⟨_,rfl,?_,rfl⟩,⟨_,rfl,?_,rfl⟩,True.intro⟩ ?_
 ·conv=>whnf
  exact⟨rfl,rfl⟩
 ·conv=>whnf
  exact⟨rfl,rfl⟩
 refine .still [10,12] [(13,25,[.d (.sl false 2 2 (chunk lzZr 2)),.d (.sl false 1 2 (chunk lzHr 2))])] (.tup [lzV.V,.d (.int .i64 0)]) _ ⟨⟨_,rfl,?_,rfl⟩,True.intro⟩ ?_ c1 rfl rfl ?_
 ·conv=>whnf
  exact⟨rfl,rfl⟩
 ·conv=>whnf
  exact⟨rfl,rfl⟩
 conv=>whnf
 refine .one (.data _ c2 rfl rfl ?_)
 conv=>whnf
 refine .one (.data _ c3 rfl rfl ?_)
 conv=>whnf
 refine .one (.data _ c4 rfl rfl ?_)
 conv=>whnf
 repeat(first|(refine brT rfl ?_;conv=>whnf)|(refine brF rfl ?_;conv=>whnf)|(refine .once ?_;conv=>whnf)|(refine⟨by decide,?_⟩;conv=>whnf)|(refine And.intro (Nat.le_of_ble_eq_true rfl) ?_;conv=>whnf))
 refine .data _ c8 rfl rfl ?_
 conv=>whnf
 repeat(first|(refine brT rfl ?_;conv=>whnf)|(refine brF rfl ?_;conv=>whnf)|(refine .once ?_;conv=>whnf)|(refine⟨by decide,?_⟩;conv=>whnf)|(refine And.intro (Nat.le_of_ble_eq_true rfl) ?_;conv=>whnf))
 refine .one (.data _ c4 rfl rfl ?_)
 conv=>whnf
 repeat(first|(refine brT rfl ?_;conv=>whnf)|(refine brF rfl ?_;conv=>whnf)|(refine .once ?_;conv=>whnf)|(refine⟨by decide,?_⟩;conv=>whnf)|(refine And.intro (Nat.le_of_ble_eq_true rfl) ?_;conv=>whnf))
 refine .one (.data _ c5 rfl rfl ?_)
 conv=>whnf
 refine .one (.data _ c4 rfl rfl ?_)
 conv=>whnf
 repeat(first|(refine brT rfl ?_;conv=>whnf)|(refine brF rfl ?_;conv=>whnf)|(refine .once ?_;conv=>whnf)|(refine⟨by decide,?_⟩;conv=>whnf)|(refine And.intro (Nat.le_of_ble_eq_true rfl) ?_;conv=>whnf))
 refine .one (.data _ c6 rfl rfl ?_)
 conv=>whnf
 repeat(first|(refine brT rfl ?_;conv=>whnf)|(refine brF rfl ?_;conv=>whnf)|(refine .once ?_;conv=>whnf)|(refine⟨by decide,?_⟩;conv=>whnf)|(refine And.intro (Nat.le_of_ble_eq_true rfl) ?_;conv=>whnf))
 refine .one (.data _ c7 rfl rfl ?_)
 conv=>whnf
 repeat(first|(refine brT rfl ?_;conv=>whnf)|(refine brF rfl ?_;conv=>whnf)|(refine .once ?_;conv=>whnf)|(refine⟨by decide,?_⟩;conv=>whnf)|(refine And.intro (Nat.le_of_ble_eq_true rfl) ?_;conv=>whnf))
 all_goals exact rfl
end Go.Proofs.Ytnfoihdifohkeaa
namespace Go.Proofs.Ytnfoihdifohkeaa
open Go Go.Eng
set_option maxRecDepth 100000
theorem of_fail{zs:List Zo}{ty:Int}:∀ (k:Nat) (name:List UInt8) (chain:List St),(ofF zs ty k name chain).why≠0→(ofF zs ty k name chain).chain=[]∧(ofF zs ty k name chain).ans=St.no
 |0,_,_,_=>⟨rfl,rfl⟩
 |k+1,name,chain,h=>by
  unfold ofF at h ⊢
  split
  ·rename_i hn
   rw [if_pos hn] at h
   split
   ·exact⟨rfl,rfl⟩
   ·rename_i at_ hd
    rw [hd] at h
    simp only at h
    split
    ·rename_i h1
     rw [if_pos h1] at h
     exact absurd rfl h
    ·rename_i h1
     rw [if_neg h1] at h
     split
     ·rename_i h2
      rw [if_pos h2] at h
      exact absurd rfl h
     ·rename_i h2
      rw [if_neg h2] at h
      split
      ·exact⟨rfl,rfl⟩
      ·rename_i h3
       rw [if_neg h3] at h
       exact of_fail k _ _ h
  ·exact⟨rfl,rfl⟩
theorem chainF_at:∀ {l:List St} {n m:List UInt8},chainF n l=some m→∀ i,i≤l.length→∃ x,chainF n (l.take i)=some x∧chainF x (l.drop i)=some m
 |l,n,m,h,0,_=>⟨n,by rw[List.take_zero];rfl,h⟩
 |[],n,m,h,i+1,hi=>by simp at hi
 |s :: l,n,m,h,i+1,hi=>by
  unfold chainF at h
  split at h
  ·rename_i hc
   obtain⟨x,h1,h2⟩:=chainF_at h i (by simpa using hi)
   exact⟨x,by rw[List.take_succ_cons];unfold chainF;rw[if_pos hc];exact h1,h2⟩
  ·cases h
theorem chainF_step{l:List St}{n m:List UInt8}(h:chainF n l=some m){i:Nat}{x:List UInt8}{s:St}(hx:chainF n (l.take i)=some x)(hs:l[i]? = some s):sameN s.nm x=true∧s.ty=5∧s.ok=true∧chainF n (l.take (i+1))=some (s.data.headD []):=by
 have hi:i<l.length:=(List.getElem?_eq_some_iff.1 hs).1
 obtain⟨y,h1,h2⟩:=chainF_at h i (Nat.le_of_lt hi)
 rw [hx] at h1
 cases h1
 have hd:l.drop i=s :: l.drop (i+1):=by rw [List.drop_eq_getElem_cons hi];congr 1;rw [List.getElem?_eq_getElem hi] at hs;exact Option.some.inj hs
 rw [hd] at h2
 unfold chainF at h2
 split at h2
 ·rename_i hc
  simp only [Bool.and_eq_true,beq_iff_eq] at hc
  refine⟨hc.1,hc.2.1,hc.2.2,?_⟩
  rw[List.take_add_one,hs]
  exact chainF_snoc hx hc.1 hc.2.1 hc.2.2
 ·cases h2
theorem of_len{zs:List Zo}{ty:Int}:∀ (k:Nat) (name:List UInt8) (chain:List St),chain.length≤8→(ofF zs ty k name chain).chain.length≤8
 |0,_,_,_=>Nat.zero_le _
 |k+1,name,chain,h=>by
  unfold ofF
  split
  ·split
   ·exact Nat.zero_le _
   ·split
    ·exact h
    ·split
     ·exact h
     ·split
      ·exact Nat.zero_le _
      ·exact of_len k _ _ (by rw[List.length_append,List.length_singleton];omega)
  ·exact Nat.zero_le _
set_option maxHeartbeats 32000000 in
theorem idealone_ok(f:Fo)(hl:f.Len)(q:Q):FnOk Try.prog 3 [f.V,.agg [.d (.str q.nm),.d (.int .u16 q.ty),.d (.int .u16 q.cl)]] (.d (.bool true)):=by
 refine fnOk_of_run (TT:=TT) (IN:=lookI []) TT_ok INok_nil mixed 1000 Try.func3 rfl (enters Try.func3 (by kernel_rfl) rfl) rfl 151 (by kernel_rfl) ?_
 conv=>whnf
 refine .one (.data _ lives24_ok rfl rfl ?_)
 conv=>whnf
 refine brF rfl ?_
 conv=>whnf
 refine .one (.data _ (small24_ok f) rfl rfl ?_)
 cases hs:f.small with
 |false =>
  rw[if_neg (by decide)]
  conv=>whnf
  refine brT rfl ?_
  conv=>whnf
  all_goals exact rfl
 |true =>
  have hf:=Fo.fit_small hs
  rw[if_pos rfl]
  conv=>whnf
  refine brF rfl ?_
  conv=>whnf
  refine .one (.data _ (icheck_ok f hf hl) rfl rfl ?_)
  cases hok:f.ok with
  |false =>
   rw[if_neg (by decide)]
   conv=>whnf
   refine brT rfl ?_
   conv=>whnf
   all_goals exact rfl
  |true =>
   obtain⟨⟨h1,h2,h3⟩,hz,ho,hr,_,_⟩:=Fo.parts hok
   rw[if_pos rfl]
   conv=>whnf
   refine brF rfl ?_
   conv=>whnf
   refine .one (.data _ (iof_ok f hf hl q) rfl rfl ?_)
   have hV:ofR f q=ofF f.zones q.ty 20 q.nm []:=by unfold ofR;rw[if_pos hok]
   have hfail:=of_fail (zs:=f.zones) (ty:=q.ty) 20 q.nm []
   have hlen:=of_len (zs:=f.zones) (ty:=q.ty) 20 q.nm [] (Nat.zero_le _)
   have hlaw:=of_law hz (ty:=q.ty) (q:=q.nm) 20 q.nm [] (ofR f q) hV.symm
   rw [←hV] at hfail hlen
   generalize ofR f q=v at hfail hlen hlaw ⊢
   clear hV
   conv=>whnf
   refine⟨fun g1=>?_,fun g1=>?_⟩
   ·have g1:v.why≠0:=by simpa using g1
    obtain⟨e1,e2⟩:=hfail g1
    rw[e1,e2]
    conv=>whnf
    repeat(first|(refine brT rfl ?_;conv=>whnf)|(refine brF rfl ?_;conv=>whnf)|(refine .once ?_;conv=>whnf)|(refine⟨by decide,?_⟩;conv=>whnf)|(refine And.intro (Nat.le_of_ble_eq_true rfl) ?_;conv=>whnf))
    all_goals exact rfl
   have g1:v.why=0:=by simpa using g1
   obtain⟨n,at_,hch,hn,hd,hans⟩:=hlaw g1 rfl
   have hz0:f.zones[0]? = some (f.zones.getD 0 default):=by rw[List.getD_eq_getElem?_getD,List.getElem?_eq_getElem h1];rfl
   obtain⟨z,hza,hwz,hcut⟩:=(down_spec hz 300 0 _ hz0 (root_within (Zo.ok_name (hz _ (List.mem_of_getElem? hz0))) hr hn) (by have:=@count_small n;omega)).2 at_ hd
   have hzm:=List.mem_of_getElem? hza
   have hlt:at_<f.zones.length:=(List.getElem?_eq_some_iff.1 hza).1
   have hzd:f.zones.getD at_ default=z:=by rw[List.getD_eq_getElem?_getD,hza];rfl
   have hzo:=hz z hzm
   have hzf:=(hf z hzm).2
   rw [hzd] at hans
   conv=>whnf
   refine .inv (Nat × List UInt8) (fun s=>s.1≤v.chain.length∧chainF q.nm (v.chain.take s.1)=some s.2) (fun s=>[(49,iV s.1),(7,.d (.str s.2))]) (fun _=>[]) (fun s=>v.chain.length - s.1) ⟨(0,q.nm),[0,1,2],⟨Nat.zero_le _,rfl⟩,?_⟩ ?_
   ·conv=>whnf
    repeat'(first|exact ⟨⟩|exact rfl|exact subZ_self _|exact Or.inr rfl|exact fun _ _=>rfl|exact fun _ h=>absurd h (Nat.not_lt_zero _)|apply And.intro)
   intro s hs
   obtain⟨hi,hx⟩:=hs
   conv=>whnf
   generalize s.1=i at hi hx ⊢
   generalize s.2=x at hx ⊢
   refine⟨fun g2=>?_,fun g2=>?_⟩
   ·have g2:i<v.chain.length:=by
     have h:(i:Int)<v.chain.length:=of_decide_eq_true g2
     omega
    have hw1:IntKind.i64.wrap ((i:Int)+1)=((i+1:Nat):Int):=by rw[w64_in _ (by omega)];omega
    obtain⟨L,hL⟩:∃ L,v.chain.getD i default=L:=⟨_,rfl⟩
    have hLl:v.chain[i]? = some L:=by rw[←hL,List.getD,List.getElem?_eq_getElem g2];rfl
    obtain⟨k1,k2,k3,k4⟩:=chainF_step hch hx hLl
    have hdl:=((St.ok_iff L).1 k3).2.2.1.1
    conv=>whnf
    refine⟨by omega,?_⟩
    conv=>whnf
    rw[Int.toNat_natCast,hL]
    refine .one (.data _ (lsame_ok L.nm x) rfl rfl ?_)
    rw[k1]
    conv=>whnf
    refine brF rfl ?_
    conv=>whnf
    refine brF (by rw[k2];rfl) ?_
    conv=>whnf
    refine .one (.data _ (scheck_ok L.nm L.ty L.ttl L.z L.data) rfl rfl ?_)
    rw[show scheck L.nm L.ty L.ttl L.data=L.ok from rfl,k3]
    conv=>whnf
    refine brF rfl ?_
    conv=>whnf
    refine⟨⟨Int.le_refl 0,by show(0:Int)<(L.data.length:Int);omega⟩,?_⟩
    conv=>whnf
    rw[hw1]
    have hhd:L.data.headD []=L.data[0]?.getD []:=by cases L.data <;> rfl
    refine⟨(i+1,L.data[0]?.getD []),[0,1,2],⟨g2,by rw[←hhd];exact k4⟩,by show _ - (i+1)<_;omega,?_⟩
    conv=>whnf
    repeat'(first|exact ⟨⟩|exact rfl|exact subZ_self _|exact Or.inr rfl|exact fun _ _=>rfl|exact fun _ h=>absurd h (Nat.not_lt_zero _)|apply And.intro)
   ·have g2:i=v.chain.length:=by
     have h:¬ (i:Int)<v.chain.length:=of_decide_eq_false g2
     omega
    subst g2
    rw [List.take_length,hch] at hx
    simp only [Option.some.injEq] at hx
    subst hx
    conv=>whnf
    refine .one (.data _ (izone_ok f hf hl n) rfl rfl ?_)
    rw[show zoneR f n=(at_,0) by unfold zoneR downR;rw[if_pos hok,if_pos hn,hd]]
    conv=>whnf
    refine brF rfl ?_
    conv=>whnf
    refine brF (decide_eq_false (by show ¬ ((at_:Nat):Int)<0;omega)) ?_
    conv=>whnf
    refine brF (decide_eq_false (by show ¬ ((at_:Nat):Int) ≥ (f.zones.length:Int);omega)) ?_
    conv=>whnf
    refine⟨⟨by show 0≤((at_:Nat):Int);omega,by show((at_:Nat):Int)<(f.zones.length:Int);omega⟩,?_⟩
    conv=>whnf
    rw[Int.toNat_natCast,hzd]
    refine .one (.data _ (zcut_ok z hzf n) rfl rfl ?_)
    rw[show cutQ z n=(St.no,3) by
     rcases cutQ_spec hzo n with⟨_,_,e⟩|⟨c,e,_⟩
     ·exact e
     ·rw [hcut] at e;cases e]
    conv=>whnf
    refine brF rfl ?_
    conv=>whnf
    refine .one (.data _ (within_ok n z.apex) rfl rfl ?_)
    rw[hwz]
    conv=>whnf
    refine brF rfl ?_
    conv=>whnf
    refine⟨fun g3=>?_,fun g3=>?_⟩
    ·have g3:0<v.ans.data.length:=by
      have h:(v.ans.data.length:Int) > 0:=of_decide_eq_true g3
      omega
     obtain⟨k1,k2,k3,_⟩:=hans.resolve_right (fun h=>by omega)
     conv=>whnf
     refine brT (by rw[k1];rfl) ?_
     conv=>whnf
     refine brT (by rw[k2];simp) ?_
     conv=>whnf
     refine .one (.data _ (lsame_ok v.ans.nm n) rfl rfl ?_)
     rw[k3]
     conv=>whnf
     all_goals exact rfl
    ·have g3:v.ans.data.length=0:=by
      have h:¬ (v.ans.data.length:Int) > 0:=of_decide_eq_false g3
      omega
     have hcode:=(hans.resolve_left (fun h=>by omega)).2
     conv=>whnf
     refine .data _ (zexists_ok z hzf n) rfl rfl ?_
     rw[show existsR z n=existsZ z n by unfold existsR;rw[hzo];rfl]
     rw[hcode]
     cases existsZ z n with
     |true =>
      rw[if_pos rfl]
      conv=>whnf
      repeat(first|(refine brT rfl ?_;conv=>whnf)|(refine brF rfl ?_;conv=>whnf)|(refine .once ?_;conv=>whnf)|(refine⟨by decide,?_⟩;conv=>whnf)|(refine And.intro (Nat.le_of_ble_eq_true rfl) ?_;conv=>whnf))
      all_goals exact rfl
     |false =>
      rw[if_neg (by decide)]
      conv=>whnf
      repeat(first|(refine brT rfl ?_;conv=>whnf)|(refine brF rfl ?_;conv=>whnf)|(refine .once ?_;conv=>whnf)|(refine⟨by decide,?_⟩;conv=>whnf)|(refine And.intro (Nat.le_of_ble_eq_true rfl) ?_;conv=>whnf))
      all_goals exact rfl
end Go.Proofs.Ytnfoihdifohkeaa
