/-
  Part of the proof: lemmas about the functions that the row calls, and about the steps of a run. Conditions: those ahead of each lemma.
-/
import Derived.Shelf.Strings.Builder1
import Derived.Lib.ParseIntBCases
import Derived.Lib.Bytealg
import Derived.Lib.ItoaNum
import Derived.Shelf.Pu.ToError
import Derived.Shelf.Pu.ToErrorRange
import Derived.Test.YtoefgnnkajhmiaaGreatDoorD2
import Derived.Test.YtoefgnnkajhmiaaGreatDoorD1
import Derived.Test.YtoefgnnkajhmiaaGreatDoorN4
set_option linter.unusedVariables false
set_option linter.unusedSimpArgs false
set_option maxRecDepth 100000
set_option maxHeartbeats 64000000
namespace Go.Proofs.YtoefgnnkajhmiaaGreatDoor
open Go Go.Eng
def Fo.Len(f:Fo):Prop:=∀ h ∈ f.hosts,h.2.2.length<=9223372036854775807
theorem yf8(f:Fo)(hf:f.Fit)(hl:f.Len)(ks:List KB):COk Tryz.prog 40 [f.V] ks (fun s k=>s=(if f.ok then .tup [.map (lenB ks),.d (.int .i64 0)] else .tup [.v (.map none),.d (.int .i64 2)])/\k=(if f.ok then appB ks [jj (ji f.zones)] else ks)) :=
 (COk.frameX (zt6 f hf hl) [] rfl rfl rfl).imp fun r k ⟨s0,k0,⟨h1,h2⟩,h3,h4⟩=>by
  subst h1 h2 h3 h4;unfold qm6 qm7;cases f.ok with
  |true =>
   refine⟨rfl,?_⟩;show appB ks [mapK _ (jj _)]=_;rw[qh3];rfl
  |false=>exact⟨rfl,by show appB ks []=ks;rw[je3,m6]⟩
theorem yj9(f:Fo)(hf:f.Fit)(hl:f.Len):FnOk Tryz.prog 14 [f.V] (.d (.int .i64 (if f.ok then 0 else 2))):=by
 refine qu (TT:=TT) (IN:=qe []) qg qh mixed 1000 Tryz.func14 rfl (qd Tryz.func14 (by kernel_rfl) rfl) rfl 10 (by kernel_rfl) ?_;conv=>whnf
 refine .rel _ (yf8 f hf hl _) (fun r ks' hR=>?_);obtain⟨rfl,rfl⟩:=hR;cases f.ok with
 |true =>
  rw[if_pos rfl,if_pos rfl,if_pos rfl];conv=>whnf
 |false =>
  rw[if_neg (by decide),if_neg (by decide),if_neg (by decide)];conv=>whnf
def Ver.no(why:Int):Ver:=⟨[],St.no,0,why⟩
def Ver.V(v:Ver):SV:=.agg [.d (.int .i64 v.code),.d (stsD v.chain.isEmpty v.chain),.d (.str v.ans.nm),.d (.int .u16 v.ans.ty),.d (.int .u32 v.ans.ttl),.d (.sl v.ans.z v.ans.data.length 1 (strs v.ans.data))]
def ofR(f:Fo)(q:Q):Ver:=if f.ok then ofF f.zones q.ty 20 q.nm [] else Ver.no 2
theorem qd4{α:Type}(l:List α):Nat.beq l.length 0=l.isEmpty:=by cases l <;> rfl
structure OfS where
 k:Nat
 nm:List UInt8
 ch:List St
theorem yy7(f:Fo)(hf:f.Fit)(hl:f.Len)(q:Q):FnOk Tryz.prog 16 [f.V,.agg [.d (.str q.nm),.d (.int .u16 q.ty),.d (.int .u16 q.cl)]] (.tup [(ofR f q).V,.d (.int .i64 (ofR f q).why)]):=by
 refine qu (TT:=TT) (IN:=qe []) qg qh mixed 1000 Tryz.func16 rfl (qd Tryz.func16 (by kernel_rfl) rfl) rfl 95 (by kernel_rfl) ?_;conv=>whnf
 refine .rel _ (yf8 f hf hl _) (fun r ks' hR=>?_);obtain⟨rfl,rfl⟩:=hR;unfold ofR;cases hok:f.ok with
 |false =>
  rw[if_neg (by decide),if_neg (by decide),if_neg (by decide)];conv=>whnf
  refine brT rfl ?_;conv=>whnf
  exact rZ4
 |true =>
  obtain⟨⟨h1,h2,h3⟩,hz,ho,hr,_,_⟩:=Fo.parts hok;rw[if_pos rfl,if_pos rfl,if_pos rfl];conv=>whnf
  refine brF rfl ?_;conv=>whnf
  refine .nilC 4 1 49 4 (fun _=>[]) _ _ _ _ rfl rfl ?_;refine .inv OfS (fun s=>ofF f.zones q.ty s.k s.nm s.ch=ofF f.zones q.ty 20 q.nm []/\s.ch.length+s.k=20/\s.ch.length<=8) (fun s=>[(9,.d (.str s.nm))])
   (fun s=>[(4,.cells 51 [.d (.int .i64 0),.all 5,.d (.str []),.d (.int .u16 0),.d (.int .u32 0),nilS]),(5,.row 49 4 s.ch.length .iff (fun j=>(s.ch.getD j default).enc))]) (fun s=>s.k) ⟨⟨20,q.nm,[]⟩,[0,1,2,3,4,5],⟨rfl,rfl,pz _⟩,?_⟩ ?_
  ·conv=>whnf
   exact rZ7
  intro s hs;obtain⟨hof,hkl,hcl⟩:=hs;conv=>whnf
  generalize s.k=k at hof hkl ⊢;generalize s.nm=nm at hof ⊢;generalize s.ch=ch at hof hkl hcl ⊢;obtain⟨k,rfl⟩:∃ k',k=k'+1:=⟨k - 1,by omega⟩;generalize hV:ofF f.zones q.ty 20 q.nm []=V at hof ⊢;have e1:ofF f.zones q.ty (k+1) nm ch=if qb nm then (match yz f.zones nm 300 0 with
   |none=>⟨[],St.no,0,12⟩
   |some at_=>if (q9 nm q.ty (f.zones.getD at_ default).rrs).2=0 then ⟨ch,(q9 nm q.ty (f.zones.getD at_ default).rrs).1,0,0⟩
    else if q.ty=5\/(q9 nm 5 (f.zones.getD at_ default).rrs).2≠0\/(q9 nm 5 (f.zones.getD at_ default).rrs).1.data.length=0 then ⟨ch,St.no,if vw (f.zones.getD at_ default) nm then 0 else 3,0⟩
    else if ch.length >= 8 then ⟨[],St.no,0,9⟩
    else ofF f.zones q.ty k ((q9 nm 5 (f.zones.getD at_ default).rrs).1.data.headD []) (ch++[(q9 nm 5 (f.zones.getD at_ default).rrs).1])) else ⟨[],St.no,0,2⟩:=rfl
  refine .rel _ (COk.frameX (xp2 f hf hok nm) [3] rfl rfl (by show[jj _]=[mapK _ (jj _)];rw[qh3])) (fun x ks' hR=>?_);obtain⟨s0,k0,⟨rfl,rfl⟩,rfl,rfl⟩:=hR;rw[show mapB (sig [3] _) [jj (ji f.zones)]=[jj (ji f.zones)] from congrArg (fun x=>[x]) (qh3 _)];by_cases hn:qb nm
  case neg =>
   rw [if_neg hn] at e1;rw[show qg7 f nm=(0,2) from if_neg hn,<-hof,e1];conv=>whnf
   refine brT rfl ?_;conv=>whnf
   exact rZ4
  rw [if_pos hn] at e1;cases hd:yz f.zones nm 300 0 with
  |none =>
   rw [hd] at e1;rw[show qg7 f nm=(0,12) by unfold qg7;rw[if_pos hn,hd],<-hof,e1];conv=>whnf
   refine brT rfl ?_;conv=>whnf
   exact rZ4
  |some at_ =>
   rw [hd] at e1;simp only at e1;have hz0:f.zones[0]? = some (f.zones.getD 0 default):=by rw[gr,pp h1];rfl
   obtain⟨z,hza,_,_⟩:=(yl4 hz 300 0 _ hz0 (jy3 (Zo.ok_name (hz _ (ov hz0))) hr hn) (by have:=@ya5 nm;omega)).2 at_ hd;have hzm:=ov hza;have hlt:at_<f.zones.length:=(pq.1 hza).1;have hzd:f.zones.getD at_ default=z:=by rw[gr,hza];rfl
   have hzo:=hz z hzm;have hzf:=(hf z hzm).2;rw [hzd] at e1;have hnl:nm.length<=100000:=by have:=hn.2.1;omega
   have hg:∀ t,getZ z nm t=q9 nm t z.rrs:=fun t=>by unfold getZ;rw[if_pos hzo]
   rw[show qg7 f nm=(at_,0) by unfold qg7;rw[if_pos hn,hd]];conv=>whnf
   refine brF rfl ?_;conv=>whnf
   refine⟨by omega,?_⟩;conv=>whnf
   rw[px,hzd];refine oD (yt4 z hzf nm q.ty hnl) rfl rfl ?_;rw[hg];generalize q9 nm q.ty z.rrs=r1 at e1 ⊢;conv=>whnf
   refine⟨fun g1=>?_,fun g1=>?_⟩
   ·have g1:r1.2=0:=by simpa using g1
    rw [if_pos g1] at e1;rw[<-hof,e1];conv=>whnf
    repeat'(first|exact ⟨⟩|exact rfl|exact .inr rfl|exact .inl rfl|exact fun _ _=>rfl|exact noI|apply And.intro)
    all_goals first
     |exact qd4 _
     |exact .inr rfl
     |exact fun _ _=>rfl
   have g1:¬ r1.2=0:=by simpa using g1
   rw [if_neg g1] at e1;conv=>whnf
   refine oD (yt4 z hzf nm 5 hnl) rfl rfl ?_;rw[hg];have hrt:(q9 nm 5 z.rrs).2=0->(q9 nm 5 z.rrs).1.ok=true:=fun h=>(jk2 h (by decide)).1
   generalize q9 nm 5 z.rrs=r2 at e1 hrt ⊢;obtain⟨L,e2⟩:=r2;have hno:(q.ty=5\/e2≠0\/L.data.length=0)->V=⟨ch,St.no,if vw z nm then 0 else 3,0⟩:=fun h=>by rw[<-hof,e1,if_pos h]
   have hyes:¬ (q.ty=5\/e2≠0\/L.data.length=0)->V=if ch.length >= 8 then ⟨[],St.no,0,9⟩ else ofF f.zones q.ty k (L.data.headD []) (ch++[L]):=fun h=>by rw[<-hof,e1,if_neg h]
   clear e1;conv=>whnf
   refine⟨fun g2=>?_,fun g2=>?_⟩
   ·have g2:q.ty=5:=by simpa using g2
    have hV':=hno (.inl g2);conv=>whnf
    refine oD (jj6 z hzf nm) rfl rfl ?_;rw[show qe5 z nm=vw z nm by unfold qe5;rw[hzo];rfl,hV'];cases vw z nm with
    |true =>
     rw[if_pos rfl];conv=>whnf
     refine brF rfl ?_;conv=>whnf
     repeat'(first|exact ⟨⟩|exact rfl|exact .inr rfl|exact .inl rfl|exact fun _ _=>rfl|exact noI|apply And.intro)
     all_goals first
      |exact qd4 _
      |exact .inr rfl
      |exact fun _ _=>rfl
    |false =>
     rw[if_neg (by decide)];conv=>whnf
     refine brT rfl ?_;conv=>whnf
     repeat'(first|exact ⟨⟩|exact rfl|exact .inr rfl|exact .inl rfl|exact fun _ _=>rfl|exact noI|apply And.intro)
     all_goals first
      |exact qd4 _
      |exact .inr rfl
      |exact fun _ _=>rfl
   have g2:¬ q.ty=5:=by simpa using g2
   conv=>whnf
   refine⟨fun g3=>?_,fun g3=>?_⟩
   ·have g3:e2≠0:=by simpa using g3
    have hV':=hno (.inr (.inl g3));conv=>whnf
    refine oD (jj6 z hzf nm) rfl rfl ?_;rw[show qe5 z nm=vw z nm by unfold qe5;rw[hzo];rfl,hV'];cases vw z nm with
    |true =>
     rw[if_pos rfl];conv=>whnf
     refine brF rfl ?_;conv=>whnf
     repeat'(first|exact ⟨⟩|exact rfl|exact .inr rfl|exact .inl rfl|exact fun _ _=>rfl|exact noI|apply And.intro)
     all_goals first
      |exact qd4 _
      |exact .inr rfl
      |exact fun _ _=>rfl
    |false =>
     rw[if_neg (by decide)];conv=>whnf
     refine brT rfl ?_;conv=>whnf
     repeat'(first|exact ⟨⟩|exact rfl|exact .inr rfl|exact .inl rfl|exact fun _ _=>rfl|exact noI|apply And.intro)
     all_goals first
      |exact qd4 _
      |exact .inr rfl
      |exact fun _ _=>rfl
   have g3:e2=0:=by simpa using g3
   conv=>whnf
   refine⟨fun g4=>?_,fun g4=>?_⟩
   ·have g4:L.data.length=0:=by
     have h:(L.data.length:Int)=0:=by simpa using g4
     omega
    have hV':=hno (.inr (.inr g4));conv=>whnf
    refine oD (jj6 z hzf nm) rfl rfl ?_;rw[show qe5 z nm=vw z nm by unfold qe5;rw[hzo];rfl,hV'];cases vw z nm with
    |true =>
     rw[if_pos rfl];conv=>whnf
     refine brF rfl ?_;conv=>whnf
     repeat'(first|exact ⟨⟩|exact rfl|exact .inr rfl|exact .inl rfl|exact fun _ _=>rfl|exact noI|apply And.intro)
     all_goals first
      |exact qd4 _
      |exact .inr rfl
      |exact fun _ _=>rfl
    |false =>
     rw[if_neg (by decide)];conv=>whnf
     refine brT rfl ?_;conv=>whnf
     repeat'(first|exact ⟨⟩|exact rfl|exact .inr rfl|exact .inl rfl|exact fun _ _=>rfl|exact noI|apply And.intro)
     all_goals first
      |exact qd4 _
      |exact .inr rfl
      |exact fun _ _=>rfl
   have g4:¬ L.data.length=0:=by
    have h:¬ (L.data.length:Int)=0:=by simpa using g4
    omega
   have hV':=hyes (fun h=>h.elim g2 (fun h=>h.elim (fun h=>h g3) g4));conv=>whnf
   refine⟨fun g5=>?_,fun g5=>?_⟩
   ·have g5:ch.length >= 8:=by
     have h:(ch.length:Int) >= 8:=pu g5;omega
    rw [if_pos g5] at hV';rw[hV'];conv=>whnf
    repeat'(first|exact ⟨⟩|exact rfl|exact .inr rfl|exact .inl rfl|exact fun _ _=>rfl|exact noI|apply And.intro)
    all_goals first
     |exact qd4 _
     |exact .inr rfl
     |exact fun _ _=>rfl
   have g5:¬ ch.length >= 8:=by
    have h:¬ (ch.length:Int) >= 8:=pw g5;omega
   rw [if_neg g5] at hV';conv=>whnf
   refine⟨by omega,?_⟩;conv=>whnf
   refine⟨⟨Int.le_refl 0,by show(0:Int)<(L.data.length:Int);omega⟩,?_⟩;conv=>whnf
   have hhd:L.data.headD []=L.data[0]?.getD []:=by cases L.data <;> rfl
   rw [hhd] at hV';refine⟨⟨k,L.data[0]?.getD [],ch++[L]⟩,[0,1,2,3,4,10],⟨hV'.symm,by show(ch++[L]).length+k=20;rw[py,tn];omega,by show(ch++[L]).length<=8;rw[py,tn];omega⟩,l5 k,?_⟩;conv=>whnf
   repeat'(first|exact ⟨⟩|exact rfl|exact jd _|exact .inr rfl|exact fun _ _=>rfl|exact noI|apply And.intro)
   all_goals first
    |exact qy8 _
    |(show _+1=(_++[_]).length;simp;done)
    |exact fun j hj=>xr2 _ _ j hj
def escB(c:UInt8):List UInt8 :=
 if c=46\/c=92 then [92,c] else if 33<=c.toNat/\c.toNat<=126 then [c] else [92,UInt8.ofNat (48+c.toNat / 100),UInt8.ofNat (48+c.toNat / 10 % 10),UInt8.ofNat (48+c.toNat % 10)]
def escL:List UInt8->List UInt8
 |[]=>[]
 |c :: l=>escB c++escL l
def txtL:List (List UInt8)->List UInt8
 |[]=>[]
 |l :: ls=>escL l++46 :: txtL ls
def txtN(n:List UInt8):List UInt8:=if n=[0] then [46] else txtL (labN n)
def zm(c:UInt8):Bool:=decide (48<=c.toNat/\c.toNat<=57)
def behB:List UInt8->UInt8 × Nat
 |[]=>(0,0)
 |c :: r=>if zm c then (match r with
  |d :: e :: _=>if zm d then (if zm e then (if 100 * (c.toNat - 48)+10 * (d.toNat - 48)+(e.toNat - 48)<=255 then (UInt8.ofNat (100 * (c.toNat - 48)+10 * (d.toNat - 48)+(e.toNat - 48)),3) else (0,0)) else (0,0)) else (0,0)
  |_=>(0,0)) else (c,1)
def tcut:Nat->List UInt8->List UInt8->List (List UInt8)->Option (List (List UInt8))
 |0,_,_,_=>none
 |_+1,[],l,ls=>if l=[] then (if ls=[] then none else some ls) else some (ls++[l])
 |m+1,c :: r,l,ls=>if c=46 then (if l=[] then none else tcut m r [] (ls++[l])) else
  if c=92 then (if (behB r).2=0 then none else tcut m (r.drop (behB r).2) (l++[(behB r).1]) ls) else
  if 33<=c.toNat/\c.toNat<=126 then tcut m r (l++[c]) ls else none
theorem ql0:∀ (m m':Nat) (r l:List UInt8) (ls:List (List UInt8)),r.length<m->r.length<m'->tcut m r l ls=tcut m' r l ls
 |0,_,r,_,_,h,_=>absurd h (gy _)
 |_,0,r,_,_,_,h=>absurd h (gy _)
 |m+1,m'+1,[],l,ls,_,_=>rfl
 |m+1,m'+1,c :: r,l,ls,h,h'=>by
  simp only [ou] at h h';have hd:=o7 (l:=r) (i:=(behB r).2);simp only[tcut];split
  ·split
   ·rfl
   ·exact ql0 m m' r _ _ (by omega) (by omega)
  ·split
   ·split
    ·rfl
    ·exact ql0 m m' _ _ _ (by omega) (by omega)
   ·split
    ·exact ql0 m m' r _ _ (by omega) (by omega)
    ·rfl
theorem jp3:∀ n,n<256->zm (UInt8.ofNat (48+n / 100))=true/\zm (UInt8.ofNat (48+n / 10 % 10))=true/\zm (UInt8.ofNat (48+n % 10))=true /\
 100 * ((UInt8.ofNat (48+n / 100)).toNat - 48)+10 * ((UInt8.ofNat (48+n / 10 % 10)).toNat - 48)+((UInt8.ofNat (48+n % 10)).toNat - 48)=n:=by decide +kernel
theorem xd0(m:Nat)(c:UInt8)(r l:List UInt8)(ls:List (List UInt8))(hm:(escB c++r).length<m):tcut m (escB c++r) l ls=tcut m r (l++[c]) ls:=by
 obtain⟨m,rfl⟩:∃ k,m=k+1:=⟨m - 1,by omega⟩;unfold escB at hm ⊢;split
 ·rename_i h;rw [if_pos h] at hm;simp only [gw,gz,ou] at hm;have hnd:zm c=false:=by rcases h with rfl|rfl <;> rfl
  have hb:behB (c :: r)=(c,1):=by simp[behB,hnd]
  show tcut (m+1) (92 :: c :: r) l ls=_;simp only[tcut];rw[if_neg (by decide),if_pos trivial,hb];simp only;rw[if_neg (by decide)];exact ql0 _ _ _ _ _ (show r.length<m by omega) (show r.length<m+1 by omega)
 ·rename_i h;rw [if_neg h] at hm;split
  ·rename_i h2;rw [if_pos h2] at hm;simp only [gw,gz,ou] at hm;show tcut (m+1) (c :: r) l ls=_;simp only[tcut];rw[if_neg (fun e=>h (.inl e)),if_neg (fun e=>h (.inr e)),if_pos h2];exact ql0 _ _ _ _ _ (by omega) (by omega)
  ·rename_i h2;rw [if_neg h2] at hm;simp only [gw,gz,ou] at hm;obtain⟨d1,d2,d3,d4⟩:=jp3 c.toNat (UInt8.toNat_lt _);have hb:behB (UInt8.ofNat (48+c.toNat / 100) :: UInt8.ofNat (48+c.toNat / 10 % 10) :: UInt8.ofNat (48+c.toNat % 10) :: r)=(c,3):=by
    have:=UInt8.toNat_lt c;simp only[behB,d1,d2,d3,d4,if_true];rw[if_pos (by omega)];simp
   show tcut (m+1) (92 :: UInt8.ofNat (48+c.toNat / 100) :: UInt8.ofNat (48+c.toNat / 10 % 10) :: UInt8.ofNat (48+c.toNat % 10) :: r) l ls=_;simp only[tcut];rw[if_neg (by decide),if_pos trivial,hb];simp only;rw[if_neg (by decide)];exact ql0 _ _ _ _ _ (show r.length<m by omega) (show r.length<m+1 by omega)
theorem ym9(m:Nat):∀ (s r l:List UInt8) (ls:List (List UInt8)),(escL s++r).length<m->tcut m (escL s++r) l ls=tcut m r (l++s) ls
 |[],r,l,ls,_=>by simp[escL]
 |c :: s,r,l,ls,h=>by
  simp only [escL,m9] at h ⊢;rw [xd0 m c _ l ls h,ym9 m s r _ ls (by rw [py] at h;omega)];simp
theorem ym8(m:Nat):∀ (ks ls:List (List UInt8)),(∀ l ∈ ks,okL l)->(txtL ks).length<m->tcut m (txtL ks) [] ls=if ls++ks=[] then none else some (ls++ks)
 |[],ls,_,h=>by
  obtain⟨m,rfl⟩:∃ k,m=k+1:=⟨m - 1,by omega⟩;simp[txtL,tcut]
 |l :: ks,ls,hk,h=>by
  have hl:=hk l (by simp);have hne:l≠[]:=fun e=>by rw [e] at hl;exact absurd hl.1 (by decide)
  simp only [txtL] at h ⊢;rw[ym9 m l _ [] ls h,gz];rw [py,ou] at h;obtain⟨m,rfl⟩:∃ k,m=k+1:=⟨m - 1,by omega⟩;simp only[tcut];rw[if_pos trivial,if_neg hne,ym8 m ks _ (fun x hx=>hk x (by simp[hx])) (by omega)];simp
theorem xi5(c:UInt8):1<=(escB c).length/\(escB c).length<=4:=by
 unfold escB;split
 ·simp
 ·split <;> simp
theorem qt0:∀ l:List UInt8,l.length<=(escL l).length/\(escL l).length<=4 * l.length
 |[]=>by simp[escL]
 |c :: l=>by
  have:=xi5 c;have:=qt0 l;simp only[escL,py,ou];omega
theorem ql6:∀ ls:List (List UInt8),(∀ l ∈ ls,okL l)->(txtL ls).length<=4 * (mk ls).length
 |[],_=>by simp[txtL]
 |l :: ls,h=>by
  have h1:=qt0 l;have h2:=ql6 ls fun x hx=>h x (by simp[hx])
  have h3:(mk (l :: ls)).length=1+l.length+(mk ls).length:=ji2 l ls;simp only[txtL,py,ou];omega
def okB(l:List UInt8):Bool:=decide (1<=l.length/\l.length<=63)
theorem all_ok{ls:List (List UInt8)}:ls.all okB=true↔∀ l ∈ ls,okL l:=by
 simp only[l8,okB,lx];exact Iff.rfl
def jx(s:List UInt8):List UInt8 × Int :=
 if s.length > 2048 then ([],7) else if s=[46] then ([0],0) else match tcut (s.length+1) s [] [] with
  |none=>([],6)
  |some ls=>if ls.all okB=true/\(mk ls).length<=255 then (mk ls,0) else ([],7)
theorem xo8{l:List UInt8}(h:okL l)(s:List UInt8):escL l++46 :: s≠[46]:=fun e=>by
 have h1:=qt0 l;have h2:=congrArg List.length e;have:=h.1;simp only [py,ou,gv] at h2;omega
theorem yi4{n:List UInt8}(h:qb n):jx (txtN n)=(n,0):=by
 obtain⟨h1,h2,h3⟩:=z7 h;unfold txtN;split
 ·rename_i e;rw[e];rfl
 ·rename_i hne;have hl:=ql6 (labN n) h2;rw [<-h3] at hl;have hlen:=ql6 (labN n) h2;have hn0:labN n≠[]:=fun e=>by rw [e] at h3;exact hne h3
  have hne2:txtL (labN n)≠[46]:=by
   obtain⟨l,ls,e⟩:=List.exists_cons_of_ne_nil hn0;rw [e] at h2 ⊢;exact xo8 (h2 l (by simp)) _
  unfold jx;rw[if_neg (by omega),if_neg hne2,ym8 _ (labN n) [] h2 (by omega),gz,if_neg hn0];simp only;rw[if_pos ⟨all_ok.2 h2,by rw[<-h3];exact h1⟩,<-h3]
def jw(s:List UInt8):Nat->List DV:=fun j=>[.int .u8 (jc s j)]
theorem qk9(a b:List UInt8)(i:Nat)(h:i<a.length+b.length):catF a.length (jw a) (fun j=>[.int .u8 (jc b j)]) i=jw (a++b) i:=by
 unfold catF jw jc;split
 ·rename_i hl;simp[ot hl]
 ·rename_i hl;simp[o5 (show a.length<=i by omega)]
theorem qc6(s:List UInt8):yb s.length (jw s)=s:=by
 apply cx;intro i;unfold yb;rw[o4];by_cases h:i<s.length
 ·rw[co h,pp h];simp[jw,jc,h]
 ·rw[gp (by simp;omega),gp (by omega)]
  rfl
theorem yv2:Go.Proofs.Lays.n240 Tryz.prog Try.lays156_ren:=by
 have L:=Try.lays156;exact { mixed:=L.mixed,f240:=L.f240,f276:=L.f276,t0:=L.t0,a0:=L.a0,z0:=L.z0,v0:=L.v0,t4:=L.t4,a4:=L.a4,z4:=L.z4,v4:=L.v4,t9:=L.t9,a9:=L.a9,z9:=L.z9,v9:=L.v9,t20:=L.t20,a20:=L.a20,z20:=L.z20,v20:=L.v20,t70:=L.t70,a70:=L.a70,z70:=L.z70,v70:=L.v70,t72:=L.t72,a72:=L.a72,z72:=L.z72,v72:=L.v72,t164:=L.t164,a164:=L.a164,z164:=L.z164,v164:=L.v164 }
theorem zn7{w:World}{b:Nat}{vs:Array Value}{e:TypeId}{fz:Nat × Nat}(h:w.heap[b]? = some (.cells vs e fz))(off:Nat)(v:Value) :
 w.setCell ⟨b,off,none⟩ v=World.setBlock w b (.cells (vs.setIfInBounds off v) e fz):=by
 unfold World.setCell World.setBlock;congr 1;apply rn;intro j;have hb:b<w.heap.size:=jo h;rw[dq,f6];by_cases e1:b=j
 ·subst e1;rw[if_pos rfl,if_pos rfl,if_pos hb,h];rfl
 ·rw[if_neg e1,if_neg e1]
theorem yl8(s:SV):COk Tryz.prog 51 [.ptr 0 0] [.cells 65 [.v (.pointer none),s]] (fun r k=>r = .tup []/\k=[.cells 65 [.ptr 0 0,s]]):=by
 refine⟨qd Tryz.func51 (by kernel_rfl) rfl,fun X w β fp vs hM hl hd=>?_⟩
 match vs,hl with
 |[v0],_ =>
  have h0:=hd 0 _ v0 rfl rfl;cases h0 with
  |ptr _ _ L hL =>
   have hb:=hM.at (i:=0) rfl (by simp) hL;cases hb with
   |cells _ _ us hfp hblk hlen hden h1 =>
    have hsz:us.size=2:=by simpa using hlen.symm
    have hu0:us[0]? = some (.pointer none):=by
     have hlt:0<us.size:=by omega
     have hx:=hden 0 _ us[0] rfl (by simp[hlt]);have hy:us[0] = .pointer none:=by
      generalize us[0]=x at hx;cases hx
      rfl
     rw[oz hlt,hy]
    have hc0:w.cell? ⟨L.b,0,none⟩=some (.pointer none):=by simp[World.cell?,hblk,hu0]
    have hsh:w.shape? L.b=some (65,2):=by simp[World.shape?,hblk,hsz]
    have hfz:w.frozen? ⟨L.b,0,none⟩=false:=by simp[World.frozen?,hblk]
    refine(Any.Builder_copyCheck_fresh yv2 Try.Builder_Extra_156.toX72 L.b w hc0 hsh hfz).mono ?_;rintro e w' ⟨rfl,rfl⟩;have hset:w.setCell ⟨L.b,0,none⟩ (.pointer (some ⟨L.b,0,none⟩))=World.setBlock w L.b (.cells (us.setIfInBounds 0 (.pointer (some ⟨L.b,0,none⟩))) 65 (0,0)):=zn7 hblk _ _;rw[hset];have W:=hM.store (i:=0) (l':=[.ptr 0 0,s]) (vs':=us.setIfInBounds 0 (.pointer (some ⟨L.b,0,none⟩))) rfl hL hfp hblk (by simpa using hlen) (fun j s' u hj hu=>by
     rw [f6] at hu;match j with
     |0 =>
      injection hj with hj
      subst hj;rw [if_pos rfl] at hu;split at hu
      ·injection hu with hu
       subst hu;exact .ptr 0 0 L hL
      ·cases hu
     |j+1 =>
      rw [if_neg (by omega)] at hu;exact hden (j+1) s' u hj hu) (fun j u hu=>by
     rw [f6] at hu;split at hu
     ·split at hu
      ·injection hu with hu
       subst hu;rfl
      ·cases hu
     ·exact h1 j u hu)
    exact ⟨_,.tup [],_,_,_,rfl,⟨rfl,rfl⟩,W,.tup _ _ rfl (fun j s' u hj _=>by simp at hj)⟩
theorem yr7(s:SV)(rest:List KB):COk Tryz.prog 51 [.ptr 0 0] (.cells 65 [.ptr 0 0,s] :: rest) (fun r k=>r = .tup []/\k = .cells 65 [.ptr 0 0,s] :: rest):=by
 refine⟨qd Tryz.func51 (by kernel_rfl) rfl,fun X w β fp vs hM hl hd=>?_⟩
 match vs,hl with
 |[v0],_ =>
  have h0:=hd 0 _ v0 rfl rfl;cases h0 with
  |ptr _ _ L hL =>
   have hb:=hM.at (i:=0) rfl (by simp) hL;cases hb with
   |cells _ _ us hfp hblk hlen hden h1 =>
    have hsz:us.size=2:=by simpa using hlen.symm
    have hu0:us[0]? = some (.pointer (some ⟨L.b,0,none⟩)):=by
     have hlt:0<us.size:=by omega
     have hx:=hden 0 _ us[0] rfl (by simp[hlt]);have hy:us[0] = .pointer (some ⟨L.b,0,none⟩):=by
      generalize us[0]=x at hx;cases hx with
      |ptr _ _ L' hL' =>
       rw [hL] at hL';cases hL'
       rfl
     rw[oz hlt,hy]
    have hc0:w.cell? ⟨L.b,0,none⟩=some (.pointer (some ⟨L.b,0,none⟩)):=by simp[World.cell?,hblk,hu0]
    refine(Any.Builder_copyCheck_used yv2 Try.Builder_Extra_156.toX72 L.b w hc0).mono ?_;rintro e w' ⟨rfl,rfl⟩;exact ⟨_,.tup [],_,_,_,rfl,⟨rfl,rfl⟩,Went.refl hM,.tup _ _ rfl (fun j s' u hj _=>by simp at hj)⟩
theorem pk1{X:Nat->Prop}{w:World}{β:Env}{fp:Nat->Nat->Prop}{k:KB}(h:Mem X w β fp [k]):Mem X w β fp [pk [k]]:=by
 have h0:∀ i b,fp i b->i=0:=fun i b hb=>by
  obtain⟨L,hL⟩:=h.kn i b hb;cases i with
  |zero=>rfl
  |succ i=>rw [h.kl (i+1) (by simp)] at hL;cases hL
 refine⟨⟨h.xa,h.xb,h.dis,h.kw,h.kn,fun i L k' hk hne hL=>?_⟩,h.kl,fun i t dom cols hi=>?_,h.vo.sub (fun i b hb=>⟨i,hb⟩)⟩
 ·cases i with
  |succ i=>simp at hk
  |zero =>
   simp only [bu,my] at hk;subst hk;exact .obj _ (y7 [k]) ⟨β,fp,hL,h.kl,fun x=>⟨fun e=>⟨0,e⟩,fun ⟨j,e⟩=>by rw [h0 j x e] at e;exact e⟩,h.dis,h.kn,h.ka,fun i L k hk hne hL=>h.kb i L k hk hne hL⟩
 ·cases i with
  |zero=>simp [pk] at hi
  |succ i=>simp at hi
theorem yy6{P:Program}{f:FuncId}{al:List SV}{k:KB}{R:SV->List KB->Prop}(h:COk P f al [pk [k]] R):COk P f al [k] R :=
 ⟨h.1,fun X w β fp vs hM hl hd=>h.2 X w β fp vs (pk1 hM) hl hd⟩
inductive Bst where
 |fresh
 |live (s:List UInt8)
 |dead
def Bst.fl:Bst->List KB
 | .fresh=>[.cells 65 [.v (.pointer none),nilS]]
 | .live s=>[.cells 65 [.ptr 0 0,.all 1],.row 5 1 s.length .iff (fun j=>[.int .u8 (jc s j)])]
 | .dead=>[.cells 65 [.ptr 0 0,.any]]
theorem rZ10{p:Prop}(h:p:=by repeat'(first|exact ⟨⟩|exact rfl|exact fun _=>Iff.rfl|exact fun _ _=>rfl|exact renM_rests _ _|exact(py ..).symm|exact qk9 _ _|apply And.intro)):p:=h
set_option maxRecDepth 100000 in
theorem xt3(s:List UInt8)(hs:s.length<=70368744177664):COk Tryz.prog 20 [.ptr 0 0,.d (.str s)] [pk (Bst.fl .fresh)] (fun r k=>∃ b1,k=[pk (Bst.fl b1)]/\(r = .tup [.d (.int .i64 s.length),.v .nilIface]/\b1 = .live s)):=by
 refine COk.toThing Bst.fl (qr0 (TT:=TT) (IN:=qe []) qg qh mixed 1000 Tryz.func20 rfl (qd Tryz.func20 (by kernel_rfl) rfl) 17 (by kernel_rfl) rfl ?_ ?_)
 ·rintro r l ⟨w1,_,rfl,_⟩
  rfl
 conv=>whnf
 refine .rel _ (yl8 _) (fun x ks' hR=>?_);obtain⟨rfl,rfl⟩:=hR;conv=>whnf
 refine⟨by omega,?_⟩;conv=>whnf
 refine⟨[0,1],.tup [.d (.int .i64 s.length),.v .nilIface],Bst.fl (.live s),rfl,rfl,rfl,?_,_,rfl,rfl,rfl⟩;exact rZ10
set_option maxRecDepth 100000 in
theorem qv5(b s:List UInt8)(hs:b.length+s.length<=70368744177664):COk Tryz.prog 20 [.ptr 0 0,.d (.str s)] [pk (Bst.fl (.live b))] (fun r k=>∃ b1,k=[pk (Bst.fl b1)]/\(r = .tup [.d (.int .i64 s.length),.v .nilIface]/\b1 = .live (b++s))):=by
 refine COk.toThing Bst.fl (qr0 (TT:=TT) (IN:=qe []) qg qh mixed 1000 Tryz.func20 rfl (qd Tryz.func20 (by kernel_rfl) rfl) 17 (by kernel_rfl) rfl ?_ ?_)
 ·rintro r l ⟨w1,_,rfl,_⟩
  rfl
 conv=>whnf
 refine .rel _ (yr7 _ _) (fun x ks' hR=>?_);obtain⟨rfl,rfl⟩:=hR;conv=>whnf
 refine⟨by omega,?_⟩;conv=>whnf
 refine⟨[0,2],.tup [.d (.int .i64 s.length),.v .nilIface],Bst.fl (.live (b++s)),rfl,rfl,rfl,?_,_,rfl,rfl,rfl⟩;exact rZ10
set_option maxRecDepth 100000 in
theorem ju1(s:List UInt8)(hs:s.length<=70368744177664):COk Tryz.prog 22 [.ptr 0 0] [pk (Bst.fl (.live s))] (fun r k=>∃ b1,k=[pk (Bst.fl b1)]/\(r = .d (.str s)/\b1 = .dead)):=by
 refine COk.toThing Bst.fl (qr0 (TT:=TT) (IN:=qe []) qg qh mixed 1000 Tryz.func22 rfl (qd Tryz.func22 (by kernel_rfl) rfl) 13 (by kernel_rfl) rfl ?_ ?_)
 ·rintro r l ⟨w1,_,rfl,_⟩
  rfl
 cases s with
 |nil =>
  conv=>whnf
  refine⟨rfl,?_⟩;conv=>whnf
  refine⟨[0],.d (.str []),Bst.fl .dead,rfl,rfl,rfl,?_,_,rfl,rfl,rfl⟩;exact rZ10
 |cons a s =>
  conv=>whnf
  refine⟨Nat.succ_le_succ (pz _),?_⟩;conv=>whnf
  have hb:yb (a :: s).length (fun j=>[.int .u8 (jc (a :: s) j)])=a :: s:=qc6 (a :: s);refine⟨⟨rfl,by omega,fun i _=>⟨((a :: s)[i]?).getD 0,rfl⟩⟩,?_⟩;rw[hb];conv=>whnf
  refine⟨[0],.d (.str (a :: s)),Bst.fl .dead,rfl,rfl,rfl,?_,_,rfl,rfl,rfl⟩;exact rZ10
theorem qh6(b:List UInt8)(c:UInt8)(i:Nat)(h:i<b.length+1):catF b.length (jw b) (qx [DV.int IntKind.u8 (c.toNat:Int)] 1) i=jw (b++[c]) i:=by
 unfold catF jw jc;split
 ·rename_i hl;simp[ot hl]
 ·rename_i hl;have:i=b.length:=by omega
  subst this;simp[qx]
theorem xq6(c:UInt8):COk Tryz.prog 21 [.ptr 0 0,.d (.int .u8 (c.toNat:Int))] [pk (Bst.fl .fresh)] (fun r k=>∃ b1,k=[pk (Bst.fl b1)]/\(r = .v .nilIface/\b1 = .live [c])):=by
 refine COk.toThing Bst.fl (qr0 (TT:=TT) (IN:=qe []) qg qh mixed 1000 Tryz.func21 rfl (qd Tryz.func21 (by kernel_rfl) rfl) 15 (by kernel_rfl) rfl ?_ ?_)
 ·rintro r l ⟨w1,_,rfl,_⟩
  rfl
 conv=>whnf
 refine .rel _ (yl8 _) (fun x ks' hR=>?_);obtain⟨rfl,rfl⟩:=hR;conv=>whnf
 refine⟨by decide,?_⟩;conv=>whnf
 refine⟨[0,2],.v .nilIface,Bst.fl (.live [c]),rfl,rfl,rfl,?_,_,rfl,rfl,rfl⟩;repeat'(first|exact ⟨⟩|exact rfl|exact fun _=>Iff.rfl|exact fun _ _=>rfl|exact renM_rests _ _|exact(py ..).symm|exact qk9 _ _|apply And.intro)
 intro i hi;match i,hi with
 |0,_=>rfl
theorem ym(b:List UInt8)(c:UInt8)(hs:b.length+1<=70368744177664):COk Tryz.prog 21 [.ptr 0 0,.d (.int .u8 (c.toNat:Int))] [pk (Bst.fl (.live b))] (fun r k=>∃ b1,k=[pk (Bst.fl b1)]/\(r = .v .nilIface/\b1 = .live (b++[c]))):=by
 refine COk.toThing Bst.fl (qr0 (TT:=TT) (IN:=qe []) qg qh mixed 1000 Tryz.func21 rfl (qd Tryz.func21 (by kernel_rfl) rfl) 15 (by kernel_rfl) rfl ?_ ?_)
 ·rintro r l ⟨w1,_,rfl,_⟩
  rfl
 conv=>whnf
 refine .rel _ (yr7 _ _) (fun x ks' hR=>?_);obtain⟨rfl,rfl⟩:=hR;conv=>whnf
 refine⟨by omega,?_⟩;conv=>whnf
 refine⟨[0,3],.v .nilIface,Bst.fl (.live (b++[c])),rfl,rfl,rfl,?_,_,rfl,rfl,rfl⟩;repeat'(first|exact ⟨⟩|exact rfl|exact fun _=>Iff.rfl|exact fun _ _=>rfl|exact renM_rests _ _|exact(py ..).symm|exact qk9 _ _|apply And.intro)
 ·simp
 ·intro i hi;exact(show catF b.length (jw b) (qx [DV.int IntKind.u8 ↑c.toNat] 1) i=_ from qh6 b c i hi)
theorem jq7(c:UInt8):∀ (x y:List UInt8),(∀ b ∈ x,b≠c)->Lib.indexByte (x++c :: y) c=x.length
 |[],y,_=>by simp[Lib.indexByte]
 |b :: x,y,h=>by
  have hb:(b == c)=false:=by simpa using h b (by simp)
  have ih:=jq7 c x y (fun d hd=>h d (by simp[hd]));simp only[gw,Lib.indexByte,hb,ih];rw[if_neg (by decide),if_neg (by simp)]
  rfl
theorem jo4(c:UInt8):∀ (x:List UInt8),(∀ b ∈ x,b≠c)->Lib.indexByte x c = -1
 |[],_=>by simp[Lib.indexByte]
 |b :: x,h=>by
  have hb:(b == c)=false:=by simpa using h b (by simp)
  have ih:=jo4 c x (fun d hd=>h d (by simp[hd]));simp only[Lib.indexByte,hb];rw[if_neg (by decide),ih]
  rfl
def cutN:Nat->List UInt8->List (List UInt8)
 |0,s=>[s]
 |k+1,s=>if Lib.indexByte s 32<0 then [s] else s.take (Lib.indexByte s 32).toNat :: cutN k (s.drop ((Lib.indexByte s 32).toNat+1))
theorem jc2(k:Nat)(x y:List UInt8)(h:∀ b ∈ x,b≠32):cutN (k+1) (x++32 :: y)=x :: cutN k y:=by
 have hi:=jq7 32 x y h;simp only[cutN];rw[hi,if_neg (by omega),px];simp
theorem yl7(k:Nat)(x:List UInt8)(h:∀ b ∈ x,b≠32):cutN k x=[x]:=by
 cases k with
 |zero=>rfl
 |succ k =>
  simp only[cutN];rw[jo4 32 x h,if_pos (by decide)]
def yd(B:Nat)(s:List UInt8):Option Nat:=match Lib.parseUintB B s with
 | .ok u=>some u
 |_=>none
theorem yw6(n:Nat):∀ c ∈ Lib.decDigits n,48<=c.toNat/\c.toNat<=57:=by
 induction n using Nat.strongRecOn with
 |ind n ih =>
  intro c hc;have hd:∀ k,k<10->48<=(UInt8.ofNat (48+k)).toNat/\(UInt8.ofNat (48+k)).toNat<=57:=by decide
  rw [Lib.decDigits] at hc;split at hc
  ·rename_i h;simp only [lv] at hc;rw[hc];exact hd n h
  ·rename_i h;rcases o3.1 hc with hc|hc
   ·exact ih (n / 10) (by omega) c hc
   ·simp only [lv] at hc;rw[hc];exact hd _ (by omega)
theorem yz2(n:Nat):Lib.decDigits n≠[]:=by
 rw[Lib.decDigits];split <;> simp
theorem xg0(M:Nat)(hM:M<1844674407370955162):∀ (n:Nat) (r:List UInt8),n<=M->Lib.parseUintM M 0 (Lib.decDigits n++r)=Lib.parseUintM M n r:=by
 intro n;induction n using Nat.strongRecOn with
 |ind n ih =>
  intro r hn;have hd:∀ k,k<10->48<=(UInt8.ofNat (48+k)).toNat/\(UInt8.ofNat (48+k)).toNat<=57/\(UInt8.ofNat (48+k)).toNat - 48=k:=by decide
  rw[Lib.decDigits];split
  ·rename_i h;obtain⟨h1,h2,h3⟩:=hd n h;simp only[gw,gz,Lib.parseUintM];rw[if_pos ⟨h1,h2⟩,if_neg (by omega),h3,if_neg (by omega)];simp
  ·rename_i h;obtain⟨h1,h2,h3⟩:=hd (n % 10) (by omega);rw[m9,ih (n / 10) (by omega) _ (by omega)];simp only[gw,gz,Lib.parseUintM];rw[if_pos ⟨h1,h2⟩,if_neg (by omega),h3,show n / 10 * 10+n % 10=n by omega,if_neg (by omega)]
theorem qz5{B n:Nat}(hB:B<=32)(h:n<2 ^ B):yd B (Lib.decDigits n)=some n:=by
 have hp:2 ^ B<=2 ^ 32:=Nat.pow_le_pow_right (by decide) hB;unfold yd Lib.parseUintB;rw[if_neg (yz2 n)];have:=xg0 (2 ^ B - 1) (by omega) n [] (by omega);rw [m6] at this;rw[this];rfl
def hexD:List UInt8:=[48,49,50,51,52,53,54,55,56,57,97,98,99,100,101,102]
def hexC(n:Nat):UInt8:=hexD.getD n 0
def hexL:List UInt8->List UInt8
 |[]=>[]
 |c :: l=>hexC (c.toNat / 16) :: hexC (c.toNat % 16) :: hexL l
def hexT(s:List UInt8):List UInt8:=if s=[] then [45] else hexL s
def qa8:List UInt8->Option (List UInt8)
 |[]=>some []
 |[_]=>none
 |a :: b :: r=>if Lib.indexByte hexD a<0\/Lib.indexByte hexD b<0 then none else (qa8 r).map (UInt8.ofNat (16 * (Lib.indexByte hexD a).toNat+(Lib.indexByte hexD b).toNat) :: ·)
def qj2(s:List UInt8):Option (List UInt8):=if s=[45] then some [] else if s=[]\/s.length % 2≠0\/s.length > 8192 then none else qa8 s
theorem hexI:∀ n,n<16->Lib.indexByte hexD (hexC n)=(n:Int)/\hexC n≠32/\hexC n≠45:=by decide +kernel
theorem yf5:∀ s:List UInt8,qa8 (hexL s)=some s
 |[]=>rfl
 |c :: s=>by
  have h1:=(hexI (c.toNat / 16) (by have:=c.toNat_lt;omega)).1;have h2:=(hexI (c.toNat % 16) (by omega)).1;simp only[hexL,qa8];rw[h1,h2,if_neg (by omega),yf5 s,px,px,show 16 * (c.toNat / 16)+c.toNat % 16=c.toNat by omega];simp
theorem jb7:∀ s:List UInt8,(hexL s).length=2 * s.length
 |[]=>rfl
 |c :: s=>by simp only[hexL,ou,jb7 s];omega
theorem zn2{s:List UInt8}(h:s.length<=4096):qj2 (hexT s)=some s:=by
 unfold hexT;split
 ·rename_i e;rw[e];rfl
 ·rename_i hne;have hl:=jb7 s;obtain⟨c,r,rfl⟩:=List.exists_cons_of_ne_nil hne;unfold qj2;rw [if_neg (fun e=>by have:=congrArg List.length e;simp at this hl;omega),if_neg (by rw [hl];simp [hexL];simp at h;omega)];exact yf5 _
theorem yv7:∀ s:List UInt8,∀ b ∈ hexL s,b≠32
 |[],b,h=>by cases h
 |c :: s,b,h=>by
  simp only [hexL,pv] at h;rcases h with rfl|rfl|h
  ·exact(hexI _ (by have:=c.toNat_lt;omega)).2.1
  ·exact(hexI _ (by omega)).2.1
  ·exact yv7 s b h
theorem xn9(s:List UInt8):∀ b ∈ hexT s,b≠32:=by
 unfold hexT;split
 ·intro b hb;simp at hb;rw [hb];decide
 ·exact yv7 s
theorem jf1(n:Nat):∀ b ∈ Lib.decDigits n,b≠32:=fun b hb e=>by
 have:=yw6 n b hb;rw [e] at this;exact absurd this.1 (by decide)
theorem xo9(c:UInt8):∀ b ∈ escB c,b≠32:=by
 have hd:=jp3 c.toNat c.toNat_lt;have hn:∀ x:UInt8,zm x=true->x≠32:=fun x hx e=>by rw [e] at hx;exact absurd hx (by decide)
 unfold escB;split
 ·rename_i h;intro b hb;simp only [pv,List.mem_nil_iff,or_false] at hb;rcases hb with rfl|rfl
  ·decide
  ·rcases h with rfl|rfl <;> decide
 ·split
  ·rename_i h;intro b hb;simp only [lv] at hb;subst hb;rintro rfl;exact absurd h.1 (by decide)
  ·intro b hb;simp only [pv,List.mem_nil_iff,or_false] at hb;rcases hb with rfl|rfl|rfl|rfl
   ·decide
   ·exact hn _ hd.1
   ·exact hn _ hd.2.1
   ·exact hn _ hd.2.2.1
theorem yw3:∀ l:List UInt8,∀ b ∈ escL l,b≠32
 |[],b,h=>by cases h
 |c :: l,b,h=>by
  simp only [escL,o3] at h;exact h.elim (xo9 c b) (yw3 l b)
theorem yt9:∀ ls:List (List UInt8),∀ b ∈ txtL ls,b≠32
 |[],b,h=>by cases h
 |l :: ls,b,h=>by
  simp only [txtL,o3,pv] at h;rcases h with h|rfl|h
  ·exact yw3 l b h
  ·decide
  ·exact yt9 ls b h
theorem yt8(n:List UInt8):∀ b ∈ txtN n,b≠32:=by
 unfold txtN;split
 ·intro b hb;simp at hb;rw [hb];decide
 ·exact yt9 _
theorem jz8:∀ a b:List UInt8,hexL (a++b)=hexL a++hexL b
 |[],b=>rfl
 |c :: a,b=>by simp only[gw,hexL,jz8 a b]
theorem zy9{l:List UInt8}{k:Nat}{c:UInt8}(h:l[k]? = some c):hexL (l.take (k+1))=hexL (l.take k)++[hexC (c.toNat / 16),hexC (c.toNat % 16)]:=by
 rw[mp,h,jz8];simp[hexL]
theorem zr9(b:List UInt8)(x y:UInt8)(i:Nat)(h:i<b.length+2):catF b.length (jw b) (qx [DV.int IntKind.u8 (x.toNat:Int),DV.int IntKind.u8 (y.toNat:Int)] 1) i=jw (b++[x,y]) i:=by
 unfold catF jw jc;split
 ·rename_i hl;simp[ot hl]
 ·rename_i hl;have:i=b.length\/i=b.length+1:=by omega
  rcases this with rfl|rfl
  ·simp[qx]
  ·simp[qx]
theorem shr4:∀ n:Nat,n<256->((n:Nat):Int).fdiv (2 ^ min (Int.toNat 4) IntKind.u8.bits)=((n / 16:Nat):Int)/\Go.bits BinOp.and IntKind.u8 ((n:Nat):Int) 15=((n % 16:Nat):Int):=by decide +kernel
theorem yv5(s:List UInt8)(c:UInt8):FnOk Tryz.prog 170 [.d (.str s),.d (.int .u8 (c.toNat:Int))] (.d (.int .i64 (Lib.indexByte s c))):=by
 refine⟨qd Tryz.func170 (by kernel_rfl) rfl,fun M w vs hV hM hl hd=>?_⟩
 match vs,hl with
 |[v0,v1],_ =>
  have h0:=yk (hd 0 _ v0 rfl rfl);have h1:=ja (hd 1 _ v1 rfl rfl);subst h0 h1;refine(Try.strings_IndexByte ⟨s.toArray⟩ (c.toNat:Int) w).mono ?_;rintro e w' ⟨rfl,rfl⟩;have:(c.toNat:Int).toNat.toUInt8=c:=by rw[px];exact UInt8.ofNat_toNat
  rw[this];exact⟨_,rfl,Step.refl _ _,.d (.int _ _)⟩
theorem yv8:∀ a:UInt8,Lib.indexByte hexD a<16:=fun a=>by
 have:∀ n:Nat,n<256->Lib.indexByte hexD (UInt8.ofNat n)<16:=by decide +kernel
 have:=this a.toNat a.toNat_lt
 rwa [UInt8.ofNat_toNat] at this
theorem xu5:∀ i:Nat,i<16->∀ j:Nat,j<16->IntKind.u8.wrap (Go.bits BinOp.or IntKind.i64 (IntKind.i64.wrap ((i:Int) * 2 ^ min (Int.toNat 4) IntKind.i64.bits)) (j:Int))=((UInt8.ofNat (16 * i+j)).toNat:Int):=by decide +kernel
def yx5(o:Option (List UInt8)):SV:=match o with
 |some d=>.tup [.d (.str d),.d (.bool true)]
 |none=>.tup [.d (.str []),.d (.bool false)]
structure UhSt where
 i:Nat
 b:List UInt8
def RR.line(r:RR):List UInt8:=txtN r.nm++32 :: (Lib.decDigits r.ttl.toNat++32 :: (Lib.decDigits r.cl.toNat++32 :: (Lib.decDigits r.ty.toNat++32 :: hexT r.d)))
theorem RR.line_cut(r:RR):cutN 5 r.line=[txtN r.nm,Lib.decDigits r.ttl.toNat,Lib.decDigits r.cl.toNat,Lib.decDigits r.ty.toNat,hexT r.d]:=by
 unfold RR.line;rw[jc2 4 _ _ (yt8 _),jc2 3 _ _ (jf1 _),jc2 2 _ _ (jf1 _),jc2 1 _ _ (jf1 _),yl7 1 _ (xn9 _)]
def qc1(ws:List (List UInt8)):Option RR:=match ws with
 |[w0,w1,w2,w3,w4]=>match yd 32 w1,yd 16 w2,yd 16 w3,qj2 w4 with
  |some t,some c,some y,some d=>if (jx w0).2=0 then some ⟨(jx w0).1,y,c,t,d⟩ else none
  |_,_,_,_=>none
 |_=>none
def y3(s:List UInt8):Option RR:=match qc1 (cutN 5 s) with
 |some r=>if r.check=true/\r.line=s then some r else none
 |none=>none
theorem zj6{s:List UInt8}{r:RR}(h:y3 s=some r):r.check=true/\r.line=s:=by
 unfold y3 at h;split at h
 ·split at h
  ·rename_i h1;cases h;exact h1
  ·cases h
 ·cases h
structure RR.In(r:RR):Prop where
 ty:0<=r.ty/\r.ty<=65535
 cl:0<=r.cl/\r.cl<=65535
 ttl:0<=r.ttl/\r.ttl<=4294967295
theorem qr3{r:RR}(h:r.check=true):qb r.nm:=by
 unfold RR.check at h;simp only [p8,lx] at h;exact h.1.1
theorem zo6{r:RR}(h:r.check=true)(hi:r.In)(hd:r.d.length<=4096):y3 r.line=some r:=by
 have hn:=qr3 h;have ht:=yi4 hn;unfold y3;rw[r.line_cut];have hc:qc1 [txtN r.nm,Lib.decDigits r.ttl.toNat,Lib.decDigits r.cl.toNat,Lib.decDigits r.ty.toNat,hexT r.d]=some r:=by
  unfold qc1;simp only;rw[qz5 (B:=32) (by decide) (by have:=hi.ttl;omega),qz5 (B:=16) (by decide) (by have:=hi.cl;omega),qz5 (B:=16) (by decide) (by have:=hi.ty;omega),zn2 hd,ht];simp only;rw[if_pos trivial];obtain⟨n,y,c,t,d⟩:=r;have h1:=hi.ty;have h2:=hi.cl;have h3:=hi.ttl;simp only at h1 h2 h3;show some (RR.mk n _ _ _ d)=some (RR.mk n y c t d);rw[Int.toNat_of_nonneg h1.1,Int.toNat_of_nonneg h2.1,Int.toNat_of_nonneg h3.1]
 rw[hc];simp only;rw[if_pos ⟨h,trivial⟩]
theorem xg9(s:List UInt8)(c:UInt8):FnOk Tryz.prog 192 [.d (.str s),.d (.str [c])] (.d (.int .i64 (Lib.indexByte s c))):=by
 refine⟨qd Tryz.func192 (by kernel_rfl) rfl,fun M w vs _ hM hl hd=>?_⟩
 match vs,hl with
 |[v0,v1],_ =>
  have h0:=yk (hd 0 _ v0 rfl rfl);have h1:=yk (hd 1 _ v1 rfl rfl);subst h0 h1;refine(Try.strings_Index_one ⟨s.toArray⟩ c w).mono ?_;rintro e w' ⟨rfl,rfl⟩;exact⟨_,rfl,Step.refl _ _,.d (.int _ _)⟩
def dig(n:Nat):List UInt8:=if n<10 then [UInt8.ofNat (48+n)] else if n<100 then [UInt8.ofNat (48+n / 10),UInt8.ofNat (48+n % 10)] else [UInt8.ofNat (48+n / 100),UInt8.ofNat (48+n / 10 % 10),UInt8.ofNat (48+n % 10)]
theorem jr2{n:Nat}(h:n<1000):Lib.decDigits n=dig n:=by
 unfold dig;rw[Lib.decDigits];split
 ·rfl
 ·rename_i h1;rw[Lib.decDigits];split
  ·rename_i h2;rw[if_pos (by omega)];rfl
  ·rename_i h2;rw[Lib.decDigits,dif_pos (by omega),if_neg (by omega)];show[_,_,_]=_;rw[show n / 10 / 10=n / 100 by omega]
theorem yn3(i:Nat)(h:i<100):FnOk Tryz.prog 152 [.d (.int .i64 i)] (.d (.str (dig i))):=by
 refine⟨qd Tryz.func152 (by kernel_rfl) rfl,fun M w vs _ hM hl hd=>?_⟩
 match vs,hl with
 |[v0],_ =>
  have h0:=ja (hd 0 _ v0 rfl rfl);subst h0;refine(Try.internal_strconv_small i h w).mono ?_;rintro e w' ⟨rfl,rfl⟩;rw[jr2 (by omega)];exact⟨_,rfl,Step.refl _ _,.d (.str _)⟩
theorem xr1:(1,zb2 .u64 ((List.range 20).map fun i=>((10 ^ i:Nat):Int))) ∈ evs:=by unfold evs;simp only[pv];first|exact .inr (.inr (.inl rfl))|exact .inr (.inr (.inl ⟨rfl,rfl⟩))|simp
theorem xr0 {w : World} {fp : Nat → Nat → Prop} (h : VOk w fp) : Lib.TabIs Tryz.prog w "internal/strconv.uint64pow10" .u64 Lib.pow10Tab := by
 obtain⟨⟨vs,t,fz,e,h1⟩,_⟩:=h _ xr1;unfold Lib.TabIs World.var?
 rw [show Tryz.prog.globalNamed "internal/strconv.uint64pow10" = some 1 by kernel_rfl]
 simp only[dp,e];exact congrArg some h1
theorem zg4{w:World}{b:Nat}{vs:Array Value}{t:TypeId}{fz:Nat × Nat}(h:w.heap[b]? = some (.cells vs t fz))(enc:UInt8->Value)(d:Array UInt8):Sort.putRow enc w b 0 d=World.setBlock w b (.cells (Sort.putCells enc 0 d vs) t fz):=by
 unfold Sort.putRow Sort.mapBlock World.setBlock;congr 1;apply rn;intro j;have hb:b<w.heap.size:=jo h;rw[dq,f6];by_cases e1:b=j
 ·subst e1;rw[if_pos rfl,if_pos rfl,if_pos hb,h];rfl
 ·rw[if_neg e1,if_neg e1]
def z8:SV:=.d (.int .u8 0)
def b8(c:UInt8):SV:=.d (.int .u8 (c.toNat:Int))
theorem xt1(s:List UInt8)(hs:s.length<=1000000):FnOk Tryz.prog 84 [.d (.str s)] (.d (.str (hexT s))):=by
 refine qu (TT:=TT) (IN:=qe []) qg qh mixed 1000 Tryz.func84 rfl (qd Tryz.func84 (by kernel_rfl) rfl) rfl 31 (by kernel_rfl) ?_;conv=>whnf
 refine⟨fun h1=>?_,fun h1=>?_⟩
 ·have h1:s=[]:=by simpa using h1
  subst h1;conv=>whnf
  try exact rfl
 have h1:s≠[]:=by simpa using h1
 rw[show hexT s=hexL s from if_neg h1];conv=>whnf
 rw[qa (2 * (s.length:Int)) (by omega)];refine⟨by omega,?_⟩;conv=>whnf
 have hdg:∀ n:Nat,n<16->jc (ByteArray.mk #[48,49,50,51,52,53,54,55,56,57,97,98,99,100,101,102]).data.toList ((n:Nat):Int)=((hexC n).toNat:Int):=by decide
 refine .inv Nat (fun i=>i<=s.length) (fun i=>[(3,.all 0),(10,.any),(13,iV i)]) (fun i=>[(0,.row 5 1 (hexL (s.take i)).length .no (jw (hexL (s.take i))))]) (fun i=>s.length - i) ⟨0,[0],pz _,?_⟩ ?_
 ·conv=>whnf
  exact rZ2
 intro i hi;have hlen:=jb7 (s.take i);rw [lu] at hlen;conv=>whnf
 refine⟨fun c0=>?_,fun c0=>?_⟩
 ·have c0':i<s.length:=(by have h:(i:Int)<s.length:=pu c0;omega);have hsk:s[i]? = some s[i]:=pp c0';have hbk:jc s (i:Int)=((s[i].toNat:Nat):Int):=by rw[yo];unfold bt;rw[hsk];rfl
  have hnx:=zy9 hsk;generalize s[i]=c at hsk hbk hnx;have hc:=c.toNat_lt;have hk1:=w64s i (by omega);conv=>whnf
  refine⟨by omega,?_⟩;conv=>whnf
  rw[hbk];refine⟨by decide,?_⟩;conv=>whnf
  obtain⟨e1,e2⟩:=shr4 c.toNat hc;rw[e1];refine⟨⟨by omega,by show((c.toNat / 16:Nat):Int)<16;omega⟩,?_⟩;conv=>whnf
  rw[hdg _ (by omega)];refine⟨by omega,?_⟩;conv=>whnf
  rw[hbk,e2];refine⟨⟨by omega,by show((c.toNat % 16:Nat):Int)<16;omega⟩,?_⟩;conv=>whnf
  rw[hdg _ (by omega)];refine⟨by omega,?_⟩;conv=>whnf
  rw[hk1];refine⟨i+1,[2],c0',by show s.length - (i+1)<s.length - i;omega,?_⟩;rw[hnx];conv=>whnf
  repeat'(first|exact ⟨⟩|exact rfl|exact jd _|exact .inr rfl|exact fun _ _=>rfl|exact noI|apply And.intro)
  all_goals first
   |(show _+2=(_++[_,_]).length;simp)
   |exact(fun i hi=>zr9 _ _ _ i hi)
 ·have c0':i=s.length:=(by have h:¬ (i:Int)<s.length:=pw c0;omega);subst c0';rw[mr];conv=>whnf
  refine⟨fun i _=>⟨_,rfl⟩,?_⟩;rw[qc6];conv=>whnf
  try exact rfl
theorem xc5(s:List UInt8):FnOk Tryz.prog 136 [.d (.str s)] (yx5 (qj2 s)):=by
 refine qu (TT:=TT) (IN:=qe []) qg qh mixed 1000 Tryz.func136 rfl (qd Tryz.func136 (by kernel_rfl) rfl) rfl 57 (by kernel_rfl) ?_;conv=>whnf
 refine⟨fun h1=>?_,fun h1=>?_⟩
 ·have h1:s=[45]:=by simpa using h1
  rw[show qj2 s=some [] from if_pos h1];conv=>whnf
  exact rZ6
 have h1:s≠[45]:=by simpa using h1
 have he:qj2 s=if s=[]\/s.length % 2≠0\/s.length > 8192 then none else qa8 s:=if_neg h1;conv=>whnf
 by_cases h2:s=[]
 ·rw[he,if_pos (.inl h2)];subst h2;refine brT rfl ?_;conv=>whnf
  repeat(first|(refine brF rfl ?_;conv=>whnf)|(refine brT rfl ?_;conv=>whnf))
  exact rZ6
 refine brF (by simpa using h2) ?_;conv=>whnf
 refine⟨by decide,?_⟩;conv=>whnf
 by_cases h3:s.length % 2=0
 case neg =>
  rw[he,if_pos (.inr (.inl h3))];refine brT (by rw[bne_iff_ne];show((s.length:Int)).tmod 2≠0;rw[Int.tmod_eq_emod_of_nonneg (by omega)];omega) ?_;conv=>whnf
  repeat(first|(refine brF rfl ?_;conv=>whnf)|(refine brT rfl ?_;conv=>whnf))
  exact rZ6
 refine brF (by rw[bne_eq_false_iff_eq];show((s.length:Int)).tmod 2=0;rw[Int.tmod_eq_emod_of_nonneg (by omega)];omega) ?_;conv=>whnf
 by_cases h4:s.length<=8192
 case neg =>
  rw[he,if_pos (.inr (.inr (by omega)))];refine brT (pn (by omega)) ?_;conv=>whnf
  repeat(first|(refine brF rfl ?_;conv=>whnf)|(refine brT rfl ?_;conv=>whnf))
  exact rZ6
 refine brF (po (by omega)) ?_;conv=>whnf
 rw[he,if_neg (fun h=>by rcases h with h|h|h;exact h2 h;omega;omega)];clear he;repeat(first|(refine brF rfl ?_;conv=>whnf)|(refine brT rfl ?_;conv=>whnf))
 refine⟨by decide,?_⟩;conv=>whnf
 have hdv:IntKind.i64.wrap ((s.length:Int).tdiv 2)=((s.length / 2:Nat):Int):=by
  rw[Int.tdiv_eq_ediv_of_nonneg (by omega),qa _ (by omega)];omega
 rw[hdv];refine⟨by omega,?_⟩;conv=>whnf
 refine .inv UhSt (fun x=>x.i<=s.length/\x.i=2 * x.b.length/\(qa8 (s.drop x.i)).map (x.b ++ ·)=qa8 s) (fun x=>[(4,.all 0),(5,iV x.i),(26,.any)]) (fun x=>[(0,.row 5 1 x.b.length .no (jw x.b))]) (fun x=>s.length - x.i) ⟨⟨0,[]⟩,[0],⟨pz _,rfl,by simp⟩,?_⟩ ?_
 ·conv=>whnf
  exact rZ2
 intro x hx;obtain⟨hk,hm,hrest⟩:=hx;conv=>whnf
 generalize x.i=i at hk hm hrest ⊢;generalize x.b=b at hm hrest ⊢;refine⟨fun c0=>?_,fun c0=>?_⟩
 ·have c0':i<s.length:=(by have h:(i:Int)<s.length:=pu c0;omega);have c1':i+1<s.length:=by omega
  have hs0:s[i]? = some s[i]:=pp c0';have hs1:s[i+1]? = some s[i+1]:=pp c1';have hd0:s.drop i=s[i] :: s[i+1] :: s.drop (i+2):=by rw[l6 c0',l6 c1']
  have hb0:jc s (i:Int)=((s[i].toNat:Nat):Int):=by rw[yo];unfold bt;rw[hs0];rfl
  have hb1:jc s ((i+1:Nat):Int)=((s[i+1].toNat:Nat):Int):=by rw[yo];unfold bt;rw[hs1];rfl
  generalize s[i]=p at hs0 hd0 hb0;generalize s[i+1]=q at hs1 hd0 hb1;have hk1:=w64s i (by omega);have hk2:IntKind.i64.wrap ((i:Int)+2)=((i+2:Nat):Int):=by rw[qa _ (by omega)];omega
  rw [hd0] at hrest;simp only [qa8] at hrest;conv=>whnf
  refine⟨by omega,?_⟩;conv=>whnf
  rw[hb0];refine .data _ (yv5 hexD p) rfl rfl ?_;conv=>whnf
  rw[hk1];refine⟨by omega,?_⟩;conv=>whnf
  rw[hb1];refine .data _ (yv5 hexD q) rfl rfl ?_;conv=>whnf
  have hpl:=yv8 p;have hql:=yv8 q;generalize Lib.indexByte hexD p=u at hrest hpl ⊢;generalize Lib.indexByte hexD q=v at hrest hql ⊢;by_cases hu:u<0
  ·rw [if_pos (.inl hu)] at hrest;rw[<-hrest];refine brT (pn hu) ?_;conv=>whnf
   repeat(first|(refine brF rfl ?_;conv=>whnf)|(refine brT rfl ?_;conv=>whnf))
   exact rZ6
  refine brF (po hu) ?_;conv=>whnf
  by_cases hv:v<0
  ·rw [if_pos (.inr hv)] at hrest;rw[<-hrest];refine brT (pn hv) ?_;conv=>whnf
   repeat(first|(refine brF rfl ?_;conv=>whnf)|(refine brT rfl ?_;conv=>whnf))
   exact rZ6
  refine brF (po hv) ?_;conv=>whnf
  repeat(first|(refine brF rfl ?_;conv=>whnf)|(refine brT rfl ?_;conv=>whnf))
  rw [if_neg (fun h=>h.elim hu hv)] at hrest;obtain⟨u,rfl⟩:∃ n:Nat,u=n:=⟨u.toNat,by omega⟩;obtain⟨v,rfl⟩:∃ n:Nat,v=n:=⟨v.toNat,by omega⟩;simp only [px] at hrest;refine⟨by decide,?_⟩;conv=>whnf
  rw[xu5 u (by omega) v (by omega)];refine⟨by omega,?_⟩;conv=>whnf
  rw[hk2];refine⟨⟨i+2,b++[UInt8.ofNat (16 * u+v)]⟩,[2],⟨by show i+2<=s.length;omega,by show i+2=2 * (b++[_]).length;rw[py];show i+2=2 * (b.length+1);omega,?_⟩,by show s.length - (i+2)<s.length - i;omega,?_⟩
  ·rw[<-hrest];show(qa8 (s.drop (i+2))).map ((b++[_]) ++ ·)=_;rw[Option.map_map];congr 1;funext z;simp
  conv=>whnf
  repeat'(first|exact ⟨⟩|exact rfl|exact jd _|exact .inr rfl|exact fun _ _=>rfl|exact noI|apply And.intro)
  all_goals first
   |(show b.length+1=(b++[_]).length;simp)
   |exact(fun j hj=>qh6 b _ j hj)
 ·have c0':i=s.length:=(by have h:¬ (i:Int)<s.length:=pw c0;omega);rw [c0',cy] at hrest;rw[<-hrest];conv=>whnf
  refine⟨fun i _=>⟨_,rfl⟩,?_⟩;rw[qc6];conv=>whnf
  show _/\_;simp only[m6]
  exact rZ6
def digC(n k:Nat):List SV:=(List.range k).map fun t=>b8 (Lib.dg n (k - 1 - t))
theorem xp4{n k j:Nat}(h:j<k):(digC n k)[j]? = some (b8 (Lib.dg n (k - 1 - j))):=by simp[digC,h]
theorem ys1(n k:Nat)(hk:k<=20)(h:n<10 ^ k)(hn:n<18446744073709551616):COk Tryz.prog 154 [.cs 0 0 k 24,.d (.int .u64 n)] [.cells 204 (List.replicate 24 z8)]
 (fun r ks=>r = .tup []/\ks=[.cells 204 (digC n k++List.replicate (24 - k) z8)]):=by
 refine⟨qd Tryz.func154 (by kernel_rfl) rfl,fun X w β fp vs hM hl hd=>?_⟩
 match vs,hl with
 |[v0,v1],_ =>
  have h0:=hd 0 _ v0 rfl rfl;have h1:=ja (hd 1 _ v1 rfl rfl);subst h1;cases h0 with
  |cs _ _ _ _ L hL hnc =>
   have hb:=hM.at (i:=0) rfl (by simp) hL;cases hb with
   |cells _ _ us hfp hblk hlen hden h1 =>
    have hsz:us.size=24:=by simpa using hlen.symm
    have hu:∀ j,j<24->us[j]? = some (.int .u8 0):=fun j hj=>by
     have hlt:j<us.size:=by omega
     have hx:=hden j z8 us[j] (by rw[List.getElem?_replicate];simp[hj]) (by simp[hlt]);rw[oz hlt];exact congrArg some (ja hx)
    have hc:∀ j,j<24->w.cell? ⟨L.b,j,none⟩=some (.int .u8 0):=fun j hj=>by simp[World.cell?,hblk,hu j hj]
    have hfz:∀ j,w.frozen? ⟨L.b,j,none⟩=false:=fun j=>by simp[World.frozen?,hblk]
    have hds0:(Array.replicate k (0:UInt8)).size=k:=by simp
    have hcall:=Try.internal_strconv_formatBase10 L.b 0 24 n (Array.replicate k 0) w (fun j hj=>⟨?_,?_⟩) (by rw[hds0];exact h) hn (by rw[hds0];omega)
    rotate_left
    ·rw [hds0] at hj;rw[ox,hc j (by omega)];have:(Array.replicate k (0:UInt8))[j]! = 0:=by rw[getElem!_pos _ j (by rw[hds0];exact hj)];simp
     rw[this];rfl
    ·rw[ox];exact hfz j
    rw [hds0] at hcall;refine hcall.mono ?_;rintro e w' ⟨rfl,m,v',dk,rfl,hinv⟩;have hds:dk.size=k:=hinv.size;have hdk:∀ t,t<k->dk[t]! = Lib.dg n (k - 1 - t):=fun t ht=>hinv.done t (pz _) ht
    rw[zg4 hblk];have hget:∀ j,(Sort.putCells (fun(b:UInt8)=>Value.int .u8 (b.toNat:Int)) 0 dk us)[j]? = if j<k then some (.int .u8 ((Lib.dg n (k - 1 - j)).toNat:Int)) else us[j]?:=fun j=>by
     unfold Sort.putCells;rw[Array.getElem?_mapIdx];by_cases hj:j<k
     ·rw[hu j (by omega),if_pos hj];simp only[o8,hds];rw[if_pos (by omega),ru,hdk j hj]
     ·rw[if_neg hj];cases us[j]? with
      |none=>rfl
      |some x=>simp only[o8,hds];rw[if_neg (by omega)]
    have hlC:(digC n k).length=k:=by simp[digC]
    have W:=hM.store (i:=0) (l':=digC n k++List.replicate (24 - k) z8) (vs':=Sort.putCells (fun(b:UInt8)=>Value.int .u8 (b.toNat:Int)) 0 dk us) rfl hL hfp hblk (by simp[Sort.putCells,hsz,hlC];omega) (fun j s' u hj hu'=>by
     rw [hget] at hu';by_cases hjk:j<k
     ·rw [if_pos hjk] at hu';rw [ot (by omega),xp4 hjk] at hj;cases hj;cases hu';exact .d (.int _ _)
     ·rw [if_neg hjk] at hu';rw [o5 (by omega),List.getElem?_replicate] at hj;have hs':s'=z8:=by
       split at hj
       ·cases hj;rfl
       ·cases hj
      have hlt:j<24:=by rw[<-hsz];exact(m7.1 hu').1
      rw [hu _ hlt] at hu';cases hu';rw[hs'];exact .d (.int _ _)) (fun j u hu'=>by
     rw [hget] at hu';split at hu'
     ·cases hu';rfl
     ·exact h1 j u hu')
    have Q:Step (fun _=>False) (World.setBlock w L.b (.cells (Sort.putCells (fun(b:UInt8)=>Value.int .u8 (b.toNat:Int)) 0 dk us) 204 (0,0))) ((World.setBlock w L.b (.cells (Sort.putCells (fun(b:UInt8)=>Value.int .u8 (b.toNat:Int)) 0 dk us) 204 (0,0))).drewN m):=⟨rfl,rfl,rfl,pr _,fun _ _ _=>rfl,fun h=>(show False from h).elim⟩;exact ⟨_,.tup [],_,_,_,rfl,⟨rfl,rfl⟩,W.trans (W.mem.quiet Q),.tup _ _ rfl (fun j s' u hj _=>by simp at hj)⟩
theorem ye4(u k:Nat)(h1:10 ^ k<=u)(h2:u<10 ^ (k+1))(h3:u<18446744073709551616):FnOk Tryz.prog 153 [.d (.int .u64 u)] (.d (.int .i64 (k+1:Nat))):=by
 refine⟨qd Tryz.func153 (by kernel_rfl) rfl,fun M w vs hV hM hl hd=>?_⟩
 match vs,hl with
 |[v0],_ =>
  have h0:=ja (hd 0 _ v0 rfl rfl);subst h0;have hp:1<=10 ^ k:=Nat.one_le_pow _ _ (by decide);refine(Try.internal_strconv_numDigits u (by omega) h3 w (xr0 hV)).mono ?_
  rintro e w' ⟨rfl,rfl⟩
  rw[Lib.nDigits_unique k u h1 h2];exact⟨_,rfl,Step.refl _ _,.d (.int _ _)⟩
theorem yw5{n k:Nat}(h1:10 ^ k<=n)(h2:n<10 ^ (k+1)):Lib.decDigits n=(List.range (k+1)).map fun t=>Lib.dg n (k - t):=by
 rw[Lib.decDigits_eq,Lib.nDigits_unique k n h1 h2];rfl
theorem ofb8(c:UInt8):UInt8.ofNat (c.toNat:Int).toNat=c:=by rw[px];exact UInt8.ofNat_toNat
theorem jq9(n:Nat)(h:n<10000000000):FnOk Tryz.prog 83 [.d (.int .u64 n),.d (.int .i64 10)] (.d (.str (Lib.decDigits n))):=by
 refine qu (TT:=TT) (IN:=qe [(117,Tryz.f117,2)]) qg (jh qh Tryz.func117 (by kernel_rfl) (by kernel_rfl)) mixed 1000 Tryz.func83 rfl (qd Tryz.func83 (by kernel_rfl) rfl) rfl 6 (by kernel_rfl) ?_;conv=>whnf
 refine brT rfl ?_;conv=>whnf
 refine⟨fun h1=>?_,fun h1=>?_⟩
 ·have h1':n<100:=by have:=pu h1;omega
  conv=>whnf
  rw[qa (n:Int) (by omega),jr2 (by omega)];refine oD (yn3 n h1') rfl rfl ?_;conv=>whnf
 have h1':100<=n:=by have:=pw h1;omega
 conv=>whnf
 have hk:∃ k,2<=k/\k<=9/\10 ^ k<=n/\n<10 ^ (k+1):=by
  by_cases a3:n<1000
  ·exact⟨2,by decide,by decide,h1',a3⟩
  by_cases a4:n<10000
  ·exact⟨3,by decide,by decide,by omega,a4⟩
  by_cases a5:n<100000
  ·exact⟨4,by decide,by decide,by omega,a5⟩
  by_cases a6:n<1000000
  ·exact⟨5,by decide,by decide,by omega,a6⟩
  by_cases a7:n<10000000
  ·exact⟨6,by decide,by decide,by omega,a7⟩
  by_cases a8:n<100000000
  ·exact⟨7,by decide,by decide,by omega,a8⟩
  by_cases a9:n<1000000000
  ·exact⟨8,by decide,by decide,by omega,a9⟩
  ·exact⟨9,by decide,by decide,by omega,h⟩
 obtain⟨k,k2,k9,hk1,hk2⟩:=hk;refine oD (ye4 n k hk1 hk2 (by omega)) rfl rfl ?_;rw[yw5 hk1 hk2];have hb:=ys1 n (k+1) (by omega) hk2 (by omega);have hks:k=2\/k=3\/k=4\/k=5\/k=6\/k=7\/k=8\/k=9:=by omega
 rcases hks with rfl|rfl|rfl|rfl|rfl|rfl|rfl|rfl
 all_goals
  conv=>whnf
  refine⟨by decide,?_⟩;conv=>whnf
  refine .rel _ hb (fun x ks' hR=>?_);obtain⟨rfl,rfl⟩:=hR;conv=>whnf
  refine⟨by decide,?_⟩;conv=>whnf
  refine congrArg DV.str ?_;simp only[List.range,List.range.loop,cu,List.map_nil];simp only[vr,ofb8]
theorem ww0(pre:List KB)(c:UInt8):COk Tryz.prog 21 [.ptr pre.length 0,.d (.int .u8 (c.toNat:Int))] (pre++[.cells 65 [.v (.pointer none),nilS]]) (fun r k=>r = .v .nilIface/\k=pre++[pk (Bst.fl (.live [c]))]):=by
 have:=(yy6 (xq6 c)).among pre [] (fun s k ⟨b1,hk,_⟩=>by rw[hk];exact pr _) rfl;refine COk.imp (this:COk _ _ [.ptr pre.length 0,.d (.int .u8 (c.toNat:Int))] (pre++[.cells 65 [.v (.pointer none),nilS]]) _) fun s k ⟨s0,k1,⟨b1,hk1,hr,hb1⟩,hs,hk⟩=>?_
 subst hr hk1 hb1;exact⟨by rw[hs];rfl,by rw[hk];rfl⟩
theorem yt6{q:List UInt8}(h:q.length<=63):IntKind.u8.wrap (q.length:Int)=((UInt8.ofNat q.length).toNat:Int):=by
 rw[qx8 (by omega),dx];omega
theorem ji3(l:List (List UInt8))(i:Nat):(labs (l.take i)).length<=(labs l).length:=by
 have:labs l=labs (l.take i)++labs (l.drop i):=by rw[<-jj3,cz]
 rw[this,py];omega
theorem rZ11{p:Prop}(h:p:=by repeat'(first|exact ⟨⟩|exact rfl|exact(fun _ _ _ _ h=>⟨y7 _,h⟩)|exact fun _=>Iff.rfl|exact fun _ _=>rfl|apply And.intro)):p:=h
theorem xg3(z:Bool)(l:List (List UInt8))(hl:l≠[])(hs:∀ x ∈ l,okL x)(hm:(mk l).length<=255):FnOk Tryz.prog 132 [.d (.str [0]),.d (.sl z l.length 1 (strs l))] (.tup [.d (.str (mk l)),.d (.int .i64 0)]):=by
 refine qu (TT:=TT) (IN:=qe []) qg qh mixed 1000 Tryz.func132 rfl (qd Tryz.func132 (by kernel_rfl) rfl) rfl 53 (by kernel_rfl) ?_;conv=>whnf
 refine oD (yq [0]) rfl rfl ?_;conv=>whnf
 refine⟨fun h=>absurd h (by decide),fun _=>?_⟩;conv=>whnf
 have hml:(labs l).length+1=(mk l).length:=by rw[<-qu3,py];rfl
 have hll:=jj2 l;refine .inv Nat (fun i=>i<=l.length) (fun i=>[(6,.d (.int .i64 ((labs (l.take i)).length+1:Nat))),(19,.d (.int .i64 i))]) (fun _=>[]) (fun i=>l.length - i) ⟨0,[],pz _,?_⟩ ?_
 ·conv=>whnf
  exact rZ6
 intro i hi;conv=>whnf
 have htl:=ji3 l i;refine⟨fun c1=>?_,fun c1=>?_⟩
 ·have c1:(i:Int)<l.length:=pu c1;have hil:i<l.length:=by omega
  obtain⟨q,hq⟩:∃ q,l[i]?.getD []=q:=⟨_,rfl⟩;have hq2:l[i]? = some q:=by rw[<-hq,pp hil];rfl
  have htk:l.take (i+1)=l.take i++[q]:=by rw[mp,hq2];rfl
  have hqo:=hs q (ov hq2);have hql:=hqo.1;have hqm:=hqo.2;have hw1:=w64s i (by omega);conv=>whnf
  refine⟨by omega,?_⟩;conv=>whnf
  rw[px,hq];refine brF (by rw[mq];omega) ?_;conv=>whnf
  refine brF (po (by omega)) ?_;conv=>whnf
  refine⟨i+1,[],hil,by omega,?_⟩;conv=>whnf
  have hcat:labs (l.take (i+1))=labs (l.take i)++lab q:=by rw[htk,jm0]
  have hle:=ji3 l (i+1);rw [hcat,py,kz] at hle;rw[hw1,hcat,py,kz,qa (1+(q.length:Int)) (by omega),qa _ (by omega),show(((labs (l.take i)).length+1:Nat):Int)+(1+(q.length:Int))=(((labs (l.take i)).length+(1+q.length)+1:Nat):Int) by omega]
  exact rZ6
 ·have c1:¬ (i:Int)<l.length:=pw c1;rw[dn (by omega)];conv=>whnf
  refine brF (po (by omega)) ?_;conv=>whnf
  refine .once ?_;conv=>whnf
  refine brT (pn (by have:=d7.2 hl;omega)) ?_;conv=>whnf
  refine⟨by have:=d7.2 hl;omega,?_⟩;conv=>whnf
  obtain⟨x,xs,rfl⟩:∃ x xs,l=x :: xs:=by
   cases l with
   |nil=>exact absurd rfl hl
   |cons x xs=>exact⟨x,xs,rfl⟩
  have hx:=hs x (by simp);rw[show(x :: xs)[Int.toNat 0]?.getD []=x from rfl,yt6 hx.2];refine .rel _ (ww0 [] (UInt8.ofNat x.length)) (fun y ks' hR=>?_);obtain⟨rfl,rfl⟩:=hR;conv=>whnf
  refine .rel _ (COk.thing Bst.fl (qv5 [UInt8.ofNat x.length] x (by show 1+x.length<=_;have:=hx.2;omega)) [] [] _ rfl rfl) (fun y ks' hR=>?_);obtain⟨_,q,⟨rfl,rfl⟩,rfl,rfl⟩:=hR;conv=>whnf
  refine .inv Nat (fun j=>j+1<=(x :: xs).length) (fun j=>[(41,.d (.int .i64 (j+1:Nat)))]) (fun j=>[(0,pk (Bst.fl (.live (labs ((x :: xs).take (j+1))))))]) (fun j=>(x :: xs).length - (j+1)) ⟨0,[0],by simp,?_⟩ ?_
  ·have e0:labs ((x :: xs).take (0+1))=[UInt8.ofNat x.length]++x:=by
    show lab x++[]=_;rw[m6];rfl
   conv=>whnf
   rw[e0];exact rZ11
  intro j hj;generalize x :: xs=l at hl hs hm hml hll hj ⊢;clear htl hi;conv=>whnf
  have htl:=ji3 l (j+1);refine⟨fun c2=>?_,fun c2=>?_⟩
  ·have c2:((j+1:Nat):Int)<l.length:=pu c2;have hil:j+1<l.length:=by omega
   obtain⟨q,hq⟩:∃ q,l[j+1]?.getD []=q:=⟨_,rfl⟩;have hq2:l[j+1]? = some q:=by rw[<-hq,pp hil];rfl
   have htk:l.take (j+1+1)=l.take (j+1)++[q]:=by rw[mp,hq2];rfl
   have hqo:=hs q (ov hq2);have hqm:=hqo.2;have hw1:IntKind.i64.wrap (((j+1:Nat):Int)+1)=((j+1+1:Nat):Int):=by rw[qa _ (by omega)];omega
   have hcat:labs (l.take (j+1+1))=labs (l.take (j+1))++[UInt8.ofNat q.length]++q:=by rw[htk,jm0,m9];rfl
   conv=>whnf
   refine⟨by omega,?_⟩;conv=>whnf
   rw[px,hq,yt6 hqm];refine .rel _ (COk.thing Bst.fl (ym (labs (l.take (j+1))) (UInt8.ofNat q.length) (by omega)) [] [] _ rfl rfl) (fun y ks' hR=>?_);obtain⟨_,_,⟨rfl,rfl⟩,rfl,rfl⟩:=hR;conv=>whnf
   refine .rel _ (COk.thing Bst.fl (qv5 (labs (l.take (j+1))++[UInt8.ofNat q.length]) q (by rw[py];show _+1+_<=_;omega)) [] [] _ rfl rfl) (fun y ks' hR=>?_);obtain⟨_,_,⟨rfl,rfl⟩,rfl,rfl⟩:=hR;conv=>whnf
   refine⟨j+1,[0],by show j+1+1<=l.length;omega,by show l.length - (j+1+1)<l.length - (j+1);omega,?_⟩;rw[hcat];conv=>whnf
   rw[hw1];exact rZ11
  ·have c2:¬ ((j+1:Nat):Int)<l.length:=pw c2;have hj':j+1=l.length:=by omega
   rw [hj',mr] at *;conv=>whnf
   refine .rel _ (COk.thing Bst.fl (qv5 (labs l) [0] (by show _+1<=_;omega)) [] [] _ rfl rfl) (fun y ks' hR=>?_);obtain⟨_,_,⟨rfl,rfl⟩,rfl,rfl⟩:=hR;conv=>whnf
   refine .rel _ (COk.thing Bst.fl (ju1 (labs l++[0]) (by rw[py];show _+1<=_;omega)) [] [] _ rfl rfl) (fun y ks' hR=>?_);obtain⟨_,_,⟨rfl,rfl⟩,rfl,rfl⟩:=hR;rw[qu3];conv=>whnf
   repeat'(first|exact ⟨⟩|exact rfl|apply And.intro|(conv=>whnf))
def bK(s:List UInt8):KB:=match s with
 |[]=>.cells 65 [.v (.pointer none),nilS]
 |c :: r=>pk (Bst.fl (.live (c :: r)))
theorem qn4{s:List UInt8}(h:s≠[]):bK s=pk (Bst.fl (.live s)):=by
 cases s with
 |nil=>exact absurd rfl h
 |cons c r=>rfl
theorem wbK(s:List UInt8)(c:UInt8)(hs:s.length+1<=70368744177664):COk Tryz.prog 21 [.ptr 0 0,.d (.int .u8 (c.toNat:Int))] [bK s] (fun r k=>r = .v .nilIface/\k=[bK (s++[c])]):=by
 cases s with
 |nil=>exact ww0 [] c
 |cons x s =>
  refine(COk.thing Bst.fl (ym (x :: s) c hs) [] [] _ rfl rfl).imp fun r k ⟨s0,a1,⟨h1,h2⟩,h3,h4⟩=>?_
  subst h1 h2;exact⟨by rw[h3];rfl,by rw[h4];rfl⟩
theorem xu3:∀ n:Nat,n<256->IntKind.u8.wrap (48+IntKind.u8.wrap ((n:Int).tdiv 100))=((UInt8.ofNat (48+n / 100)).toNat:Int) /\
 IntKind.u8.wrap (48+(IntKind.u8.wrap ((n:Int).tdiv 10)).tmod 10)=((UInt8.ofNat (48+n / 10 % 10)).toNat:Int) /\
 IntKind.u8.wrap (48+(n:Int).tmod 10)=((UInt8.ofNat (48+n % 10)).toNat:Int):=by decide +kernel
theorem eqc(c d:UInt8):(((c.toNat:Int)) == (d.toNat:Int))=decide (c=d):=by
 rw[ly,mw,lx];constructor
 ·intro h;exact UInt8.toNat_inj.1 (by omega)
 ·intro h;rw[h]
theorem xl1(s:List UInt8)(c:UInt8)(hs:s.length+4<=70368744177664):COk Tryz.prog 81 [.ptr 0 0,.d (.int .u8 (c.toNat:Int))] [bK s] (fun r k=>r = .tup []/\k=[bK (s++escB c)]):=by
 have hc:=c.toNat_lt;obtain⟨d1,d2,d3⟩:=xu3 c.toNat hc;cases s with
 |nil =>
  refine jn (TT:=TT) (IN:=qe []) qg qh mixed 1000 Tryz.func81 rfl (qd Tryz.func81 (by kernel_rfl) rfl) 42 (by kernel_rfl) ?_;conv=>whnf
  rw[show(((c.toNat:Int)) == 46)=decide (c=46) from eqc c 46];by_cases h46:c=46
  ·have he:escB c=[92,c]:=if_pos (.inl h46);rw[he];refine brT (pn h46) ?_;conv=>whnf
   repeat(first|(refine brF rfl ?_;conv=>whnf)|(refine brT rfl ?_;conv=>whnf))
   refine .rel _ (ww0 [] 92) (fun x ks' hR=>?_);obtain⟨rfl,rfl⟩:=hR;conv=>whnf
   refine .rel _ (COk.thing Bst.fl (ym [92] c (by simp)) [] [] _ rfl rfl) (fun y ks' hR=>?_);obtain⟨_,_,⟨rfl,rfl⟩,rfl,rfl⟩:=hR;conv=>whnf
   refine⟨[0],.tup [],[pk (Bst.fl (.live ([92]++[c])))],rfl,rfl,?_,?_,rfl,?_⟩
   ·(conv=>whnf);exact rZ6
   ·exact rZ11
   ·rfl
  refine brF (po h46) ?_;conv=>whnf
  rw[show(((c.toNat:Int)) == 92)=decide (c=92) from eqc c 92];by_cases h92:c=92
  ·have he:escB c=[92,c]:=if_pos (.inr h92);rw[he];refine brT (pn h92) ?_;conv=>whnf
   repeat(first|(refine brF rfl ?_;conv=>whnf)|(refine brT rfl ?_;conv=>whnf))
   refine .rel _ (ww0 [] 92) (fun x ks' hR=>?_);obtain⟨rfl,rfl⟩:=hR;conv=>whnf
   refine .rel _ (COk.thing Bst.fl (ym [92] c (by simp)) [] [] _ rfl rfl) (fun y ks' hR=>?_);obtain⟨_,_,⟨rfl,rfl⟩,rfl,rfl⟩:=hR;conv=>whnf
   refine⟨[0],.tup [],[pk (Bst.fl (.live ([92]++[c])))],rfl,rfl,?_,?_,rfl,?_⟩
   ·(conv=>whnf);exact rZ6
   ·exact rZ11
   ·rfl
  refine brF (po h92) ?_;conv=>whnf
  repeat(first|(refine brF rfl ?_;conv=>whnf)|(refine brT rfl ?_;conv=>whnf))
  by_cases h33:33<=c.toNat/\c.toNat<=126
  ·have he:escB c=[c]:=by unfold escB;rw[if_neg (fun h=>h.elim h46 h92),if_pos h33]
   rw[he];refine brT (pn (by omega)) ?_;conv=>whnf
   refine brT (pn (by omega)) ?_;conv=>whnf
   repeat(first|(refine brF rfl ?_;conv=>whnf)|(refine brT rfl ?_;conv=>whnf))
   refine .rel _ (ww0 [] c) (fun x ks' hR=>?_);obtain⟨rfl,rfl⟩:=hR;conv=>whnf
   refine⟨[0],.tup [],[pk (Bst.fl (.live ([c])))],rfl,rfl,?_,?_,rfl,?_⟩
   ·(conv=>whnf);exact rZ6
   ·exact rZ11
   ·rfl
  ·have he:escB c=[92,UInt8.ofNat (48+c.toNat / 100),UInt8.ofNat (48+c.toNat / 10 % 10),UInt8.ofNat (48+c.toNat % 10)]:=by unfold escB;rw[if_neg (fun h=>h.elim h46 h92),if_neg h33]
   rw[he];by_cases h33':33<=c.toNat
   ·refine brT (pn (by omega)) ?_;conv=>whnf
    refine brF (po (by omega)) ?_;conv=>whnf
    repeat(first|(refine brF rfl ?_;conv=>whnf)|(refine brT rfl ?_;conv=>whnf))
    refine .rel _ (ww0 [] 92) (fun x ks' hR=>?_);obtain⟨rfl,rfl⟩:=hR;conv=>whnf
    refine⟨by decide,?_⟩;conv=>whnf
    rw[d1];refine .rel _ (COk.thing Bst.fl (ym [92] (UInt8.ofNat (48+c.toNat / 100)) (by simp)) [] [] _ rfl rfl) (fun y ks' hR=>?_);obtain⟨_,_,⟨rfl,rfl⟩,rfl,rfl⟩:=hR;conv=>whnf
    refine⟨by decide,?_⟩;conv=>whnf
    refine⟨by decide,?_⟩;conv=>whnf
    rw[d2];refine .rel _ (COk.thing Bst.fl (ym ([92]++[(UInt8.ofNat (48+c.toNat / 100))]) (UInt8.ofNat (48+c.toNat / 10 % 10)) (by simp)) [] [] _ rfl rfl) (fun y ks' hR=>?_);obtain⟨_,_,⟨rfl,rfl⟩,rfl,rfl⟩:=hR;conv=>whnf
    refine⟨by decide,?_⟩;conv=>whnf
    rw[d3];refine .rel _ (COk.thing Bst.fl (ym ([92]++[(UInt8.ofNat (48+c.toNat / 100))]++[(UInt8.ofNat (48+c.toNat / 10 % 10))]) (UInt8.ofNat (48+c.toNat % 10)) (by simp)) [] [] _ rfl rfl) (fun y ks' hR=>?_);obtain⟨_,_,⟨rfl,rfl⟩,rfl,rfl⟩:=hR;conv=>whnf
    refine⟨[0],.tup [],[pk (Bst.fl (.live ([92]++[(UInt8.ofNat (48+c.toNat / 100))]++[(UInt8.ofNat (48+c.toNat / 10 % 10))]++[(UInt8.ofNat (48+c.toNat % 10))])))],rfl,rfl,?_,?_,rfl,?_⟩
    ·(conv=>whnf);exact rZ6
    ·exact rZ11
    ·rfl
   ·refine brF (po (by omega)) ?_;conv=>whnf
    repeat(first|(refine brF rfl ?_;conv=>whnf)|(refine brT rfl ?_;conv=>whnf))
    refine .rel _ (ww0 [] 92) (fun x ks' hR=>?_);obtain⟨rfl,rfl⟩:=hR;conv=>whnf
    refine⟨by decide,?_⟩;conv=>whnf
    rw[d1];refine .rel _ (COk.thing Bst.fl (ym [92] (UInt8.ofNat (48+c.toNat / 100)) (by simp)) [] [] _ rfl rfl) (fun y ks' hR=>?_);obtain⟨_,_,⟨rfl,rfl⟩,rfl,rfl⟩:=hR;conv=>whnf
    refine⟨by decide,?_⟩;conv=>whnf
    refine⟨by decide,?_⟩;conv=>whnf
    rw[d2];refine .rel _ (COk.thing Bst.fl (ym ([92]++[(UInt8.ofNat (48+c.toNat / 100))]) (UInt8.ofNat (48+c.toNat / 10 % 10)) (by simp)) [] [] _ rfl rfl) (fun y ks' hR=>?_);obtain⟨_,_,⟨rfl,rfl⟩,rfl,rfl⟩:=hR;conv=>whnf
    refine⟨by decide,?_⟩;conv=>whnf
    rw[d3];refine .rel _ (COk.thing Bst.fl (ym ([92]++[(UInt8.ofNat (48+c.toNat / 100))]++[(UInt8.ofNat (48+c.toNat / 10 % 10))]) (UInt8.ofNat (48+c.toNat % 10)) (by simp)) [] [] _ rfl rfl) (fun y ks' hR=>?_);obtain⟨_,_,⟨rfl,rfl⟩,rfl,rfl⟩:=hR;conv=>whnf
    refine⟨[0],.tup [],[pk (Bst.fl (.live ([92]++[(UInt8.ofNat (48+c.toNat / 100))]++[(UInt8.ofNat (48+c.toNat / 10 % 10))]++[(UInt8.ofNat (48+c.toNat % 10))])))],rfl,rfl,?_,?_,rfl,?_⟩
    ·(conv=>whnf);exact rZ6
    ·exact rZ11
    ·rfl
 |cons x s =>
  refine jn (TT:=TT) (IN:=qe []) qg qh mixed 1000 Tryz.func81 rfl (qd Tryz.func81 (by kernel_rfl) rfl) 42 (by kernel_rfl) ?_;conv=>whnf
  rw[show(((c.toNat:Int)) == 46)=decide (c=46) from eqc c 46];by_cases h46:c=46
  ·have he:escB c=[92,c]:=if_pos (.inl h46);rw[he];refine brT (pn h46) ?_;conv=>whnf
   repeat(first|(refine brF rfl ?_;conv=>whnf)|(refine brT rfl ?_;conv=>whnf))
   refine .rel _ (COk.thing Bst.fl (ym (x :: s) 92 (by simp at hs ⊢;omega)) [] [] _ rfl rfl) (fun y ks' hR=>?_);obtain⟨_,_,⟨rfl,rfl⟩,rfl,rfl⟩:=hR;conv=>whnf
   refine .rel _ (COk.thing Bst.fl (ym ((x :: s)++[92]) c (by simp at hs ⊢;omega)) [] [] _ rfl rfl) (fun y ks' hR=>?_);obtain⟨_,_,⟨rfl,rfl⟩,rfl,rfl⟩:=hR;conv=>whnf
   refine⟨[0],.tup [],[pk (Bst.fl (.live ((x :: s)++[92]++[c])))],rfl,rfl,?_,?_,rfl,?_⟩
   ·(conv=>whnf);exact rZ6
   ·exact rZ11
   ·rw[qn4 (by simp)];try simp only[gw,m9,gz]
  refine brF (po h46) ?_;conv=>whnf
  rw[show(((c.toNat:Int)) == 92)=decide (c=92) from eqc c 92];by_cases h92:c=92
  ·have he:escB c=[92,c]:=if_pos (.inr h92);rw[he];refine brT (pn h92) ?_;conv=>whnf
   repeat(first|(refine brF rfl ?_;conv=>whnf)|(refine brT rfl ?_;conv=>whnf))
   refine .rel _ (COk.thing Bst.fl (ym (x :: s) 92 (by simp at hs ⊢;omega)) [] [] _ rfl rfl) (fun y ks' hR=>?_);obtain⟨_,_,⟨rfl,rfl⟩,rfl,rfl⟩:=hR;conv=>whnf
   refine .rel _ (COk.thing Bst.fl (ym ((x :: s)++[92]) c (by simp at hs ⊢;omega)) [] [] _ rfl rfl) (fun y ks' hR=>?_);obtain⟨_,_,⟨rfl,rfl⟩,rfl,rfl⟩:=hR;conv=>whnf
   refine⟨[0],.tup [],[pk (Bst.fl (.live ((x :: s)++[92]++[c])))],rfl,rfl,?_,?_,rfl,?_⟩
   ·(conv=>whnf);exact rZ6
   ·exact rZ11
   ·rw[qn4 (by simp)];try simp only[gw,m9,gz]
  refine brF (po h92) ?_;conv=>whnf
  repeat(first|(refine brF rfl ?_;conv=>whnf)|(refine brT rfl ?_;conv=>whnf))
  by_cases h33:33<=c.toNat/\c.toNat<=126
  ·have he:escB c=[c]:=by unfold escB;rw[if_neg (fun h=>h.elim h46 h92),if_pos h33]
   rw[he];refine brT (pn (by omega)) ?_;conv=>whnf
   refine brT (pn (by omega)) ?_;conv=>whnf
   repeat(first|(refine brF rfl ?_;conv=>whnf)|(refine brT rfl ?_;conv=>whnf))
   refine .rel _ (COk.thing Bst.fl (ym (x :: s) c (by simp at hs ⊢;omega)) [] [] _ rfl rfl) (fun y ks' hR=>?_);obtain⟨_,_,⟨rfl,rfl⟩,rfl,rfl⟩:=hR;conv=>whnf
   refine⟨[0],.tup [],[pk (Bst.fl (.live ((x :: s)++[c])))],rfl,rfl,?_,?_,rfl,?_⟩
   ·(conv=>whnf);exact rZ6
   ·exact rZ11
   ·rw[qn4 (by simp)];try simp only[gw,m9,gz]
  ·have he:escB c=[92,UInt8.ofNat (48+c.toNat / 100),UInt8.ofNat (48+c.toNat / 10 % 10),UInt8.ofNat (48+c.toNat % 10)]:=by unfold escB;rw[if_neg (fun h=>h.elim h46 h92),if_neg h33]
   rw[he];by_cases h33':33<=c.toNat
   ·refine brT (pn (by omega)) ?_;conv=>whnf
    refine brF (po (by omega)) ?_;conv=>whnf
    repeat(first|(refine brF rfl ?_;conv=>whnf)|(refine brT rfl ?_;conv=>whnf))
    refine .rel _ (COk.thing Bst.fl (ym (x :: s) 92 (by simp at hs ⊢;omega)) [] [] _ rfl rfl) (fun y ks' hR=>?_);obtain⟨_,_,⟨rfl,rfl⟩,rfl,rfl⟩:=hR;conv=>whnf
    refine⟨by decide,?_⟩;conv=>whnf
    rw[d1];refine .rel _ (COk.thing Bst.fl (ym ((x :: s)++[92]) (UInt8.ofNat (48+c.toNat / 100)) (by simp at hs ⊢;omega)) [] [] _ rfl rfl) (fun y ks' hR=>?_);obtain⟨_,_,⟨rfl,rfl⟩,rfl,rfl⟩:=hR;conv=>whnf
    refine⟨by decide,?_⟩;conv=>whnf
    refine⟨by decide,?_⟩;conv=>whnf
    rw[d2];refine .rel _ (COk.thing Bst.fl (ym ((x :: s)++[92]++[(UInt8.ofNat (48+c.toNat / 100))]) (UInt8.ofNat (48+c.toNat / 10 % 10)) (by simp at hs ⊢;omega)) [] [] _ rfl rfl) (fun y ks' hR=>?_);obtain⟨_,_,⟨rfl,rfl⟩,rfl,rfl⟩:=hR;conv=>whnf
    refine⟨by decide,?_⟩;conv=>whnf
    rw[d3];refine .rel _ (COk.thing Bst.fl (ym ((x :: s)++[92]++[(UInt8.ofNat (48+c.toNat / 100))]++[(UInt8.ofNat (48+c.toNat / 10 % 10))]) (UInt8.ofNat (48+c.toNat % 10)) (by simp at hs ⊢;omega)) [] [] _ rfl rfl) (fun y ks' hR=>?_);obtain⟨_,_,⟨rfl,rfl⟩,rfl,rfl⟩:=hR;conv=>whnf
    refine⟨[0],.tup [],[pk (Bst.fl (.live ((x :: s)++[92]++[(UInt8.ofNat (48+c.toNat / 100))]++[(UInt8.ofNat (48+c.toNat / 10 % 10))]++[(UInt8.ofNat (48+c.toNat % 10))])))],rfl,rfl,?_,?_,rfl,?_⟩
    ·(conv=>whnf);exact rZ6
    ·exact rZ11
    ·rw[qn4 (by simp)];try simp only[gw,m9,gz]
   ·refine brF (po (by omega)) ?_;conv=>whnf
    repeat(first|(refine brF rfl ?_;conv=>whnf)|(refine brT rfl ?_;conv=>whnf))
    refine .rel _ (COk.thing Bst.fl (ym (x :: s) 92 (by simp at hs ⊢;omega)) [] [] _ rfl rfl) (fun y ks' hR=>?_);obtain⟨_,_,⟨rfl,rfl⟩,rfl,rfl⟩:=hR;conv=>whnf
    refine⟨by decide,?_⟩;conv=>whnf
    rw[d1];refine .rel _ (COk.thing Bst.fl (ym ((x :: s)++[92]) (UInt8.ofNat (48+c.toNat / 100)) (by simp at hs ⊢;omega)) [] [] _ rfl rfl) (fun y ks' hR=>?_);obtain⟨_,_,⟨rfl,rfl⟩,rfl,rfl⟩:=hR;conv=>whnf
    refine⟨by decide,?_⟩;conv=>whnf
    refine⟨by decide,?_⟩;conv=>whnf
    rw[d2];refine .rel _ (COk.thing Bst.fl (ym ((x :: s)++[92]++[(UInt8.ofNat (48+c.toNat / 100))]) (UInt8.ofNat (48+c.toNat / 10 % 10)) (by simp at hs ⊢;omega)) [] [] _ rfl rfl) (fun y ks' hR=>?_);obtain⟨_,_,⟨rfl,rfl⟩,rfl,rfl⟩:=hR;conv=>whnf
    refine⟨by decide,?_⟩;conv=>whnf
    rw[d3];refine .rel _ (COk.thing Bst.fl (ym ((x :: s)++[92]++[(UInt8.ofNat (48+c.toNat / 100))]++[(UInt8.ofNat (48+c.toNat / 10 % 10))]) (UInt8.ofNat (48+c.toNat % 10)) (by simp at hs ⊢;omega)) [] [] _ rfl rfl) (fun y ks' hR=>?_);obtain⟨_,_,⟨rfl,rfl⟩,rfl,rfl⟩:=hR;conv=>whnf
    refine⟨[0],.tup [],[pk (Bst.fl (.live ((x :: s)++[92]++[(UInt8.ofNat (48+c.toNat / 100))]++[(UInt8.ofNat (48+c.toNat / 10 % 10))]++[(UInt8.ofNat (48+c.toNat % 10))])))],rfl,rfl,?_,?_,rfl,?_⟩
    ·(conv=>whnf);exact rZ6
    ·exact rZ11
    ·rw[qn4 (by simp)];try simp only[gw,m9,gz]
theorem jf5(σ:Nat->Nat)(s:List UInt8):mapB σ [bK s]=[bK s]:=by cases s <;> rfl
theorem xl2(s:List UInt8)(c:UInt8)(rest:List KB)(hs:s.length+4<=70368744177664):COk Tryz.prog 81 [.ptr 0 0,.d (.int .u8 (c.toNat:Int))] (bK s :: rest) (fun r k=>r = .tup []/\k=bK (s++escB c) :: rest):=by
 have h:=(xl1 s c hs).among [] rest (fun r k h=>by rw[h.2];exact pr _) rfl;rw [jf5] at h;refine h.imp fun r k ⟨s0,k1,⟨h1,h2⟩,h3,h4⟩=>?_
 subst h1 h2;refine⟨h3,?_⟩;rw[h4];show[]++(mapB _ [bK (s++escB c)]++(rest++mapB _ []))=_;rw[jf5];show _ :: (rest++[])=_;rw[m6]
theorem xu0(s:List UInt8)(c:UInt8)(rest:List KB)(hs:s.length+1<=70368744177664):COk Tryz.prog 21 [.ptr 0 0,.d (.int .u8 (c.toNat:Int))] (bK s :: rest) (fun r k=>r = .v .nilIface/\k=bK (s++[c]) :: rest):=by
 have h:=(wbK s c hs).among [] rest (fun r k h=>by rw[h.2];exact pr _) rfl;rw [jf5] at h;refine h.imp fun r k ⟨s0,k1,⟨h1,h2⟩,h3,h4⟩=>?_
 subst h1 h2;refine⟨h3,?_⟩;rw[h4];show[]++(mapB _ [bK (s++[c])]++(rest++mapB _ []))=_;rw[jf5];show _ :: (rest++[])=_;rw[m6]
theorem ya2:∀ a b:List UInt8,escL (a++b)=escL a++escL b
 |[],b=>rfl
 |c :: a,b=>by simp only[gw,escL,ya2 a b,m9]
theorem zz4{l:List UInt8}{k:Nat}{c:UInt8}(h:l[k]? = some c):escL (l.take (k+1))=escL (l.take k)++escB c:=by
 rw[mp,h,ya2];simp[escL]
theorem jx6:∀ a b:List (List UInt8),txtL (a++b)=txtL a++txtL b
 |[],b=>rfl
 |c :: a,b=>by simp only[gw,txtL,jx6 a b,m9]
theorem zt2{l:List (List UInt8)}{k:Nat}{c:List UInt8}(h:l[k]? = some c):txtL (l.take (k+1))=txtL (l.take k)++escL c++[46]:=by
 rw[mp,h,jx6];simp[txtL]
def qo0(n:List UInt8):List UInt8 × Int:=if qb n then (txtN n,0) else ([],2)
theorem rZ12{p:Prop}(h:p:=by repeat'(first|exact ⟨⟩|exact rfl|exact jd _|exact .inr rfl|exact(fun _ _ _ _ h=>⟨y7 _,h⟩)|exact fun _=>Iff.rfl|exact fun _ _=>rfl|exact noI|apply And.intro)):p:=h
theorem yo3(n:List UInt8):FnOk Tryz.prog 48 [.d (.str n)] (.tup [.d (.str (qo0 n).1),.d (.int .i64 (qo0 n).2)]):=by
 refine qu (TT:=TT) (IN:=qe [(70,Tryz.f70,1),(106,Tryz.f106,2),(107,Tryz.f107,1),(139,Tryz.f139,2)]) qg (jh (jh (jh (jh qh Tryz.func139 (by kernel_rfl) (by kernel_rfl)) Tryz.func107 (by kernel_rfl) (by kernel_rfl)) Tryz.func106 (by kernel_rfl) (by kernel_rfl)) Tryz.func70 (by kernel_rfl) (by kernel_rfl)) mixed 1000 Tryz.func48 rfl (qd Tryz.func48 (by kernel_rfl) rfl) rfl 26 (by kernel_rfl) ?_;conv=>whnf
 refine oD (yq n) rfl rfl ?_;by_cases hn:qb n;case neg =>
  rw[if_neg hn,show qo0 n=([],2) from if_neg hn];conv=>whnf
  refine brT rfl ?_;conv=>whnf
  exact rZ6
 rw[if_pos hn,show qo0 n=(txtN n,0) from if_pos hn];conv=>whnf
 refine brF rfl ?_;conv=>whnf
 refine⟨fun hz=>?_,fun hz=>?_⟩
 ·have hz:n=[0]:=by simpa using hz
  subst hz;conv=>whnf
  exact rZ6
 have hz:n≠[0]:=by simpa using hz
 rw[show txtN n=txtL (labN n) from if_neg hz];conv=>whnf
 refine oD (yq n) rfl rfl ?_;rw[if_pos hn];conv=>whnf
 refine brF rfl ?_;conv=>whnf
 obtain⟨hn1,hn2,hn3⟩:=z7 hn;have hend:∀ i,qj (labN n) i<n.length:=fun i=>by have:=je6 (labN n) i;rw [<-hn3] at this;exact this
 have hbt:∀ i l,(labN n)[i]? = some l->bt n (qj (labN n) i)=l.length:=fun i l h=>by
  have:=jf3 hn2 h;rw [<-hn3] at this;exact this
 have hbe:bt n (qj (labN n) (labN n).length)=0:=by
  have:=jf4 (labN n);rw [<-hn3] at this;exact this
 have hll:=jq3 (labN n);rw [<-hn3] at hll;have hlab:∀ i l,(labN n)[i]? = some l->(n.drop (qj (labN n) i+1)).take l.length=l:=fun i l h=>by
  have:=yp9 h;rw [<-hn3] at this;exact this
 have htl:=ql6 (labN n) hn2;rw [<-hn3] at htl;generalize labN n=ls at hn2 hn3 hend hbt hbe hll hlab htl;refine .inv Nat (fun i=>i<=ls.length) (fun i=>[(3,iV (qj ls i))]) (fun i=>[(0,bK (txtL (ls.take i))),(4,.cells 3 [iV (qj ls i)])]) (fun i=>ls.length - i) ⟨0,[0,1,2,3,4,5,6],pz _,?_⟩ ?_
 ·conv=>whnf
  exact rZ2
 intro i hi;have hsl:(txtL (ls.take i)).length<=1020:=by
  have h1:=ql6 (ls.take i) (fun l h=>hn2 l (gt h));have h2:(mk (ls.take i)).length=qj ls i+1:=by rw[<-qu3,py];rfl
  have:=hend i;omega
 show qb9 _ _ _ _ [(0,bK (txtL (ls.take i))),(4,.cells 3 [iV (qj ls i)])] _;obtain⟨s,hs⟩:∃ s,s=txtL (ls.take i):=⟨_,rfl⟩;rw [<-hs] at hsl ⊢;have e0:∀ (t l:List UInt8),t++escL (l.take 0)=t:=fun t l=>by simp[escL]
 obtain⟨S,hS⟩:∃ S,S=s:=⟨_,rfl⟩;have hSl:S.length<=1020:=by rw[hS];exact hsl
 have hSt:S=txtL (ls.take i):=by rw[hS,hs]
 clear hs hsl;cases s;all_goals
  have hp:=hend i;conv=>whnf
  refine brT (pn (by omega)) ?_;conv=>whnf
  refine⟨by omega,?_⟩;conv=>whnf
  rw[yo,qa (bt n (qj ls i):Int) (by have:=qc2 n (qj ls i);omega)];rcases oo i ls.length with hlt|hge
  ·have hli:ls[i]? = some ls[i]:=pp hlt;have hb:=hbt i _ hli;have hok:=hn2 _ (d5 hlt);have hps:=qq9 hli;have hp2:=hend (i+1);rw[hb];generalize ls[i]=l at hli hb hok hps;obtain⟨ho1,ho2⟩:=hok;refine brF (by rw[mq];omega) ?_;conv=>whnf
   refine brF (po (by omega)) ?_;conv=>whnf
   have e1:IntKind.i64.wrap ((n.length:Int) - (qj ls i:Int))=((n.length - qj ls i:Nat):Int):=by rw[qa _ (by omega)];omega
   rw[e1];refine brF (po (by omega)) ?_;conv=>whnf
   have e2:IntKind.i64.wrap ((qj ls i:Int)+IntKind.i64.wrap (1+(l.length:Int)))=((qj ls (i+1):Nat):Int):=by rw[qa (1+(l.length:Int)) (by omega),qa _ (by omega)];omega
   rw[e2];have e3:IntKind.i64.wrap ((qj ls i:Int)+1)=((qj ls i+1:Nat):Int):=by rw[qa _ (by omega)];omega
   rw[e3];refine⟨by omega,?_⟩;conv=>whnf
   have hsub:sub n ((qj ls i+1:Nat):Int) ((qj ls (i+1):Nat):Int)=l:=by
    unfold sub;rw[px,px];rw[show qj ls (i+1) - (qj ls i+1)=l.length by omega];exact hlab i l hli
   rw[hsub];refine .inv Nat (fun k=>k<=l.length) (fun k=>[(17,iV k)]) (fun k=>[(0,bK (S++escL (l.take k)))]) (fun k=>l.length - k) ⟨0,[0,1,2,3,4,5,6],pz _,?_⟩ ?_
   ·conv=>whnf
    rw[e0,hS];exact rZ12
   intro k hk;have hel:=qt0 (l.take k);rw [lu] at hel;show qb9 _ _ _ _ [(0,bK (S++escL (l.take k)))] _;obtain⟨T,hT⟩:∃ T,T=S++escL (l.take k):=⟨_,rfl⟩;have hTl:T.length<=1300:=by rw[hT,py];omega
   have ht:∀ c,l[k]? = some c->∀ rest,COk Tryz.prog 81 [.ptr 0 0,.d (.int .u8 (c.toNat:Int))] (bK T :: rest) (fun r q=>r = .tup []/\q=bK (S++escL (l.take (k+1))) :: rest):=fun c hc rest=>by
    have:=xl2 T c rest (by omega);rw [hT] at this;rw[hT,zz4 hc,<-m9];exact this
   have hw:=fun rest=>xu0 T 46 rest (by omega)
   rw[<-hT];cases T;all_goals
    conv=>whnf
    refine⟨fun c1=>?_,fun c1=>?_⟩
    ·have c1:k<l.length:=by
      have h:(k:Int)<l.length:=pu c1;omega
     have hlk:l[k]? = some l[k]:=pp c1;conv=>whnf
     refine⟨by omega,?_⟩;conv=>whnf
     rw[show jc l (k:Int)=((l[k].toNat:Nat):Int) by rw[yo];unfold bt;rw[hlk];rfl];refine .rel _ (ht l[k] hlk _) (fun x ks' hR=>?_);obtain⟨rfl,rfl⟩:=hR;obtain⟨c2,t2,h2⟩:∃ c2 t2,S++escL (l.take (k+1))=c2 :: t2:=by
      have h1:=qt0 (l.take (k+1));rw [lu] at h1;cases h3:S++escL (l.take (k+1)) with
      |nil=>have:=congrArg List.length h3;rw [py,gv] at this;omega
      |cons c t=>exact⟨c,t,rfl⟩
     rw[h2];conv=>whnf
     have hw1:=w64s k (by omega);rw[hw1];refine⟨k+1,[0,1,2,3,4,5,6],c1,by show l.length - (k+1)<l.length - k;omega,?_⟩;conv=>whnf
     rw[h2];exact rZ12
    ·have c1:k=l.length:=by
      have h:¬ (k:Int)<l.length:=pw c1;omega
     subst c1;rw [mr] at hT;conv=>whnf
     refine .rel _ (hw _) (fun x ks' hR=>?_);obtain⟨rfl,rfl⟩:=hR;have hnx:=zt2 hli;rw [<-hSt,<-hT] at hnx;conv=>whnf
     refine⟨i+1,[0,1,2,3,4,5,6],hlt,by show ls.length - (i+1)<ls.length - i;omega,?_⟩;conv=>whnf
     rw[hnx];exact rZ12
  ·have hil:i=ls.length:=by omega
   subst hil;rw[hbe];conv=>whnf
   refine brT rfl ?_;conv=>whnf
   rw [mr] at hSt;have hne:S≠[]:=fun e=>by
    rw [hSt] at e;cases ls with
    |nil=>exact hz hn3
    |cons a b=>simp [txtL] at e
   first
    |exact absurd hS hne
    |(
     rw [hS] at hSl;refine .rel _ (COk.thing Bst.fl (ju1 _ (l9 hSl (by decide))) [] _ _ rfl rfl) (fun y ks' hR=>?_);obtain⟨_,_,⟨rfl,rfl⟩,rfl,rfl⟩:=hR;conv=>whnf
     rw[<-hSt,hS];repeat'(first|exact ⟨⟩|exact rfl|exact fun _=>Iff.rfl|exact fun _ _=>rfl|exact renM_ent rfl _|apply And.intro))
def RR.lineV(r:RR):List UInt8 × Int:=if r.check then (r.line,0) else ([],2)
theorem qe6(n:Nat)(h:n<10000000000):(Lib.decDigits n).length<=10:=by
 have hs:∀ k,n<10 ^ (k+1)->(Lib.decDigits n).length<=k+1:=by
  intro k;induction k generalizing n with
  |zero=>intro h;rw[Lib.decDigits,dif_pos (by omega)];simp
  |succ k ih =>
   intro hk;rw[Lib.decDigits];split
   ·simp
   ·rw[py];have:=ih (n / 10) (by omega) (by rw [Nat.pow_succ] at hk;omega);simp only[ou,gv];omega
 exact hs 9 h
theorem ja9{n:List UInt8}(h:qb n):(txtN n).length<=1020:=by
 obtain⟨h1,h2,h3⟩:=z7 h;unfold txtN;split
 ·simp
 ·have:=ql6 (labN n) h2;rw [<-h3] at this;omega
theorem xh5(s:List UInt8):(hexT s).length<=2 * s.length+1:=by
 unfold hexT;split
 ·simp
 ·have:=jb7 s;omega
theorem ja7{r:RR}(h:r.check=true):r.d.length<=4096:=by
 unfold RR.check kf at h;simp only [p8,lx] at h;exact h.1.2.1
theorem qs6{r:RR}(hck:r.check=true)(h:r.In):r.line.length<=9300:=by
 have h0:=ja9 (qr3 hck);have h1:=qe6 r.ttl.toNat (by have:=h.ttl;omega);have h2:=qe6 r.cl.toNat (by have:=h.cl;omega);have h3:=qe6 r.ty.toNat (by have:=h.ty;omega);have h4:=xh5 r.d;have h5:=ja7 hck;unfold RR.line;simp only[py,ou];omega
theorem yv0(r:RR)(h:r.In):FnOk Tryz.prog 49 [r.V] (.tup [.d (.str r.lineV.1),.d (.int .i64 r.lineV.2)]):=by
 refine qu (TT:=TT) (IN:=qe []) qg qh mixed 1000 Tryz.func49 rfl (qd Tryz.func49 (by kernel_rfl) rfl) rfl 36 (by kernel_rfl) ?_;conv=>whnf
 refine oD (ji9 r) rfl rfl ?_;cases hck:r.check with
 |false =>
  rw[show r.lineV=([],2) by unfold RR.lineV;rw[hck];rfl];conv=>whnf
  repeat(first|(refine brF rfl ?_;conv=>whnf)|(refine brT rfl ?_;conv=>whnf))
  exact rZ6
 |true =>
  rw[show r.lineV=(r.line,0) by unfold RR.lineV;rw[hck];rfl];conv=>whnf
  repeat(first|(refine brF rfl ?_;conv=>whnf)|(refine brT rfl ?_;conv=>whnf))
  refine oD (yo3 r.nm) rfl rfl ?_;rw[show qo0 r.nm=(txtN r.nm,0) from if_pos (qr3 hck)];conv=>whnf
  repeat(first|(refine brF rfl ?_;conv=>whnf)|(refine brT rfl ?_;conv=>whnf))
  have h1:=h.ty;have h2:=h.cl;have h3:=h.ttl;have e1:IntKind.u64.wrap r.ttl=((r.ttl.toNat:Nat):Int):=by rw[IntKind.wrap_u64];omega
  have e2:IntKind.u64.wrap r.cl=((r.cl.toNat:Nat):Int):=by rw[IntKind.wrap_u64];omega
  have e3:IntKind.u64.wrap r.ty=((r.ty.toNat:Nat):Int):=by rw[IntKind.wrap_u64];omega
  have hd:=ja7 hck;rw[e1];refine .data _ (jq9 r.ttl.toNat (by omega)) rfl rfl ?_;conv=>whnf
  rw[e2];refine .data _ (jq9 r.cl.toNat (by omega)) rfl rfl ?_;conv=>whnf
  rw[e3];refine .data _ (jq9 r.ty.toNat (by omega)) rfl rfl ?_;conv=>whnf
  refine .data _ (xt1 r.d (by omega)) rfl rfl ?_;conv=>whnf
  have hj:Lib.join [txtN r.nm,Lib.decDigits r.ttl.toNat,Lib.decDigits r.cl.toNat,Lib.decDigits r.ty.toNat,hexT r.d] [32]=r.line:=by
   unfold RR.line Lib.join;simp[List.intercalate]
  have hll:=qs6 hck h;refine .one (.look (r:=.d (.str r.line)) ?_ rfl ?_)
  ·conv=>whnf
   have:=yv4 false [txtN r.nm,Lib.decDigits r.ttl.toNat,Lib.decDigits r.cl.toNat,Lib.decDigits r.ty.toNat,hexT r.d] [32] (by show 5<=_;omega) (by rw[hj];omega);rw [hj] at this;exact⟨this.conv ⟨DS.rows fun i hi=>(match i,hi with
    |0,_=>DSL.refl _
    |1,_=>DSL.refl _
    |2,_=>DSL.refl _
    |3,_=>DSL.refl _
    |4,_=>DSL.refl _),DS.refl _,trivial⟩,rfl⟩
  conv=>whnf
  exact rZ6
def padL(N:Nat)(l:List (List UInt8)):List (List UInt8):=l++List.replicate (N - l.length) []
theorem jn7(N:Nat)(l:List (List UInt8))(x:List UInt8)(h:l.length<N)(j:Nat):oneF l.length 0 [.str x] (strs (padL N l)) j=strs (padL N (l++[x])) j:=by
 unfold oneF strs padL;by_cases e:j=l.length
 ·subst e;simp[putD]
 ·rw[if_neg e];congr 2;by_cases h1:j<l.length
  ·rw[ot h1,ot (by simp;omega),ot h1]
  ·rw[o5 (by omega),o5 (by simp;omega),List.getElem?_replicate,List.getElem?_replicate];simp only[py,ou,gv];split <;> split <;> first|rfl|omega
theorem yy9(c:UInt8):∀ s:List UInt8,Lib.indexByte s c<s.length/\-1<=Lib.indexByte s c
 |[]=>by simp[Lib.indexByte]
 |b :: s=>by
  have ih:=yy9 c s;simp only[Lib.indexByte,ou];split
  ·omega
  ·split <;> omega
structure SnSt where
 d:List (List UInt8)
 r:List UInt8
theorem zt9(s:List UInt8)(hs:s.length<=1000000):FnOk Tryz.prog 135 [.d (.str s),.d (.str [32]),.d (.int .i64 6)] (.d (.sl false (cutN 5 s).length 1 (strs (cutN 5 s)))):=by
 refine qu (TT:=TT) (IN:=qe [(169,Tryz.f169,4)]) qg (jh qh Tryz.func169 (by kernel_rfl) (by kernel_rfl)) mixed 1000 Tryz.func135 rfl (qd Tryz.func135 (by kernel_rfl) rfl) rfl 8 (by kernel_rfl) ?_;conv=>whnf
 repeat(first|(refine brF rfl ?_;conv=>whnf)|(refine brT rfl ?_;conv=>whnf))
 obtain⟨N,hN,hN1,hN2,hN3⟩:∃ N:Nat,(if IntKind.i64.wrap ((s.length:Int)+1)<6 then IntKind.i64.wrap ((s.length:Int)+1) else 6)=(N:Int)/\1<=N/\N<=6/\(N=6\/N=s.length+1):=by
  rw[qa ((s.length:Int)+1) (by omega)];by_cases h:s.length+1<6
  ·exact⟨s.length+1,by rw[if_pos (by omega)];omega,by omega,by omega,.inr rfl⟩
  ·exact⟨6,by rw[if_neg (by omega)];rfl,by omega,by omega,.inl rfl⟩
 rw[hN];refine⟨by omega,?_⟩;conv=>whnf
 have hN4:IntKind.i64.wrap ((N:Int) - 1)=((N - 1:Nat):Int):=by rw[qa _ (by omega)];omega
 rw[hN4];have hp0:∀ j,strs (padL N []) j=[.str []]:=fun j=>by
  unfold strs padL;simp only[gz,gv,ru,List.getElem?_replicate];split <;> rfl
 refine .inv SnSt (fun x=>x.d.length+x.r.length<=s.length/\x.d.length+1<=N/\x.d++cutN (5 - x.d.length) x.r=cutN 5 s) (fun x=>[(0,.d (.str x.r)),(10,iV x.d.length)]) (fun x=>[(0,.row 9 1 N .no (strs (padL N x.d)))]) (fun x=>x.r.length) ⟨⟨[],s⟩,[0],⟨by show 0+s.length<=_;omega,hN1,rfl⟩,?_⟩ ?_
 ·conv=>whnf
  repeat'(first|exact ⟨⟩|exact rfl|exact jd _|exact .inr rfl|exact fun _ _=>rfl|exact noI|apply And.intro)
  exact fun i _=>(hp0 i).symm
 intro x hx;obtain⟨hk,hm,hrest⟩:=hx;conv=>whnf
 generalize x.d=d at hk hm hrest ⊢;generalize x.r=r at hk hrest ⊢;generalize cutN 5 s=Y at hrest ⊢;have hd1:IntKind.i64.wrap ((d.length:Int)+1)=((d.length+1:Nat):Int):=by rw[qa _ (by omega)];omega
 refine⟨fun c0=>?_,fun c0=>?_⟩
 ·have c0':d.length<N - 1:=(by have h:(d.length:Int)<((N - 1:Nat):Int):=pu c0;omega);obtain⟨k,hk5⟩:∃ k,5 - d.length=k+1:=⟨4 - d.length,by omega⟩;conv=>whnf
  refine oD (xg9 r 32) rfl rfl ?_;conv=>whnf
  obtain⟨i1,i2⟩:=yy9 32 r;rw [hk5] at hrest;simp only [cutN] at hrest;generalize Lib.indexByte r 32=m at hrest i1 i2 ⊢;by_cases hm0:m<0
  ·rw [if_pos hm0] at hrest;refine brT (pn hm0) ?_;conv=>whnf
   have hlast:[r]=[r]:=rfl;have hu:Y=d++[r]:=by rw[<-hrest,hlast]
   refine⟨by omega,?_⟩;conv=>whnf
   rw[hd1];refine⟨by omega,?_⟩;conv=>whnf
   refine⟨by show 0+(((d.length+1:Nat):Int) - 0).toNat<=N;omega,rfl,by rw[hu,py];show(((d.length+1:Nat):Int) - 0).toNat=d.length+1;omega,.inr rfl,fun j hj=>?_⟩;have hj:j<(((d.length+1:Nat):Int) - 0).toNat:=hj;show oneF (d.length:Int).toNat 0 [DV.str r] (strs (padL N d)) (0+j)=strs Y j;rw[px,jn7 N d r (by omega),hu,ox];unfold strs padL;rw[ot (by simp;omega)]
  ·rw [if_neg hm0] at hrest;obtain⟨m,rfl⟩:∃ n:Nat,m=n:=⟨m.toNat,by omega⟩;rw [px] at hrest;refine brF (po hm0) ?_;conv=>whnf
   rw[show IntKind.i64.wrap ((m:Int)+0)=(m:Int) by rw[qa _ (by omega)];omega];refine⟨by omega,?_⟩;conv=>whnf
   refine⟨by omega,?_⟩;conv=>whnf
   rw[show IntKind.i64.wrap ((m:Int)+(([32]:List UInt8).length:Int))=((m+1:Nat):Int) by show IntKind.i64.wrap ((m:Int)+1)=_;rw[qa _ (by omega)];omega];refine⟨by omega,?_⟩;conv=>whnf
   rw[hd1,qi1,show sub r 0 (m:Int)=r.take m by unfold sub;simp];refine⟨⟨d++[r.take m],r.drop (m+1)⟩,[0],⟨by show(d++[_]).length+(r.drop (m+1)).length<=_;rw[py,o7];show d.length+1+_<=_;omega,by show(d++[_]).length+1<=N;rw[py];show d.length+1+1<=N;omega,?_⟩,by show(r.drop (m+1)).length<r.length;rw[o7];omega,?_⟩
   ·rw[<-hrest];show(d++[r.take m])++cutN (5 - (d++[r.take m]).length) (r.drop (m+1))=_;rw[py,show 5 - (d.length+[r.take m].length)=k by show 5 - (d.length+1)=k;omega,m9]
    rfl
   conv=>whnf
   repeat'(first|exact ⟨⟩|exact rfl|exact jd _|exact .inr rfl|exact fun _ _=>rfl|exact noI|apply And.intro)
   all_goals first
    |exact congrArg (fun n:Nat=>SV.d (DV.int IntKind.i64 (n:Int))) (show d.length+1=(d++[r.take m]).length by simp)
    |(
     intro i _;rw[px];exact jn7 N d _ (by omega) i)
 ·have c0':d.length=N - 1:=(by have h:¬ (d.length:Int)<((N - 1:Nat):Int):=pw c0;omega);have hlast:cutN (5 - d.length) r=[r]:=by
   rcases hN3 with h|h
   ·rw[show 5 - d.length=0 by omega];rfl
   ·have:r=[]:=sx.1 (by omega);subst this;exact yl7 _ _ (fun b hb=>by cases hb)
  conv=>whnf
  have hu:Y=d++[r]:=by rw[<-hrest,hlast]
  refine⟨by omega,?_⟩;conv=>whnf
  rw[hd1];refine⟨by omega,?_⟩;conv=>whnf
  refine⟨by show 0+(((d.length+1:Nat):Int) - 0).toNat<=N;omega,rfl,by rw[hu,py];show(((d.length+1:Nat):Int) - 0).toNat=d.length+1;omega,.inr rfl,fun j hj=>?_⟩;have hj:j<(((d.length+1:Nat):Int) - 0).toNat:=hj;show oneF (d.length:Int).toNat 0 [DV.str r] (strs (padL N d)) (0+j)=strs Y j;rw[px,jn7 N d r (by omega),hu,ox];unfold strs padL;rw[ot (by simp;omega)]
theorem qo3{w:World}{fp:Nat->Nat->Prop}(h:VOk w fp)(g:Nat)(hg:g=2\/g=3):∃ t x,w.cell? ⟨g,0,none⟩=some (.iface t x):=by
 have hin:(g,jt5) ∈ evs:=by
  rcases hg with rfl|rfl
  ·exact .head _
  ·exact .tail _ (.head _)
 obtain⟨⟨vs,t,fz,e,t',x,rfl⟩,_⟩:=h _ hin;refine⟨t',x,?_⟩;simp at e;simp[World.cell?,e]
theorem yf0(w:World)(s:List UInt8):Step (fun _=>False) w (Lib.bytesWorld w 5 ⟨s.toArray⟩):=by
 exact⟨rfl,rfl,rfl,by rw[Lib.bytesWorld_size];omega,fun b hb _=>Lib.bytesWorld_at_old w _ _ b hb,fun h=>(show False from h).elim⟩
def qj5(B:Nat)(s:List UInt8):Nat:=match Lib.parseUintB B s with
 | .ok u=>u
 | .range=>2 ^ B - 1
 |_=>0
theorem ja8{B:Nat}{s:List UInt8}{u:Nat}(h:yd B s=some u):qj5 B s=u:=by
 unfold yd at h;unfold qj5;split at h
 ·cases h;rename_i h1;rw[h1]
 ·cases h
theorem yc9(s:List UInt8)(hs:s.length<=1000000):FnOk Tryz.prog 99 [.d (.str s),.d (.int .i64 10),.d (.int .i64 16)] (.tup [.d (.int .u64 (qj5 16 s:Nat)),.err (yd 16 s).isNone]):=by
 refine⟨qd Tryz.func99 (by kernel_rfl) rfl,fun M w vs hV hM hl hd=>?_⟩
 match vs,hl with
 |[v0,v1,v2],_ =>
  have h0:=yk (hd 0 _ v0 rfl rfl);have h1:=ja (hd 1 _ v1 rfl rfl);have h2:=ja (hd 2 _ v2 rfl rfl);subst h0 h1 h2;have hsz:(⟨s.toArray⟩:ByteArray).size=s.length:=rfl;unfold yd qj5;cases hp:Lib.parseUintB 16 s
  ·rename_i u;refine(Try.strconv_ParseUint_10_at16_ok ⟨s.toArray⟩ (by rw[hsz];omega) u hp w).mono ?_
   rintro e w' ⟨rfl,hw⟩
   refine⟨_,rfl,?_,.tup _ [.int .u64 u,.nilIface] rfl (fun j t v ht hv=>?_)⟩
   ·rcases hw with rfl|rfl
    ·exact Step.refl _ _
    ·exact yf0 w s
   ·match j with
    |0=>cases ht;cases hv;exact .d (.int _ _)
    |1=>cases ht;cases hv;exact .err _ _ (fun h=>by cases h) (fun _=>rfl)
  ·obtain⟨t,x,hc⟩:=qo3 hV 2 (.inl rfl);refine(Try.strconv_ParseUint_10_at16_syntax ⟨s.toArray⟩ (by rw[hsz];omega) hp _ w hc (.inr ⟨t,x,rfl⟩)).mono ?_
   rintro e w' ⟨N,rfl,_,_,hb⟩
   refine⟨_,rfl,Step.of_below _ hb,.tup _ [.int .u64 0,.iface _ _] rfl (fun j t v ht hv=>?_)⟩
   match j with
   |0=>cases ht;cases hv;exact .d (.int _ _)
   |1=>cases ht;cases hv;exact .err _ _ (fun _=>⟨_,_,rfl⟩) (fun h=>by cases h)
  ·obtain⟨t,x,hc⟩:=qo3 hV 3 (.inr rfl);refine(Try.strconv_ParseUint_10_at16_range ⟨s.toArray⟩ (by rw[hsz];omega) hp _ w hc (.inr ⟨t,x,rfl⟩)).mono ?_
   rintro e w' ⟨N,rfl,_,_,hb⟩
   refine⟨_,rfl,Step.of_below _ hb,.tup _ [.int .u64 _,.iface _ _] rfl (fun j t v ht hv=>?_)⟩
   match j with
   |0=>cases ht;cases hv;exact .d (.int _ _)
   |1=>cases ht;cases hv;exact .err _ _ (fun _=>⟨_,_,rfl⟩) (fun h=>by cases h)
theorem yc8(s:List UInt8)(hs:s.length<=1000000):FnOk Tryz.prog 99 [.d (.str s),.d (.int .i64 10),.d (.int .i64 32)] (.tup [.d (.int .u64 (qj5 32 s:Nat)),.err (yd 32 s).isNone]):=by
 refine⟨qd Tryz.func99 (by kernel_rfl) rfl,fun M w vs hV hM hl hd=>?_⟩
 match vs,hl with
 |[v0,v1,v2],_ =>
  have h0:=yk (hd 0 _ v0 rfl rfl);have h1:=ja (hd 1 _ v1 rfl rfl);have h2:=ja (hd 2 _ v2 rfl rfl);subst h0 h1 h2;have hsz:(⟨s.toArray⟩:ByteArray).size=s.length:=rfl;unfold yd qj5;cases hp:Lib.parseUintB 32 s
  ·rename_i u;refine(Try.strconv_ParseUint_10_at32_ok ⟨s.toArray⟩ (by rw[hsz];omega) u hp w).mono ?_
   rintro e w' ⟨rfl,hw⟩
   refine⟨_,rfl,?_,.tup _ [.int .u64 u,.nilIface] rfl (fun j t v ht hv=>?_)⟩
   ·rcases hw with rfl|rfl
    ·exact Step.refl _ _
    ·exact yf0 w s
   ·match j with
    |0=>cases ht;cases hv;exact .d (.int _ _)
    |1=>cases ht;cases hv;exact .err _ _ (fun h=>by cases h) (fun _=>rfl)
  ·obtain⟨t,x,hc⟩:=qo3 hV 2 (.inl rfl);refine(Try.strconv_ParseUint_10_at32_syntax ⟨s.toArray⟩ (by rw[hsz];omega) hp _ w hc (.inr ⟨t,x,rfl⟩)).mono ?_
   rintro e w' ⟨N,rfl,_,_,hb⟩
   refine⟨_,rfl,Step.of_below _ hb,.tup _ [.int .u64 0,.iface _ _] rfl (fun j t v ht hv=>?_)⟩
   match j with
   |0=>cases ht;cases hv;exact .d (.int _ _)
   |1=>cases ht;cases hv;exact .err _ _ (fun _=>⟨_,_,rfl⟩) (fun h=>by cases h)
  ·obtain⟨t,x,hc⟩:=qo3 hV 3 (.inr rfl);refine(Try.strconv_ParseUint_10_at32_range ⟨s.toArray⟩ (by rw[hsz];omega) hp _ w hc (.inr ⟨t,x,rfl⟩)).mono ?_
   rintro e w' ⟨N,rfl,_,_,hb⟩
   refine⟨_,rfl,Step.of_below _ hb,.tup _ [.int .u64 _,.iface _ _] rfl (fun j t v ht hv=>?_)⟩
   match j with
   |0=>cases ht;cases hv;exact .d (.int _ _)
   |1=>cases ht;cases hv;exact .err _ _ (fun _=>⟨_,_,rfl⟩) (fun h=>by cases h)
theorem w8n{n:Nat}(h:n<256):IntKind.u8.wrap (n:Int)=((UInt8.ofNat n).toNat:Int):=by rw[qx8 h,dx];omega
theorem digI(c:UInt8):zm c=true↔48<=(c.toNat:Int)/\(c.toNat:Int)<=57:=by
 unfold zm;rw[lx];omega
theorem dgw(a:Nat)(x:UInt8)(ha:a<=1000)(h1:48<=x.toNat)(h2:x.toNat<=57):IntKind.i64.wrap (IntKind.i64.wrap (10 * (a:Int))+IntKind.i64.wrap (IntKind.u8.wrap ((x.toNat:Int) - 48)))=((10 * a+(x.toNat - 48):Nat):Int):=by
 have e:IntKind.u8.wrap ((x.toNat:Int) - 48)=((x.toNat - 48:Nat):Int):=by rw[dx];omega
 rw[e,qa (10 * (a:Int)) (by omega),qa ((x.toNat - 48:Nat):Int) (by omega),qa _ (by omega)];omega
theorem ym0(s:List UInt8):FnOk Tryz.prog 162 [.d (.str s)] (.tup [.d (.int .u8 ((behB s).1.toNat:Int)),.d (.int .i64 (behB s).2)]):=by
 refine qu (TT:=TT) (IN:=qe []) qg qh mixed 1000 Tryz.func162 rfl (qd Tryz.func162 (by kernel_rfl) rfl) rfl 46 (by kernel_rfl) ?_;cases s with
 |nil =>
  conv=>whnf
  repeat(first|(refine brF rfl ?_;conv=>whnf)|(refine brT rfl ?_;conv=>whnf))
  exact rZ6
 |cons c r =>
  have hc:=c.toNat_lt;conv=>whnf
  refine brF rfl ?_;conv=>whnf
  have hix:(0:Int)<=0/\(0:Int)<((r.length+1:Nat):Int):=by omega
  have hb0:jc (c :: r) 0=(c.toNat:Int):=rfl;refine⟨hix,?_⟩;conv=>whnf
  rw[hb0];by_cases h1:48<=c.toNat
  case neg =>
   have he:behB (c :: r)=(c,1):=by
    have:zm c=false:=by unfold zm;rw[po (by omega)]
    simp[behB,this]
   rw[he];refine brT (pn (by omega)) ?_;conv=>whnf
   repeat(first|(refine brF rfl ?_;conv=>whnf)|(refine brT rfl ?_;conv=>whnf))
   refine⟨hix,?_⟩;conv=>whnf
   exact rZ6
  refine brF (po (by omega)) ?_;conv=>whnf
  refine⟨hix,?_⟩;conv=>whnf
  rw[hb0];by_cases h2:c.toNat<=57
  case neg =>
   have he:behB (c :: r)=(c,1):=by
    have:zm c=false:=by unfold zm;rw[po (by omega)]
    simp[behB,this]
   rw[he];refine brT (pn (by omega)) ?_;conv=>whnf
   repeat(first|(refine brF rfl ?_;conv=>whnf)|(refine brT rfl ?_;conv=>whnf))
   refine⟨hix,?_⟩;conv=>whnf
   exact rZ6
  refine brF (po (by omega)) ?_;conv=>whnf
  repeat(first|(refine brF rfl ?_;conv=>whnf)|(refine brT rfl ?_;conv=>whnf))
  have hd:zm c=true:=(digI c).2 ⟨by omega,by omega⟩;have hcase:r=[]\/(∃ d,r=[d])\/∃ d e q,r=d :: e :: q:=by
   match r with
   |[]=>exact .inl rfl
   |[d]=>exact .inr (.inl ⟨d,rfl⟩)
   |d :: e :: q=>exact .inr (.inr ⟨d,e,q,rfl⟩)
  rcases hcase with rfl|⟨d,rfl⟩|⟨d,e,q,rfl⟩
  ·have he:behB [c]=(0,0):=by simp[behB,hd]
   rw[he];refine brT rfl ?_;conv=>whnf
   exact rZ6
  ·have he:behB [c,d]=(0,0):=by simp[behB,hd]
   rw[he];refine brT rfl ?_;conv=>whnf
   exact rZ6
  have hdd:=d.toNat_lt;have hed:=e.toNat_lt;refine brF (po (by show ¬ ((q.length+1+1+1:Nat):Int)<3;omega)) ?_;conv=>whnf
  have hb1:jc (c :: d :: e :: q) (IntKind.i64.wrap (0+1))=(d.toNat:Int):=rfl;have hb2:jc (c :: d :: e :: q) (IntKind.i64.wrap (IntKind.i64.wrap (0+1)+1))=(e.toNat:Int):=rfl;have hn:∀ x:UInt8,x.toNat<48\/57<x.toNat->zm x=false:=fun x hx=>by unfold zm;rw[po (by omega)]
  refine .once ?_;conv=>whnf
  refine brT rfl ?_;conv=>whnf
  refine⟨by show(0:Int)<=0/\(0:Int)<((q.length+1+1+1:Nat):Int);omega,?_⟩;conv=>whnf
  rw[hb0];refine brF (po (by omega)) ?_;conv=>whnf
  refine⟨by show(0:Int)<=0/\(0:Int)<((q.length+1+1+1:Nat):Int);omega,?_⟩;conv=>whnf
  rw[hb0];refine brF (po (by omega)) ?_;conv=>whnf
  repeat(first|(refine brF rfl ?_;conv=>whnf)|(refine brT rfl ?_;conv=>whnf))
  refine⟨by show(0:Int)<=0/\(0:Int)<((q.length+1+1+1:Nat):Int);omega,?_⟩;conv=>whnf
  rw[hb0,show IntKind.i64.wrap (IntKind.i64.wrap (10 * 0)+IntKind.i64.wrap (IntKind.u8.wrap ((c.toNat:Int) - 48)))=_ from dgw 0 c (by decide) h1 h2];refine .once ?_;conv=>whnf
  refine brT rfl ?_;conv=>whnf
  refine⟨by show(0:Int)<=1/\(1:Int)<((q.length+1+1+1:Nat):Int);omega,?_⟩;conv=>whnf
  rw[hb1];by_cases ld:48<=d.toNat
  case neg =>
   have he:behB (c :: d :: e :: q)=(0,0):=by simp[behB,hd,hn d (by omega)]
   rw[he];refine brT (pn (by omega)) ?_;conv=>whnf
   repeat(first|(refine brF rfl ?_;conv=>whnf)|(refine brT rfl ?_;conv=>whnf))
   exact rZ6
  refine brF (po (by omega)) ?_;conv=>whnf
  refine⟨by show(0:Int)<=1/\(1:Int)<((q.length+1+1+1:Nat):Int);omega,?_⟩;conv=>whnf
  rw[hb1];by_cases ud:d.toNat<=57
  case neg =>
   have he:behB (c :: d :: e :: q)=(0,0):=by simp[behB,hd,hn d (by omega)]
   rw[he];refine brT (pn (by omega)) ?_;conv=>whnf
   repeat(first|(refine brF rfl ?_;conv=>whnf)|(refine brT rfl ?_;conv=>whnf))
   exact rZ6
  refine brF (po (by omega)) ?_;conv=>whnf
  repeat(first|(refine brF rfl ?_;conv=>whnf)|(refine brT rfl ?_;conv=>whnf))
  have hdd1:zm d=true:=(digI d).2 ⟨by omega,by omega⟩;refine⟨by show(0:Int)<=1/\(1:Int)<((q.length+1+1+1:Nat):Int);omega,?_⟩;conv=>whnf
  rw[hb1,dgw (10 * 0+(c.toNat - 48)) d (by omega) ld ud];refine .once ?_;conv=>whnf
  refine brT rfl ?_;conv=>whnf
  refine⟨by show(0:Int)<=2/\(2:Int)<((q.length+1+1+1:Nat):Int);omega,?_⟩;conv=>whnf
  rw[hb2];by_cases le:48<=e.toNat
  case neg =>
   have he:behB (c :: d :: e :: q)=(0,0):=by simp[behB,hd,hdd1,hn e (by omega)]
   rw[he];refine brT (pn (by omega)) ?_;conv=>whnf
   repeat(first|(refine brF rfl ?_;conv=>whnf)|(refine brT rfl ?_;conv=>whnf))
   exact rZ6
  refine brF (po (by omega)) ?_;conv=>whnf
  refine⟨by show(0:Int)<=2/\(2:Int)<((q.length+1+1+1:Nat):Int);omega,?_⟩;conv=>whnf
  rw[hb2];by_cases ue:e.toNat<=57
  case neg =>
   have he:behB (c :: d :: e :: q)=(0,0):=by simp[behB,hd,hdd1,hn e (by omega)]
   rw[he];refine brT (pn (by omega)) ?_;conv=>whnf
   repeat(first|(refine brF rfl ?_;conv=>whnf)|(refine brT rfl ?_;conv=>whnf))
   exact rZ6
  refine brF (po (by omega)) ?_;conv=>whnf
  repeat(first|(refine brF rfl ?_;conv=>whnf)|(refine brT rfl ?_;conv=>whnf))
  have hed1:zm e=true:=(digI e).2 ⟨by omega,by omega⟩;refine⟨by show(0:Int)<=2/\(2:Int)<((q.length+1+1+1:Nat):Int);omega,?_⟩;conv=>whnf
  rw[hb2,dgw (10 * (10 * 0+(c.toNat - 48))+(d.toNat - 48)) e (by omega) le ue];refine .once ?_;conv=>whnf
  refine brF rfl ?_;conv=>whnf
  have hN:10 * (10 * (10 * 0+(c.toNat - 48))+(d.toNat - 48))+(e.toNat - 48)=100 * (c.toNat - 48)+10 * (d.toNat - 48)+(e.toNat - 48):=by omega
  rw[hN];have hbe:behB (c :: d :: e :: q)=if 100 * (c.toNat - 48)+10 * (d.toNat - 48)+(e.toNat - 48)<=255 then (UInt8.ofNat (100 * (c.toNat - 48)+10 * (d.toNat - 48)+(e.toNat - 48)),3) else (0,0):=by simp only[behB,hd,hdd1,hed1,if_true]
  rw[hbe];generalize 100 * (c.toNat - 48)+10 * (d.toNat - 48)+(e.toNat - 48)=N;by_cases hN2:N<=255
  ·rw[if_pos hN2];refine brF (po (by omega)) ?_;conv=>whnf
   rw[w8n (by omega)]
   exact rZ6
  ·rw[if_neg hN2];refine brT (pn (by omega)) ?_;conv=>whnf
   exact rZ6
theorem yx1(r:List UInt8):(behB r).2<=r.length:=by
 match r with
 |[]=>simp[behB]
 |[c]=>simp only[behB];split <;> simp
 |[c,d]=>simp only[behB];split <;> simp
 |c :: d :: e :: q =>
  simp only[behB]
  repeat' split
  all_goals simp
def cutV:Option (List (List UInt8))->SV
 |none=>.tup [.any,.d .ff]
 |some l=>.tup [.d (.sl false l.length 1 (strs l)),.d .tt]
structure CtSt where
 at_:Nat
 l:List UInt8
 ls:List (List UInt8)
 m:Nat
 q:Option (Nat × (Nat->List DV))
def CtSt.v(x:CtSt):SV:=match x.q with
 |none=>.all 1
 |some _=>.row 1 0 0
def CtSt.b(x:CtSt):KB:=match x.q with
 |none=>.row 5 1 x.l.length .may (jw x.l)
 |some p=>.row 5 1 p.1 .may p.2
theorem rZ13{p:Prop}(h:p:=by repeat'(first|exact ⟨⟩|exact rfl|exact jd _|exact .inr rfl|exact fun _ _=>rfl|exact noI|apply And.intro|(show ls.length+1=(ls++[l]).length;simp)|exact wg ls l _ rfl)):p:=h
theorem xn3(s:List UInt8)(hs:s.length<=1000000):FnOk Tryz.prog 131 [.d (.str s)] (cutV (tcut (s.length+1) s [] [])):=by
 refine qu (TT:=TT) (IN:=qe []) qg qh mixed 1000 Tryz.func131 rfl (qd Tryz.func131 (by kernel_rfl) rfl) rfl 68 (by kernel_rfl) ?_;conv=>whnf
 refine .nilT 4 9 1 (strs []) _ _ rfl ?_;refine .nilT 5 5 1 (jw []) _ _ rfl ?_;refine .inv CtSt (fun x=>x.at_<=s.length/\s.length<x.at_+x.m/\x.l.length+x.ls.length<=x.at_/\(x.q.isSome=true->x.l=[])/\tcut x.m (s.drop x.at_) x.l x.ls=tcut (s.length+1) s [] []) (fun x=>[(4,.all 0),(5,x.v),(6,iV x.at_)]) (fun x=>[(0,.row 9 1 x.ls.length .iff (strs x.ls)),(1,x.b)]) (fun x=>s.length - x.at_) ⟨⟨0,[],[],s.length+1,none⟩,[0,1],⟨pz _,by show s.length<0+(s.length+1);omega,pz _,fun h=>(by cases h),rfl⟩,?_⟩ ?_
 ·conv=>whnf
  exact rZ2
 intro x hx;obtain⟨hk,hm,hll,hql,hrest⟩:=hx;show qb9 _ _ _ [(4,.all 0),(5,x.v),(6,iV x.at_)] [(0,.row 9 1 x.ls.length .iff (strs x.ls)),(1,x.b)] _;rcases hxq:x.q with _|⟨qn,qf⟩
 ·rw[show x.v = .all 1 by unfold CtSt.v;rw[hxq],show x.b = .row 5 1 x.l.length .may (jw x.l) by unfold CtSt.b;rw[hxq]];rw [hxq] at hql;conv=>whnf
  generalize x.at_=k at hk hm hll hrest ⊢;generalize x.l=l at hll hrest hql ⊢;generalize x.ls=ls at hll hrest ⊢;generalize x.m=m at hm hrest ⊢;obtain⟨m',rfl⟩:∃ m',m=m'+1:=⟨m - 1,by omega⟩;refine⟨fun c0=>?_,fun c0=>?_⟩
  ·have c0':k<s.length:=(by have h:(k:Int)<s.length:=pu c0;omega);have hsk:s[k]? = some s[k]:=pp c0';have hdr:s.drop k=s[k] :: s.drop (k+1):=l6 c0';rw [hdr] at hrest;have hbk:jc s (k:Int)=((s[k].toNat:Nat):Int):=by rw[yo];unfold bt;rw[hsk];rfl
   generalize s[k]=c at hsk hdr hrest hbk;have hc:=c.toNat_lt;have hk1:=w64s k (by omega);simp only [tcut] at hrest;conv=>whnf
   refine⟨by omega,?_⟩;conv=>whnf
   rw[hbk];by_cases h46:c=46
   ·subst h46;rw [if_pos rfl] at hrest;refine brT rfl ?_;conv=>whnf
    by_cases hl0:l=[]
    ·subst hl0;rw [if_pos rfl] at hrest;rw[<-hrest];refine brT rfl ?_;conv=>whnf
     exact rZ6
    try exact absurd (hql rfl) hl0
    all_goals
     rw [if_neg hl0] at hrest;have hl1:1<=l.length:=d7.2 hl0;refine brF (by rw[mq];omega) ?_;conv=>whnf
     refine⟨fun i _=>⟨_,rfl⟩,?_⟩;rw[qc6];conv=>whnf
     refine⟨by omega,?_⟩;conv=>whnf
     refine⟨by omega,?_⟩;conv=>whnf
     rw[hk1];refine⟨⟨k+1,[],ls++[l],m',some (l.length,jw l)⟩,[3,1],⟨c0',by show s.length<k+1+m';omega,by show 0+(ls++[l]).length<=k+1;rw[py];show 0+(ls.length+1)<=_;omega,fun _=>rfl,hrest⟩,by show s.length - (k+1)<s.length - k;omega,?_⟩;conv=>whnf
     exact rZ13
   have he46:(((c.toNat:Nat):Int) == 46)=false:=by rw[mq];intro h;exact h46 (UInt8.toNat_inj.1 (by show c.toNat=46;omega))
   rw [if_neg h46] at hrest;refine brF he46 ?_;conv=>whnf
   by_cases h92:c=92
   ·subst h92;rw [if_pos rfl] at hrest;refine brT rfl ?_;conv=>whnf
    rw[hk1];refine⟨by omega,?_⟩;conv=>whnf
    rw[qi1];generalize hdd:s.drop (k+1)=r at hrest;have hrl:r.length=s.length - (k+1):=by rw[<-hdd,o7]
    refine oD (ym0 r) rfl rfl ?_;have hb2:(behB r).2<=r.length:=yx1 r;generalize hbh:behB r=b at hrest hb2;obtain⟨b1,b2⟩:=b;conv=>whnf
    by_cases hb0:b2=0
    ·subst hb0;rw [if_pos rfl] at hrest;rw[<-hrest];refine brT rfl ?_;conv=>whnf
     exact rZ6
    rw [if_neg hb0] at hrest;refine brF (by rw[mq];show((b2:Nat):Int)≠0;omega) ?_;conv=>whnf
    refine⟨by omega,?_⟩;conv=>whnf
    have hw2:IntKind.i64.wrap ((k:Int)+IntKind.i64.wrap (((b2:Nat):Int)+1))=((k+1+b2:Nat):Int):=by rw[qa (((b2:Nat):Int)+1) (by omega),qa _ (by omega)];omega
    rw[hw2];have hr2:r.drop b2=s.drop (k+1+b2):=by rw[<-hdd,f9]
    replace hrest:tcut m' (s.drop (k+1+b2)) (l++[b1]) ls=tcut (s.length+1) s [] []:=by rw[<-hr2];exact hrest
    refine⟨⟨k+1+b2,l++[b1],ls,m',none⟩,[0,3],⟨by show k+1+b2<=s.length;have:b2<=r.length:=hb2;omega,by show s.length<k+1+b2+m';omega,by show(l++[b1]).length+ls.length<=k+1+b2;rw[py];show l.length+1+ls.length<=_;omega,fun h=>(by cases h),hrest⟩,by show s.length - (k+1+b2)<s.length - k;omega,?_⟩;conv=>whnf
    repeat'(first|exact ⟨⟩|exact rfl|exact jd _|exact .inr rfl|exact fun _ _=>rfl|exact noI|apply And.intro)
    all_goals first
     |(show l.length+1=(l++[b1]).length;simp)
     |exact(fun i hi=>qh6 l b1 i hi)
     |(show 0+1=(l++[b1]).length;rw[hql rfl];rfl)
     |(
      intro i hi;have:i=0:=by omega
      subst this;rw[show l=[] from hql rfl];rfl)
   have he92:(((c.toNat:Nat):Int) == 92)=false:=by rw[mq];intro h;exact h92 (UInt8.toNat_inj.1 (by show c.toNat=92;omega))
   rw [if_neg h92] at hrest;refine brF he92 ?_;conv=>whnf
   by_cases h33:33<=c.toNat/\c.toNat<=126
   ·rw [if_pos h33] at hrest;refine brF (po (by omega)) ?_;conv=>whnf
    refine brF (po (by omega)) ?_;conv=>whnf
    repeat(first|(refine brF rfl ?_;conv=>whnf)|(refine brT rfl ?_;conv=>whnf))
    refine⟨by omega,?_⟩;conv=>whnf
    rw[hk1];refine⟨⟨k+1,l++[c],ls,m',none⟩,[0,3],⟨c0',by show s.length<k+1+m';omega,by show(l++[c]).length+_<=k+1;rw[py];show l.length+1+ls.length<=_;omega,fun h=>(by cases h),hrest⟩,by show s.length - (k+1)<s.length - k;omega,?_⟩;conv=>whnf
    repeat'(first|exact ⟨⟩|exact rfl|exact jd _|exact .inr rfl|exact fun _ _=>rfl|exact noI|apply And.intro)
    all_goals first
     |(show l.length+1=(l++[c]).length;simp)
     |exact(fun i hi=>qh6 l c i hi)
     |(show 0+1=(l++[c]).length;rw[hql rfl];rfl)
     |(
      intro i hi;have:i=0:=by omega
      subst this;rw[show l=[] from hql rfl];rfl)
   ·rw [if_neg h33] at hrest;rw[<-hrest];by_cases h33':c.toNat<33
    ·refine brT (pn (by omega)) ?_;conv=>whnf
     repeat(first|(refine brF rfl ?_;conv=>whnf)|(refine brT rfl ?_;conv=>whnf))
     exact rZ6
    ·refine brF (po (by omega)) ?_;conv=>whnf
     refine brT (pn (by omega)) ?_;conv=>whnf
     repeat(first|(refine brF rfl ?_;conv=>whnf)|(refine brT rfl ?_;conv=>whnf))
     exact rZ6
  ·have c0':k=s.length:=(by have h:¬ (k:Int)<s.length:=pw c0;omega);subst c0';rw [cy] at hrest;simp only [tcut] at hrest;conv=>whnf
   by_cases hl0:l=[]
   ·subst hl0;rw [if_pos rfl] at hrest;rw[<-hrest];refine brF rfl ?_;conv=>whnf
    by_cases hls:ls=[]
    ·rw[if_pos hls];subst hls;conv=>whnf
     exact rZ6
    ·rw[if_neg hls];have:=d7.2 hls;conv=>whnf
     refine⟨⟨(by cases ls with
      |nil=>exact absurd rfl hls
      |cons a b=>rfl),rfl,.inr rfl,fun i hi=>rfl⟩,(show decide ((ls.length:Int) > 0)=true from pn (by omega)),True.intro⟩
   ·try exact absurd (hql rfl) hl0
    all_goals
     have hl1:1<=l.length:=d7.2 hl0;rw [if_neg hl0] at hrest;rw[<-hrest];refine brT (pn (by omega)) ?_;conv=>whnf
     refine⟨fun i _=>⟨_,rfl⟩,?_⟩;rw[qc6];conv=>whnf
     refine⟨by omega,?_⟩;conv=>whnf
     refine⟨⟨rfl,(show ls.length+1=(ls++[l]).length by simp),.inr rfl,wg ls l _ rfl⟩,(show decide (((ls.length+1:Nat):Int) > 0)=true from pn (by omega)),True.intro⟩
 ·rw[show x.v = .row 1 0 0 by unfold CtSt.v;rw[hxq],show x.b = .row 5 1 qn .may qf by unfold CtSt.b;rw[hxq]];rw [hxq] at hql;conv=>whnf
  generalize x.at_=k at hk hm hll hrest ⊢;generalize x.l=l at hll hrest hql ⊢;generalize x.ls=ls at hll hrest ⊢;generalize x.m=m at hm hrest ⊢;obtain⟨m',rfl⟩:∃ m',m=m'+1:=⟨m - 1,by omega⟩;refine⟨fun c0=>?_,fun c0=>?_⟩
  ·have c0':k<s.length:=(by have h:(k:Int)<s.length:=pu c0;omega);have hsk:s[k]? = some s[k]:=pp c0';have hdr:s.drop k=s[k] :: s.drop (k+1):=l6 c0';rw [hdr] at hrest;have hbk:jc s (k:Int)=((s[k].toNat:Nat):Int):=by rw[yo];unfold bt;rw[hsk];rfl
   generalize s[k]=c at hsk hdr hrest hbk;have hc:=c.toNat_lt;have hk1:=w64s k (by omega);simp only [tcut] at hrest;conv=>whnf
   refine⟨by omega,?_⟩;conv=>whnf
   rw[hbk];by_cases h46:c=46
   ·subst h46;rw [if_pos rfl] at hrest;refine brT rfl ?_;conv=>whnf
    by_cases hl0:l=[]
    ·subst hl0;rw [if_pos rfl] at hrest;rw[<-hrest];refine brT rfl ?_;conv=>whnf
     exact rZ6
    try exact absurd (hql rfl) hl0
    all_goals
     rw [if_neg hl0] at hrest;have hl1:1<=l.length:=d7.2 hl0;refine brF (by rw[mq];omega) ?_;conv=>whnf
     refine⟨fun i _=>⟨_,rfl⟩,?_⟩;rw[qc6];conv=>whnf
     refine⟨by omega,?_⟩;conv=>whnf
     refine⟨by omega,?_⟩;conv=>whnf
     rw[hk1];refine⟨⟨k+1,[],ls++[l],m',some (l.length,jw l)⟩,[3,1],⟨c0',by show s.length<k+1+m';omega,by show 0+(ls++[l]).length<=k+1;rw[py];show 0+(ls.length+1)<=_;omega,fun _=>rfl,hrest⟩,by show s.length - (k+1)<s.length - k;omega,?_⟩;conv=>whnf
     exact rZ13
   have he46:(((c.toNat:Nat):Int) == 46)=false:=by rw[mq];intro h;exact h46 (UInt8.toNat_inj.1 (by show c.toNat=46;omega))
   rw [if_neg h46] at hrest;refine brF he46 ?_;conv=>whnf
   by_cases h92:c=92
   ·subst h92;rw [if_pos rfl] at hrest;refine brT rfl ?_;conv=>whnf
    rw[hk1];refine⟨by omega,?_⟩;conv=>whnf
    rw[qi1];generalize hdd:s.drop (k+1)=r at hrest;have hrl:r.length=s.length - (k+1):=by rw[<-hdd,o7]
    refine oD (ym0 r) rfl rfl ?_;have hb2:(behB r).2<=r.length:=yx1 r;generalize hbh:behB r=b at hrest hb2;obtain⟨b1,b2⟩:=b;conv=>whnf
    by_cases hb0:b2=0
    ·subst hb0;rw [if_pos rfl] at hrest;rw[<-hrest];refine brT rfl ?_;conv=>whnf
     exact rZ6
    rw [if_neg hb0] at hrest;refine brF (by rw[mq];show((b2:Nat):Int)≠0;omega) ?_;conv=>whnf
    refine⟨by omega,?_⟩;conv=>whnf
    have hw2:IntKind.i64.wrap ((k:Int)+IntKind.i64.wrap (((b2:Nat):Int)+1))=((k+1+b2:Nat):Int):=by rw[qa (((b2:Nat):Int)+1) (by omega),qa _ (by omega)];omega
    rw[hw2];have hr2:r.drop b2=s.drop (k+1+b2):=by rw[<-hdd,f9]
    replace hrest:tcut m' (s.drop (k+1+b2)) (l++[b1]) ls=tcut (s.length+1) s [] []:=by rw[<-hr2];exact hrest
    refine⟨⟨k+1+b2,l++[b1],ls,m',none⟩,[0,3],⟨by show k+1+b2<=s.length;have:b2<=r.length:=hb2;omega,by show s.length<k+1+b2+m';omega,by show(l++[b1]).length+ls.length<=k+1+b2;rw[py];show l.length+1+ls.length<=_;omega,fun h=>(by cases h),hrest⟩,by show s.length - (k+1+b2)<s.length - k;omega,?_⟩;conv=>whnf
    repeat'(first|exact ⟨⟩|exact rfl|exact jd _|exact .inr rfl|exact fun _ _=>rfl|exact noI|apply And.intro)
    all_goals first
     |(show l.length+1=(l++[b1]).length;simp)
     |exact(fun i hi=>qh6 l b1 i hi)
     |(show 0+1=(l++[b1]).length;rw[hql rfl];rfl)
     |(
      intro i hi;have:i=0:=by omega
      subst this;rw[show l=[] from hql rfl];rfl)
   have he92:(((c.toNat:Nat):Int) == 92)=false:=by rw[mq];intro h;exact h92 (UInt8.toNat_inj.1 (by show c.toNat=92;omega))
   rw [if_neg h92] at hrest;refine brF he92 ?_;conv=>whnf
   by_cases h33:33<=c.toNat/\c.toNat<=126
   ·rw [if_pos h33] at hrest;refine brF (po (by omega)) ?_;conv=>whnf
    refine brF (po (by omega)) ?_;conv=>whnf
    repeat(first|(refine brF rfl ?_;conv=>whnf)|(refine brT rfl ?_;conv=>whnf))
    refine⟨by omega,?_⟩;conv=>whnf
    rw[hk1];refine⟨⟨k+1,l++[c],ls,m',none⟩,[0,3],⟨c0',by show s.length<k+1+m';omega,by show(l++[c]).length+_<=k+1;rw[py];show l.length+1+ls.length<=_;omega,fun h=>(by cases h),hrest⟩,by show s.length - (k+1)<s.length - k;omega,?_⟩;conv=>whnf
    repeat'(first|exact ⟨⟩|exact rfl|exact jd _|exact .inr rfl|exact fun _ _=>rfl|exact noI|apply And.intro)
    all_goals first
     |(show l.length+1=(l++[c]).length;simp)
     |exact(fun i hi=>qh6 l c i hi)
     |(show 0+1=(l++[c]).length;rw[hql rfl];rfl)
     |(
      intro i hi;have:i=0:=by omega
      subst this;rw[show l=[] from hql rfl];rfl)
   ·rw [if_neg h33] at hrest;rw[<-hrest];by_cases h33':c.toNat<33
    ·refine brT (pn (by omega)) ?_;conv=>whnf
     repeat(first|(refine brF rfl ?_;conv=>whnf)|(refine brT rfl ?_;conv=>whnf))
     exact rZ6
    ·refine brF (po (by omega)) ?_;conv=>whnf
     refine brT (pn (by omega)) ?_;conv=>whnf
     repeat(first|(refine brF rfl ?_;conv=>whnf)|(refine brT rfl ?_;conv=>whnf))
     exact rZ6
  ·have c0':k=s.length:=(by have h:¬ (k:Int)<s.length:=pw c0;omega);subst c0';rw [cy] at hrest;simp only [tcut] at hrest;conv=>whnf
   by_cases hl0:l=[]
   ·subst hl0;rw [if_pos rfl] at hrest;rw[<-hrest];refine brF rfl ?_;conv=>whnf
    by_cases hls:ls=[]
    ·rw[if_pos hls];subst hls;conv=>whnf
     exact rZ6
    ·rw[if_neg hls];have:=d7.2 hls;conv=>whnf
     refine⟨⟨(by cases ls with
      |nil=>exact absurd rfl hls
      |cons a b=>rfl),rfl,.inr rfl,fun i hi=>rfl⟩,(show decide ((ls.length:Int) > 0)=true from pn (by omega)),True.intro⟩
   ·try exact absurd (hql rfl) hl0
    all_goals
     have hl1:1<=l.length:=d7.2 hl0;rw [if_neg hl0] at hrest;rw[<-hrest];refine brT (pn (by omega)) ?_;conv=>whnf
     refine⟨fun i _=>⟨_,rfl⟩,?_⟩;rw[qc6];conv=>whnf
     refine⟨by omega,?_⟩;conv=>whnf
     refine⟨⟨rfl,(show ls.length+1=(ls++[l]).length by simp),.inr rfl,wg ls l _ rfl⟩,(show decide (((ls.length+1:Nat):Int) > 0)=true from pn (by omega)),True.intro⟩
theorem jb0:∀ (m:Nat) (r l:List UInt8) (ls k:List (List UInt8)),tcut m r l ls=some k->k≠[]/\k.length<=ls.length+r.length+1
 |0,_,_,_,_,h=>by cases h
 |m+1,[],l,ls,k,h=>by
  simp only [tcut] at h;split at h
  ·split at h
   ·cases h
   ·rename_i h2;cases h;exact⟨h2,by omega⟩
  ·cases h;exact⟨by simp,by simp⟩
 |m+1,c :: r,l,ls,k,h=>by
  simp only [tcut] at h;split at h
  ·split at h
   ·cases h
   ·obtain⟨h1,h2⟩:=jb0 m _ _ _ _ h;exact ⟨h1,by simp at h2 ⊢;omega⟩
  ·split at h
   ·split at h
    ·cases h
    ·obtain⟨h1,h2⟩:=jb0 m _ _ _ _ h;exact ⟨h1,by simp at h2 ⊢;omega⟩
   ·split at h
    ·obtain⟨h1,h2⟩:=jb0 m _ _ _ _ h;exact ⟨h1,by simp at h2 ⊢;omega⟩
    ·cases h
theorem zq0{l:List (List UInt8)}(h:∀ x ∈ l,okL x):(labs l).length<=64 * l.length:=by
 induction l with
 |nil=>exact pr _
 |cons a l ih =>
  have h1:=h a (mz ..);have h2:=ih (fun x hx=>h x (m8 _ hx));show(lab a++labs l).length<=64 * (l.length+1);rw[py,kz];have:=h1.2;omega
theorem zy0(z:Bool)(l:List (List UInt8))(hl:l.length<=1000000)(hb:¬ (l.all okB=true/\(mk l).length<=255)):FnOk Tryz.prog 132 [.d (.str [0]),.d (.sl z l.length 1 (strs l))] (.tup [.d (.str []),.d (.int .i64 (if l.all okB=true then 7 else 2))]):=by
 refine qu (TT:=TT) (IN:=qe []) qg qh mixed 1000 Tryz.func132 rfl (qd Tryz.func132 (by kernel_rfl) rfl) rfl 53 (by kernel_rfl) ?_;conv=>whnf
 refine oD (yq [0]) rfl rfl ?_;conv=>whnf
 refine⟨fun h=>absurd h (by decide),fun _=>?_⟩;conv=>whnf
 have hml:(labs l).length+1=(mk l).length:=by rw[<-qu3,py];rfl
 refine .inv Nat (fun i=>i<=l.length/\∀ x ∈ l.take i,okL x) (fun i=>[(6,.d (.int .i64 ((labs (l.take i)).length+1:Nat))),(19,.d (.int .i64 i))]) (fun _=>[]) (fun i=>l.length - i) ⟨0,[],⟨pz _,fun x hx=>by simp at hx⟩,?_⟩ ?_
 ·conv=>whnf
  exact rZ6
 intro i hi;obtain⟨hi,hok⟩:=hi;conv=>whnf
 have htl:=zq0 hok;rw [lu] at htl;refine⟨fun c1=>?_,fun c1=>?_⟩
 ·have c1:(i:Int)<l.length:=pu c1;have hil:i<l.length:=by omega
  obtain⟨q,hq⟩:∃ q,l[i]?.getD []=q:=⟨_,rfl⟩;have hq2:l[i]? = some q:=by rw[<-hq,pp hil];rfl
  have htk:l.take (i+1)=l.take i++[q]:=by rw[mp,hq2];rfl
  have hw1:=w64s i (by omega);have hno:¬ okL q->(if l.all okB=true then (7:Int) else 2)=2:=fun hn=>if_neg (fun h=>hn (all_ok.1 h q (ov hq2)))
  conv=>whnf
  refine⟨by omega,?_⟩;conv=>whnf
  rw[px,hq];by_cases hq0:q.length=0
  ·rw[hno (fun h=>by have:=h.1;omega)];refine brT (by rw[mw];omega) ?_;conv=>whnf
   repeat(first|(refine brF rfl ?_;conv=>whnf)|(refine brT rfl ?_;conv=>whnf))
   exact rZ6
  refine brF (by rw[mq];omega) ?_;conv=>whnf
  by_cases hq1:q.length<=63
  case neg =>
   rw[hno (fun h=>by have:=h.2;omega)];refine brT (pn (by omega)) ?_;conv=>whnf
   repeat(first|(refine brF rfl ?_;conv=>whnf)|(refine brT rfl ?_;conv=>whnf))
   exact rZ6
  refine brF (po (by omega)) ?_;conv=>whnf
  refine⟨i+1,[],⟨hil,fun x hx=>?_⟩,by omega,?_⟩
  ·rw [htk] at hx;rcases o3.1 hx with hx|hx
   ·exact hok x hx
   ·simp only [lv] at hx;subst hx;exact⟨by omega,hq1⟩
  conv=>whnf
  have hcat:labs (l.take (i+1))=labs (l.take i)++lab q:=by rw[htk,jm0]
  rw[hw1,hcat,py,kz,qa (1+(q.length:Int)) (by omega),qa _ (by omega),show(((labs (l.take i)).length+1:Nat):Int)+(1+(q.length:Int))=(((labs (l.take i)).length+(1+q.length)+1:Nat):Int) by omega]
  exact rZ6
 ·have c1:¬ (i:Int)<l.length:=pw c1;rw [dn (by omega)] at hok;rw[dn (by omega)];have hall:=all_ok.2 hok;rw[if_pos hall];conv=>whnf
  refine brT (pn (by
   have:¬ (mk l).length<=255:=fun h=>hb ⟨hall,h⟩
   omega)) ?_
  conv=>whnf
  exact rZ6
theorem yj3(s:List UInt8):FnOk Tryz.prog 98 [.d (.str s)] (.tup [.d (.str (jx s).1),.d (.int .i64 (jx s).2)]):=by
 refine qu (TT:=TT) (IN:=qe []) qg qh mixed 1000 Tryz.func98 rfl (qd Tryz.func98 (by kernel_rfl) rfl) rfl 27 (by kernel_rfl) ?_;conv=>whnf
 refine⟨fun h1=>?_,fun h1=>?_⟩
 ·have h1:s.length > 2048:=by have:=pu h1;omega
  rw[show jx s=([],7) by unfold jx;rw[if_pos h1]];conv=>whnf
  exact rZ6
 have h1:¬ s.length > 2048:=by have:=pw h1;omega
 conv=>whnf
 refine⟨fun h2=>?_,fun h2=>?_⟩
 ·have h2:s=[46]:=by simpa using h2
  rw[show jx s=([0],0) by unfold jx;rw[if_neg h1,if_pos h2]];conv=>whnf
  exact rZ6
 have h2:s≠[46]:=by simpa using h2
 have he:jx s=match tcut (s.length+1) s [] [] with
  |none=>([],6)
  |some ls=>if ls.all okB=true/\(mk ls).length<=255 then (mk ls,0) else ([],7):=by unfold jx;rw[if_neg h1,if_neg h2];try rfl
 rw[he];conv=>whnf
 refine .one (.data _ (xn3 s (by omega)) rfl (by cases tcut (s.length+1) s [] [] <;> rfl) ?_);have ho:=jb0 (s.length+1) s [] [];cases htc:tcut (s.length+1) s [] [] with
 |none =>
  conv=>whnf
  repeat(first|(refine brF rfl ?_;conv=>whnf)|(refine brT rfl ?_;conv=>whnf))
  exact rZ6
 |some ls =>
  obtain⟨o1,o2⟩:=ho ls htc;simp only [gv] at o2;conv=>whnf
  repeat(first|(refine brF rfl ?_;conv=>whnf)|(refine brT rfl ?_;conv=>whnf))
  by_cases hb:ls.all okB=true/\(mk ls).length<=255
  ·refine oD (xg3 false ls o1 (all_ok.1 hb.1) hb.2) rfl rfl ?_;simp only[if_pos hb];conv=>whnf
   repeat(first|(refine brF rfl ?_;conv=>whnf)|(refine brT rfl ?_;conv=>whnf))
   exact rZ6
  ·refine oD (zy0 false ls (by omega) hb) rfl rfl ?_;simp only[if_neg hb];by_cases ha:ls.all okB=true
   ·rw[if_pos ha];conv=>whnf
    repeat(first|(refine brF rfl ?_;conv=>whnf)|(refine brT rfl ?_;conv=>whnf))
    exact rZ6
   ·rw[if_neg ha];conv=>whnf
    repeat(first|(refine brF rfl ?_;conv=>whnf)|(refine brT rfl ?_;conv=>whnf))
    exact rZ6
theorem qd5{B:Nat}{w:List UInt8}{u:Nat}(h:yd B w=some u):u<=2 ^ B - 1:=by
 unfold yd at h;split at h
 ·rename_i v hv;cases h;exact Lib.parseUintB_le hv
 ·cases h
theorem zt1(o:Option (List UInt8)):yx5 o = .tup [.d (.str (o.getD [])),.d (.bool o.isSome)]:=by cases o <;> rfl
theorem yw8:∀ (k:Nat) (s:List UInt8),∀ w ∈ cutN k s,w.length<=s.length
 |0,s,w,h=>by simp [cutN] at h;rw [h];exact pr _
 |k+1,s,w,h=>by
  simp only [cutN] at h;split at h
  ·simp at h;rw [h];exact pr _
  ·rcases pv.1 h with rfl|h
   ·rw[lu];omega
   ·have:=yw8 k _ w h;rw [o7] at this;omega
def xm2(o:Option RR):SV:=match o with
 |some r=>.tup [r.V,.d (.int .i64 0)]
 |none=>.tup [(RR.mk [] 0 0 0 []).V,.d (.int .i64 6)]
theorem zu9(s:List UInt8)(hs:s.length<=1000000):FnOk Tryz.prog 100 [.d (.str s)] (xm2 (y3 s)):=by
 refine qu (TT:=TT) (IN:=qe []) qg qh mixed 1000 Tryz.func100 rfl (qd Tryz.func100 (by kernel_rfl) rfl) rfl 100 (by kernel_rfl) ?_;conv=>whnf
 refine oD (zt9 s hs) rfl rfl ?_;have hle:=yw8 5 s;have hpr:y3 s=match qc1 (cutN 5 s) with
  |some r=>if r.check=true/\r.line=s then some r else none
  |none=>none:=rfl
 generalize cutN 5 s=ws at hle hpr ⊢;conv=>whnf
 by_cases h5:ws.length=5
 case neg =>
  have:qc1 ws=none:=by
   unfold qc1;split
   ·simp at h5
   ·rfl
  rw [this] at hpr;simp only at hpr;rw[hpr];refine brT (by rw[bne_iff_ne];omega) ?_;conv=>whnf
  exact rZ6
 refine brF (by rw[bne_eq_false_iff_eq];omega) ?_;obtain⟨w0,w1,w2,w3,w4,rfl⟩:∃ a b c d e,ws=[a,b,c,d,e]:=by
  match ws,h5 with
  |[a,b,c,d,e],_=>exact⟨a,b,c,d,e,rfl⟩
 have l0:=hle w0 (by simp);have l1:=hle w1 (by simp);have l2:=hle w2 (by simp);have l3:=hle w3 (by simp);have l4:=hle w4 (by simp);clear hle;simp only [qc1] at hpr;conv=>whnf
 refine⟨by simp,?_⟩;conv=>whnf
 refine oD (yj3 w0) rfl rfl ?_;conv=>whnf
 refine⟨by simp,?_⟩;conv=>whnf
 refine oD (yc8 w1 (by omega)) rfl rfl ?_;conv=>whnf
 refine⟨by simp,?_⟩;conv=>whnf
 refine oD (yc9 w2 (by omega)) rfl rfl ?_;conv=>whnf
 refine⟨by simp,?_⟩;conv=>whnf
 refine oD (yc9 w3 (by omega)) rfl rfl ?_;conv=>whnf
 refine⟨by simp,?_⟩;conv=>whnf
 have hu:=xc5 w4;rw [zt1] at hu;refine oD hu rfl rfl ?_;conv=>whnf
 by_cases hp:(jx w0).2=0
 case neg =>
  have:y3 s=none:=by
   rw[hpr];split
   ·rename_i r hr;split at hr
    ·rw [if_neg hp] at hr;cases hr
    ·cases hr
   ·rfl
  rw[this];refine brT (by rw[bne_iff_ne];exact hp) ?_;conv=>whnf
  repeat(first|(refine brF rfl ?_;conv=>whnf)|(refine brT rfl ?_;conv=>whnf))
  exact rZ6
 refine brF (by rw[bne_eq_false_iff_eq];exact hp) ?_;conv=>whnf
 cases hw1:yd 32 w1 with
 |none =>
  have:y3 s=none:=by
   rw[hpr,hw1]
  rw[this];refine brT rfl ?_;conv=>whnf
  repeat(first|(refine brF rfl ?_;conv=>whnf)|(refine brT rfl ?_;conv=>whnf))
  exact rZ6
 |some t =>
 have hv1:=ja8 hw1;have hl1:=qd5 hw1;rw[hv1];refine brF rfl ?_;conv=>whnf
 cases hw2:yd 16 w2 with
 |none =>
  have:y3 s=none:=by
   rw[hpr,hw2];cases yd 32 w1 <;> rfl
  rw[this];refine brT rfl ?_;conv=>whnf
  repeat(first|(refine brF rfl ?_;conv=>whnf)|(refine brT rfl ?_;conv=>whnf))
  exact rZ6
 |some c =>
 have hv2:=ja8 hw2;have hl2:=qd5 hw2;rw[hv2];refine brF rfl ?_;conv=>whnf
 cases hw3:yd 16 w3 with
 |none =>
  have:y3 s=none:=by
   rw[hpr,hw3];cases yd 32 w1 <;> cases yd 16 w2 <;> rfl
  rw[this];refine brT rfl ?_;conv=>whnf
  repeat(first|(refine brF rfl ?_;conv=>whnf)|(refine brT rfl ?_;conv=>whnf))
  exact rZ6
 |some y =>
 have hv3:=ja8 hw3;have hl3:=qd5 hw3;rw[hv3];refine brF rfl ?_;conv=>whnf
 cases hu4:qj2 w4 with
 |none =>
  have:y3 s=none:=by
   rw[hpr,hw1,hw2,hw3,hu4]
  rw[this];refine brT rfl ?_;conv=>whnf
  repeat(first|(refine brF rfl ?_;conv=>whnf)|(refine brT rfl ?_;conv=>whnf))
  exact rZ6
 |some d =>
 refine brF rfl ?_;conv=>whnf
 have hl1:t<=4294967295:=hl1;have hl2:c<=65535:=hl2;have hl3:y<=65535:=hl3;rw[show IntKind.u16.wrap (y:Int)=(y:Int) by rw[IntKind.wrap_u16];omega,show IntKind.u16.wrap (c:Int)=(c:Int) by rw[IntKind.wrap_u16];omega,show IntKind.u32.wrap (t:Int)=(t:Int) by rw[IntKind.wrap_u32'];omega];refine oD (yv0 ⟨(jx w0).1,y,c,t,d⟩ ⟨by constructor <;> simp <;> omega,by constructor <;> simp <;> omega,by constructor <;> simp <;> omega⟩) rfl rfl ?_;rw [hw1,hw2,hw3,hu4] at hpr;simp only [if_pos hp] at hpr;have hV:(RR.mk (jx w0).1 y c t d).V = .agg [.d (.str (jx w0).1),.d (.int .u16 y),.d (.int .u16 c),.d (.int .u32 t),.d (.str d)]:=rfl;cases hck:(RR.mk (jx w0).1 y c t d).check with
 |false =>
  have:y3 s=none:=by rw[hpr,if_neg (by rw[hck];simp)]
  rw[this,show(RR.mk (jx w0).1 y c t d).lineV=([],2) by unfold RR.lineV;rw[hck];rfl];conv=>whnf
  repeat(first|(refine brF rfl ?_;conv=>whnf)|(refine brT rfl ?_;conv=>whnf))
  exact rZ6
 |true =>
  rw[show(RR.mk (jx w0).1 y c t d).lineV=((RR.mk (jx w0).1 y c t d).line,0) by unfold RR.lineV;rw[hck];rfl];by_cases hl:(RR.mk (jx w0).1 y c t d).line=s
  ·have:y3 s=some ⟨(jx w0).1,y,c,t,d⟩:=by rw[hpr,if_pos ⟨hck,hl⟩]
   rw[this];conv=>whnf
   repeat(first|(refine brF rfl ?_;conv=>whnf)|(refine brT rfl ?_;conv=>whnf))
   refine brF (by simpa using hl) ?_;conv=>whnf
   exact rZ6
  ·have:y3 s=none:=by rw[hpr,if_neg (fun h=>hl h.2)]
   rw[this];conv=>whnf
   repeat(first|(refine brF rfl ?_;conv=>whnf)|(refine brT rfl ?_;conv=>whnf))
   refine brT (by simpa using hl) ?_;conv=>whnf
   exact rZ6
theorem xj3{ws:List (List UInt8)}{r:RR}(h:qc1 ws=some r):r.In:=by
 unfold qc1 at h;split at h
 ·split at h
  ·rename_i t c y d e1 e2 e3 e4;split at h
   ·cases h;have b1:=qd5 e1;have b2:=qd5 e2;have b3:=qd5 e3;exact⟨⟨Int.natCast_nonneg _,Int.ofNat_le.2 b3⟩,⟨Int.natCast_nonneg _,Int.ofNat_le.2 b2⟩,⟨Int.natCast_nonneg _,Int.ofNat_le.2 b1⟩⟩
   ·cases h
  ·cases h
 ·cases h
theorem zw7{s:List UInt8}{r:RR}(h:y3 s=some r):r.In:=by
 unfold y3 at h;split at h
 ·rename_i q hq;split at h
  ·cases h;exact xj3 hq
  ·cases h
 ·cases h
def rrF(l:List RR)(j:Nat):List DV:=(l.getD j default).enc
def rdB(F:Nat->List SV)(n m:Nat)(G:Nat->List DV):List KB:=[.cells 79 [.all 1,.all 2],.rows 58 2 (n+1) F,.row 32 2 m .iff G]
def recK(F:Nat->List SV)(n m:Nat)(G:Nat->List DV)(l:List RR)(s:List UInt8):SV × List KB :=
 if 0<m\/l.length=256 then (.d (.bool false),rdB F n m G++[.row 62 5 l.length .iff (rrF l)]) else match y3 s with
  |none=>(.d (.bool false),rdB F n m G++[.row 62 5 l.length .iff (rrF l)])
  |some r=>(.d (.bool true),rdB (oneS n 1 [.all 4] F) n m G++[.gone,.row 62 5 (l++[r]).length .iff (rrF (l++[r]))])
theorem yf9(x:DV):SubV (.d x) (.d x):=by cases x <;> exact rfl
theorem yg0(ρ:List Nat):∀ ds:List DV,SubL (renL ρ (ds.map .d)) (ds.map .d)
 |[]=>True.intro
 |x :: l=>⟨yf9 x,yg0 ρ l⟩
def DatF(F:Nat->List SV)(n:Nat):Prop:=∀ i,i<n->∃ ds:List DV,F i=ds.map .d
theorem qt5{F F':Nat->List SV}{n:Nat}{ρ:List Nat}(hd:DatF F n)(he:∀ i,i<n->F' i=F i)(hn:SubL (renL ρ (F n)) (F' n)):∀ i,i<n+1->SubL ((fun i=>renL ρ (F i)) i) (F' i):=fun i hi=>by
 rcases oo i n with h|h
 ·obtain⟨ds,e⟩:=hd i h;rw[he i h];show SubL (renL ρ (F i)) (F i);rw[e];exact yg0 ρ ds
 ·obtain rfl:i=n:=by omega
  exact hn
theorem jq4(F:Nat->List SV)(n:Nat)(x a b:SV)(h:F n=[a,b]):oneS n 1 [x] F n=[a,x]:=by
 unfold oneS;rw[if_pos rfl,h];rfl
theorem jd4(F:Nat->List SV){n i:Nat}(vs:List SV)(h:i<n):oneS n 1 vs F i=F i:=by
 unfold oneS;rw[if_neg (by omega)]
theorem xm0(l:List RR)(r:RR)(i:Nat)(hi:i<l.length+1):catF l.length (rrF l) (qx r.enc 5) i=rrF (l++[r]) i:=by
 unfold catF rrF;split
 ·rename_i h;rw[List.getD,List.getD,ot h]
 ·rename_i h;obtain rfl:i=l.length:=by omega
  rw[gq,List.getD,o5 (pr _),gq];rfl
theorem xo4(F:Nat->List SV)(n m:Nat)(G:Nat->List DV)(l:List RR)(apex s:List UInt8)(hF:F n=[.d (.str apex),.all 3])(hD:DatF F n)(hn:n<=1000)(hl:l.length<=1000)(hs:s.length<=1000000) :
 COk Tryz.prog 62 [.ptr 0 0,.d (.str s)] (rdB F n m G++[.row 62 5 l.length .iff (rrF l)]) (fun r k=>r=(recK F n m G l s).1/\k=(recK F n m G l s).2):=by
 refine jn (TT:=TT) (IN:=qe []) qg qh mixed 1000 Tryz.func62 rfl (qd Tryz.func62 (by kernel_rfl) rfl) 63 (by kernel_rfl) ?_;conv=>whnf
 refine brF (po (by omega)) ?_;conv=>whnf
 refine⟨fun h1=>?_,fun h1=>?_⟩
 ·have h1:0<m:=by have h:(m:Int) > 0:=pu h1;omega
  rw[show recK F n m G l s=(.d (.bool false),rdB F n m G++[.row 62 5 l.length .iff (rrF l)]) from if_pos (.inl h1)];conv=>whnf
  repeat(first|(refine brF rfl ?_;conv=>whnf)|(refine brT rfl ?_;conv=>whnf))
  refine⟨[0,1,2,3],_,_,rfl,rfl,?_,?_,rfl,rfl⟩
  ·exact rfl
  ·conv=>whnf
   repeat'(first|exact ⟨⟩|exact rfl|exact(fun _ _ _ _ h=>⟨y7 _,h⟩)|exact fun _=>Iff.rfl|exact fun _ _=>rfl|apply And.intro)
   all_goals exact qt5 hD (fun _ _=>rfl) (by rw[hF];exact⟨rfl,rfl,True.intro⟩)
 have h1:¬ 0<m:=by have h:¬ (m:Int) > 0:=pw h1;omega
 conv=>whnf
 have hw:IntKind.i64.wrap (((n+1:Nat):Int) - 1)=(n:Int):=by rw[qa _ (by omega)];omega
 rw[hw];refine⟨by omega,?_⟩;conv=>whnf
 rw[px,hF];conv=>whnf
 refine⟨fun h2=>?_,fun h2=>?_⟩
 ·have h2:l.length=256:=by simp at h2;omega
  rw[show recK F n m G l s=(.d (.bool false),rdB F n m G++[.row 62 5 l.length .iff (rrF l)]) from if_pos (.inr h2)];conv=>whnf
  repeat(first|(refine brF rfl ?_;conv=>whnf)|(refine brT rfl ?_;conv=>whnf))
  refine⟨[0,1,2,3],_,_,rfl,rfl,?_,?_,rfl,rfl⟩
  ·exact rfl
  ·conv=>whnf
   repeat'(first|exact ⟨⟩|exact rfl|exact(fun _ _ _ _ h=>⟨y7 _,h⟩)|exact fun _=>Iff.rfl|exact fun _ _=>rfl|apply And.intro)
   all_goals exact qt5 hD (fun _ _=>rfl) (by rw[hF];exact⟨rfl,rfl,True.intro⟩)
 have h2:¬ l.length=256:=by simp at h2;omega
 have hrk:recK F n m G l s=match y3 s with
  |none=>(.d (.bool false),rdB F n m G++[.row 62 5 l.length .iff (rrF l)])
  |some r=>(.d (.bool true),rdB (oneS n 1 [.all 4] F) n m G++[.gone,.row 62 5 (l++[r]).length .iff (rrF (l++[r]))]):=if_neg (by rintro (h|h);exact h1 h;exact h2 h)
 rw[hrk];conv=>whnf
 have hpr:=zu9 s hs;cases hp:y3 s with
 |none =>
  rw [hp] at hpr;refine oD hpr rfl rfl ?_;conv=>whnf
  repeat(first|(refine brF rfl ?_;conv=>whnf)|(refine brT rfl ?_;conv=>whnf))
  refine⟨[0,1,2,3],_,_,rfl,rfl,?_,?_,rfl,rfl⟩
  ·exact rfl
  ·conv=>whnf
   repeat'(first|exact ⟨⟩|exact rfl|exact(fun _ _ _ _ h=>⟨y7 _,h⟩)|exact fun _=>Iff.rfl|exact fun _ _=>rfl|apply And.intro)
   all_goals exact qt5 hD (fun _ _=>rfl) (by rw[hF];exact⟨rfl,rfl,True.intro⟩)
 |some r =>
  rw [hp] at hpr;refine oD hpr rfl rfl ?_;conv=>whnf
  repeat(first|(refine brF rfl ?_;conv=>whnf)|(refine brT rfl ?_;conv=>whnf))
  rw[hw];refine⟨by omega,?_⟩;conv=>whnf
  rw[px,hF];conv=>whnf
  refine⟨by omega,?_⟩;conv=>whnf
  refine⟨[0,1,2,3,6],_,_,rfl,rfl,?_,?_,rfl,rfl⟩
  ·exact rfl
  ·conv=>whnf
   repeat'(first|exact ⟨⟩|exact rfl|exact(fun _ _ _ _ h=>⟨y7 _,h⟩)|exact fun _=>Iff.rfl|exact fun _ _=>rfl|apply And.intro)
   ·exact qt5 (F:=oneS n 1 [.all 6] F) (F':=oneS n 1 [.all 4] F) (fun i hi=>by rw[jd4 _ _ hi];exact hD i hi) (fun i hi=>by rw[jd4 _ _ hi,jd4 _ _ hi]) (by rw[jq4 F n _ _ _ hF,jq4 F n _ _ _ hF];exact⟨rfl,rfl,True.intro⟩)
   ·rw[py];rfl
   ·exact xm0 l r
def rdD(z:Z)(N:Nat)(Y:Nat->List DV)(m:Nat)(G:Nat->List DV):List KB:=[.cells 79 [.all 1,.all 2],.row 58 2 N z Y,.row 32 2 m .iff G,.gone]
def zonK(z:Z)(N:Nat)(Y:Nat->List DV)(m:Nat)(G:Nat->List DV)(s:List UInt8):SV × List KB :=
 if 0<m\/N=64\/(jx s).2≠0 then (.d (.bool false),rdD z N Y m G) else
  (.d (.bool true),[.cells 79 [.all 4,.all 2],.gone,.row 32 2 m .iff G,.gone,.row 58 2 (N+1) z (catF N Y (qx [.str (jx s).1,.sl true 0 0 (fun _=>[])] 2))])
theorem qz6(n:Nat)(z:Z):SubZ n z z:=by cases z <;> first|exact ⟨⟩|exact rfl|simp[SubZ]
theorem xo3(z:Z)(N:Nat)(Y:Nat->List DV)(m:Nat)(G:Nat->List DV)(s:List UInt8)(hN:N<=1000) :
 COk Tryz.prog 60 [.ptr 0 0,.d (.str s)] (rdD z N Y m G) (fun r k=>r=(zonK z N Y m G s).1/\k=(zonK z N Y m G s).2):=by
 refine jn (TT:=TT) (IN:=qe []) qg qh mixed 1000 Tryz.func60 rfl (qd Tryz.func60 (by kernel_rfl) rfl) 41 (by kernel_rfl) ?_;conv=>whnf
 refine⟨fun h1=>?_,fun h1=>?_⟩
 ·have h1:0<m:=by have h:(m:Int) > 0:=pu h1;omega
  rw[show zonK z N Y m G s=(.d (.bool false),rdD z N Y m G) from if_pos (.inl h1)];conv=>whnf
  repeat(first|(refine brF rfl ?_;conv=>whnf)|(refine brT rfl ?_;conv=>whnf))
  refine⟨[0,1,2,3],_,_,rfl,rfl,?_,?_,rfl,rfl⟩
  ·exact rfl
  ·conv=>whnf
   repeat'(first|exact ⟨⟩|exact rfl|exact(fun _ _ _ _ h=>⟨y7 _,h⟩)|exact fun _=>Iff.rfl|exact fun _ _=>rfl|apply And.intro)
   exact qz6 _ _
 have h1:¬ 0<m:=by have h:¬ (m:Int) > 0:=pw h1;omega
 conv=>whnf
 refine⟨fun h2=>?_,fun h2=>?_⟩
 ·have h2:N=64:=by simp at h2;omega
  rw[show zonK z N Y m G s=(.d (.bool false),rdD z N Y m G) from if_pos (.inr (.inl h2))];conv=>whnf
  repeat(first|(refine brF rfl ?_;conv=>whnf)|(refine brT rfl ?_;conv=>whnf))
  refine⟨[0,1,2,3],_,_,rfl,rfl,?_,?_,rfl,rfl⟩
  ·exact rfl
  ·conv=>whnf
   repeat'(first|exact ⟨⟩|exact rfl|exact(fun _ _ _ _ h=>⟨y7 _,h⟩)|exact fun _=>Iff.rfl|exact fun _ _=>rfl|apply And.intro)
   exact qz6 _ _
 have h2:¬ N=64:=by simp at h2;omega
 conv=>whnf
 refine oD (yj3 s) rfl rfl ?_;conv=>whnf
 by_cases h3:(jx s).2=0
 ·rw[show zonK z N Y m G s=_ from if_neg (by rintro (h|h|h);exact h1 h;exact h2 h;exact h h3),h3];conv=>whnf
  repeat(first|(refine brF rfl ?_;conv=>whnf)|(refine brT rfl ?_;conv=>whnf))
  refine⟨by omega,?_⟩;conv=>whnf
  refine⟨[0,1,2,3,5],_,_,rfl,rfl,?_,?_,rfl,rfl⟩
  ·exact rfl
  ·conv=>whnf
   repeat'(first|exact ⟨⟩|exact rfl|exact(fun _ _ _ _ h=>⟨y7 _,h⟩)|exact fun _=>Iff.rfl|exact fun _ _=>rfl|apply And.intro)
   exact qz6 _ _
 ·rw[show zonK z N Y m G s=(.d (.bool false),rdD z N Y m G) from if_pos (.inr (.inr h3))];conv=>whnf
  refine brT (by simpa using h3) ?_;conv=>whnf
  refine⟨[0,1,2,3],_,_,rfl,rfl,?_,?_,rfl,rfl⟩
  ·exact rfl
  ·conv=>whnf
   repeat'(first|exact ⟨⟩|exact rfl|exact(fun _ _ _ _ h=>⟨y7 _,h⟩)|exact fun _=>Iff.rfl|exact fun _ _=>rfl|apply And.intro)
   exact qz6 _ _
theorem xp3{n:Nat}(h1:100<=n)(h:n<10000000000):∃ k,2<=k/\k<=9/\10 ^ k<=n/\n<10 ^ (k+1):=by
 by_cases a3:n<1000
 ·exact⟨2,by decide,by decide,h1,a3⟩
 by_cases a4:n<10000
 ·exact⟨3,by decide,by decide,by omega,a4⟩
 by_cases a5:n<100000
 ·exact⟨4,by decide,by decide,by omega,a5⟩
 by_cases a6:n<1000000
 ·exact⟨5,by decide,by decide,by omega,a6⟩
 by_cases a7:n<10000000
 ·exact⟨6,by decide,by decide,by omega,a7⟩
 by_cases a8:n<100000000
 ·exact⟨7,by decide,by decide,by omega,a8⟩
 by_cases a9:n<1000000000
 ·exact⟨8,by decide,by decide,by omega,a9⟩
 ·exact⟨9,by decide,by decide,by omega,h⟩
theorem yz7(s:List UInt8)(n:Nat)(h:n<10000000000)(hs:s.length<=1099511627776):COk Tryz.prog 119 [.all 0,.d (.int .u64 n),.d (.int .i64 10)] [.row 5 1 s.length .no (jw s)] (fun r k=>r = .all 1/\k=[.gone,.row 5 1 (s++Lib.decDigits n).length .no (jw (s++Lib.decDigits n))]):=by
 refine jn (TT:=TT) (IN:=qe []) qg qh mixed 1000 Tryz.func119 rfl (qd Tryz.func119 (by kernel_rfl) rfl) 33 (by kernel_rfl) ?_;conv=>whnf
 refine brT rfl ?_;conv=>whnf
 refine⟨fun h1=>?_,fun h1=>?_⟩
 ·have h1':n<100:=by have:=pu h1;omega
  conv=>whnf
  rw[qa (n:Int) (by omega),jr2 (by omega)];refine oD (yn3 n h1') rfl rfl ?_;conv=>whnf
  have hd:(dig n).length<=3:=by unfold dig;split <;> (try split) <;> simp
  refine⟨by omega,?_⟩;conv=>whnf
  refine⟨[0,1],_,_,rfl,rfl,?_,?_,rfl,rfl⟩
  ·exact rfl
  ·conv=>whnf
   exact rZ10
 have h1':100<=n:=by have:=pw h1;omega
 conv=>whnf
 obtain⟨k,k2,k9,hk1,hk2⟩:=xp3 h1' h;refine oD (ye4 n k hk1 hk2 (by omega)) rfl rfl ?_;rw[yw5 hk1 hk2];have hb:=ys1 n (k+1) (by omega) hk2 (by omega);have hks:k=2\/k=3\/k=4\/k=5\/k=6\/k=7\/k=8\/k=9:=by omega
 rcases hks with rfl|rfl|rfl|rfl|rfl|rfl|rfl|rfl
 all_goals
  conv=>whnf
  refine⟨by decide,?_⟩;conv=>whnf
  refine .rel _ (COk.frameX hb [1] rfl rfl rfl) (fun x ks' hR=>?_);obtain⟨_,_,⟨rfl,rfl⟩,rfl,rfl⟩:=hR;conv=>whnf
  refine⟨by decide,?_⟩;conv=>whnf
  refine⟨by omega,?_⟩;conv=>whnf
  refine⟨[0,2],_,_,rfl,rfl,?_,?_,rfl,rfl⟩
  ·exact rfl
  ·conv=>whnf
   repeat'(first|exact ⟨⟩|exact rfl|exact fun _=>Iff.rfl|exact fun _ _=>rfl|exact renM_rests _ _|exact(py ..).symm|exact qk9 _ _|apply And.intro)
   ·rw[py];rfl
   ·intro i hi;refine Eq.trans ?_ (qk9 s _ i hi);unfold catF;split
    ·rfl
    ·have h3:i - s.length=0\/i - s.length=1\/i - s.length=2\/i - s.length=3\/i - s.length=4\/i - s.length=5\/i - s.length=6\/i - s.length=7\/i - s.length=8\/i - s.length=9:=by
      have hi:i<s.length+_:=hi;omega
     have hi:i<s.length+_:=hi;rcases h3 with e|e|e|e|e|e|e|e|e|e <;> first|(exfalso;omega)|(rw[e];rfl)
theorem xt6(s:List UInt8)(n:Nat)(h:n<10000000000)(hs:s.length<=1099511627776):COk Tryz.prog 87 [.all 0,.d (.int .i64 n),.d (.int .i64 10)] [.row 5 1 s.length .no (jw s)] (fun r k=>r = .all 1/\k=[.gone,.row 5 1 (s++Lib.decDigits n).length .no (jw (s++Lib.decDigits n))]):=by
 refine jn (TT:=TT) (IN:=qe [(120,Tryz.f120,3)]) qg (jh qh Tryz.func120 (by kernel_rfl) (by kernel_rfl)) mixed 1000 Tryz.func87 rfl (qd Tryz.func87 (by kernel_rfl) rfl) 8 (by kernel_rfl) ?_;conv=>whnf
 refine brF (po (by omega)) ?_;conv=>whnf
 rw[show IntKind.u64.wrap (n:Int)=n by rw[IntKind.wrap_u64];omega];refine .rel _ (yz7 s n h hs) (fun x ks' hR=>?_);obtain⟨rfl,rfl⟩:=hR;conv=>whnf
 refine⟨[0,1],_,_,rfl,rfl,?_,?_,rfl,rfl⟩
 ·exact rfl
 ·conv=>whnf
  exact rZ10
def go31:Nat->List UInt8->Except Int Nat
 |n,[]=>.ok n
 |n,c :: s=>if 48<=c.toNat/\c.toNat<=57 then (if 2147483647<10 * n+(c.toNat - 48) then .error 1 else go31 (10 * n+(c.toNat - 48)) s) else .error 2
def zh(s:List UInt8):Except Int Nat:=if s=[] then .error 2 else go31 0 s
def ifV(c:Int):SV:=.v (.iface 211 (.int .i64 c))
def xu6:Except Int Nat->SV
 | .ok n=>.tup [.d (.int .u64 n),.v .nilIface]
 | .error c=>.tup [.d (.int .u64 (if c=1 then 2147483647 else 0)),ifV c]
theorem yv9:∀ (s:List UInt8) (n m:Nat),n<=2147483647->go31 n s = .ok m->m<=2147483647
 |[],n,m,h,e=>by cases e;exact h
 |c :: s,n,m,h,e=>by
  unfold go31 at e;split at e
  ·split at e
   ·cases e
   ·exact yv9 s _ _ (by omega) e
  ·cases e
structure St31 where
 n:Nat
 i:Nat
theorem xn7(s:List UInt8)(hs:s.length<=1099511627776):FnOk Tryz.prog 133 [.d (.str s),.d (.int .i64 10),.d (.int .i64 31)] (xu6 (zh s)):=by
 refine qu (TT:=TT) (IN:=qe [(163,Tryz.f163,1)]) qg (jh qh Tryz.func163 (by kernel_rfl) (by kernel_rfl)) mixed 1000 Tryz.func133 rfl (qd Tryz.func133 (by kernel_rfl) rfl) rfl 169 (by kernel_rfl) ?_;conv=>whnf
 by_cases h0:s=[]
 ·subst h0;refine brT rfl ?_;conv=>whnf
  exact rZ6
 rw[show zh s=go31 0 s from if_neg h0];refine brF (by simpa using h0) ?_;conv=>whnf
 repeat(first|(refine brF rfl ?_;conv=>whnf)|(refine brT rfl ?_;conv=>whnf))
 refine⟨by decide,?_⟩;conv=>whnf
 rw[show IntKind.u64.wrap (IntKind.u64.wrap (1 * 2 ^ min (IntKind.u64.wrap 31).toNat IntKind.u64.bits) - 1)=2147483647 by decide];refine .inv St31 (fun x=>x.i<=s.length/\x.n<=2147483647/\go31 x.n (s.drop x.i)=go31 0 s) (fun x=>[(12,.d .ff),(13,.d (.int .u64 x.n)),(101,.d (.int .i64 x.i))]) (fun _=>[]) (fun x=>s.length - x.i) ⟨⟨0,0⟩,[0],⟨pz _,pz _,rfl⟩,?_⟩ ?_
 ·conv=>whnf
  exact rZ6
 intro x hx;obtain⟨hi,hn,hgo⟩:=hx;conv=>whnf
 generalize x.n=n at hn hgo ⊢;generalize x.i=i at hi hgo ⊢;refine⟨fun c0=>?_,fun c0=>?_⟩
 ·have c0':i<s.length:=(by have h:(i:Int)<s.length:=pu c0;omega);obtain⟨c,hc⟩:∃ c,s[i]? = some c:=⟨_,pp c0'⟩;have hb:jc s (i:Int)=(c.toNat:Int):=by unfold jc;rw[px,hc];rfl
  have hdr:s.drop i=c :: s.drop (i+1):=by
   rw[l6 c0'];rw [pp c0'] at hc;cases hc
   rfl
  rw [hdr] at hgo;have hlt:=c.toNat_lt;have hw1:=w64s i (by omega);conv=>whnf
  refine⟨by omega,?_⟩;conv=>whnf
  rw[px,hb];by_cases hd:48<=c.toNat/\c.toNat<=57
  ·refine brF (by simp;omega) ?_;conv=>whnf
   refine brT (pn (by omega)) ?_;conv=>whnf
   refine brT (pn (by omega)) ?_;conv=>whnf
   rw[show IntKind.u8.wrap ((c.toNat:Int) - 48)=((c.toNat - 48:Nat):Int) by rw[dx];omega];refine brF (po (by rw[dx];omega)) ?_;conv=>whnf
   refine brF (po (by omega)) ?_;conv=>whnf
   rw[show IntKind.u64.wrap ((n:Int) * IntKind.u64.wrap 10)=((10 * n:Nat):Int) by rw[show IntKind.u64.wrap 10=10 from rfl,IntKind.wrap_u64];omega];rw[show IntKind.u64.wrap (((10 * n:Nat):Int)+IntKind.u64.wrap ((c.toNat - 48:Nat):Int))=((10 * n+(c.toNat - 48):Nat):Int) by rw[IntKind.wrap_u64,IntKind.wrap_u64];omega];refine brF (po (by omega)) ?_;conv=>whnf
   by_cases hm:2147483647<10 * n+(c.toNat - 48)
   ·have he:go31 0 s = .error 1:=by rw[<-hgo];unfold go31;rw[if_pos hd,if_pos hm]
    rw[he];refine brT (pn (by omega)) ?_;conv=>whnf
    exact rZ6
   ·refine brF (po (by omega)) ?_;conv=>whnf
    refine⟨⟨10 * n+(c.toNat - 48),i+1⟩,[0],⟨c0',by show 10 * n+(c.toNat - 48)<=_;omega,?_⟩,by show s.length - (i+1)<s.length - _;omega,?_⟩
    ·rw[<-hgo];conv=>rhs;unfold go31
     rw[if_pos hd,if_neg hm]
    conv=>whnf
    rw[hw1];exact rZ6
  ·have he:go31 0 s = .error 2:=by rw[<-hgo];unfold go31;rw[if_neg hd]
   rw[he];by_cases h95:c.toNat=95
   ·rw[h95];conv=>whnf
    repeat(first
     |(refine .once ?_;conv=>whnf)
     |(refine brT rfl ?_;conv=>whnf)
     |(refine brF rfl ?_;conv=>whnf)
     |(refine⟨_,rfl,?_⟩;conv=>whnf)
     |(refine⟨by decide,?_⟩;conv=>whnf))
    exact rZ6
   refine brF (by simp;omega) ?_;conv=>whnf
   by_cases a1:48<=c.toNat
   ·refine brT (pn (by omega)) ?_;conv=>whnf
    refine brF (po (by omega)) ?_;conv=>whnf
    by_cases b1:97<=bits BinOp.or IntKind.u8 (c.toNat:Int) 32
    ·refine brT (pn b1) ?_;conv=>whnf
     by_cases b2:bits BinOp.or IntKind.u8 (c.toNat:Int) 32<=122
     ·refine brT (pn b2) ?_;conv=>whnf
      refine brT (pn (by rw[dx,dx,show IntKind.u8.wrap 10=10 from rfl];omega)) ?_;conv=>whnf
      exact rZ6
     ·refine brF (po b2) ?_;conv=>whnf
      exact rZ6
    ·refine brF (po b1) ?_;conv=>whnf
     exact rZ6
   ·refine brF (po (by omega)) ?_;conv=>whnf
    by_cases b1:97<=bits BinOp.or IntKind.u8 (c.toNat:Int) 32
    ·refine brT (pn b1) ?_;conv=>whnf
     by_cases b2:bits BinOp.or IntKind.u8 (c.toNat:Int) 32<=122
     ·refine brT (pn b2) ?_;conv=>whnf
      refine brT (pn (by rw[dx,dx,show IntKind.u8.wrap 10=10 from rfl];omega)) ?_;conv=>whnf
      exact rZ6
     ·refine brF (po b2) ?_;conv=>whnf
      exact rZ6
    ·refine brF (po b1) ?_;conv=>whnf
     exact rZ6
 ·have c0':i=s.length:=(by have h:¬ (i:Int)<s.length:=pw c0;omega);subst c0';rw [cy] at hgo;rw[<-hgo];conv=>whnf
  repeat(first|(refine brF rfl ?_;conv=>whnf)|(refine brT rfl ?_;conv=>whnf))
  exact rZ6
theorem FnOk.read{P:Program}{f:FuncId}{al:List SV}{r r':SV}(h:FnOk P f al r)(hr:∀ (w:World) (M:Nat->Prop) (u:Value),Den w M noE r u->Den w M noE r' u):FnOk P f al r' :=
 ⟨h.1,fun M w vs hV hM hl hd=>(h.2 M w vs hV hM hl hd).mono fun _ _ ⟨v,h1,h2,h3⟩=>⟨v,h1,h2,hr _ _ _ h3⟩⟩
theorem ym7{w:World}{M:Nat->Prop}{a b b':SV}{u:Value}(h:Den w M noE (.tup [a,b]) u)(hb:∀ v,Den w M noE b v->Den w M noE b' v):Den w M noE (.tup [a,b']) u:=by
 cases h with
 |tup _ vs h1 h2 =>
  match vs,h1 with
  |[x,y],_ =>
   exact .tup _ [x,y] rfl fun j s v hs hv=>match j with
    |0=>by cases hs;cases hv;exact h2 0 _ _ rfl rfl
    |1=>by cases hs;cases hv;exact hb _ (h2 1 _ _ rfl rfl)
    |j+2=>by simp at hs
def xv0:Except Int Nat->SV
 | .ok n=>.tup [.d (.int .u64 n),.err false]
 | .error c=>.tup [.d (.int .u64 (if c=1 then 2147483647 else 0)),ifV c]
theorem xh0(s:List UInt8)(hs:s.length<=1099511627776):FnOk Tryz.prog 133 [.d (.str s),.d (.int .i64 10),.d (.int .i64 31)] (xv0 (zh s)):=by
 have h:=xn7 s hs;cases hn:zh s with
 |ok n =>
  rw [hn] at h;exact FnOk.read h fun w M u hu=>ym7 hu fun v hv=>by cases hv;exact .err _ _ (fun h=>by cases h) (fun _=>rfl)
 |error c=>rw [hn] at h;exact h
theorem yi7{s:List UInt8}{c:Int}(h:zh s = .error c):c=1\/c=2:=by
 have hg:∀ (s:List UInt8) (n:Nat),go31 n s = .error c->c=1\/c=2:=fun s=>by
  induction s with
  |nil=>intro n e;cases e
  |cons a s ih =>
   intro n e;unfold go31 at e;split at e
   ·split at e
    ·cases e;exact .inl rfl
    ·exact ih _ e
   ·cases e;exact .inr rfl
 unfold zh at h;split at h
 ·cases h;exact .inr rfl
 ·exact hg s 0 h
theorem xc7(fn s:List UInt8)(hs:s.length<=1099511627776)(c:Int)(hc:c=1\/c=2):FnOk Tryz.prog 134 [.d (.str fn),.d (.str s),.d (.int .i64 10),.d (.int .i64 31),ifV c] (.err true):=by
 refine⟨qd Tryz.func134 (by kernel_rfl) rfl,fun M w vs hV hM hl hd=>?_⟩
 match vs,hl with
 |[v0,v1,v2,v3,v4],_ =>
  have h0:=yk (hd 0 _ v0 rfl rfl);have h1:=yk (hd 1 _ v1 rfl rfl);have h2:=ja (hd 2 _ v2 rfl rfl);have h3:=ja (hd 3 _ v3 rfl rfl);have h4:=hd 4 _ v4 rfl rfl;subst h0 h1 h2 h3;have hsz:(⟨s.toArray⟩:ByteArray).size=s.length:=rfl;rcases hc with rfl|rfl
  ·obtain⟨t,x,hcl⟩:=qo3 hV 3 (.inr rfl);cases h4;refine(AnyPu.strconv_toError_range { Try.laysPu14 with } ⟨fn.toArray⟩ ⟨s.toArray⟩ 10 31 _ w (by rw[hsz];omega) hcl (.inr ⟨t,x,rfl⟩)).mono ?_
   rintro e w' ⟨N,rfl,_,_,hb⟩
   exact⟨_,rfl,Step.of_below _ hb,.err _ _ (fun _=>⟨_,_,rfl⟩) (fun h=>by cases h)⟩
  ·obtain⟨t,x,hcl⟩:=qo3 hV 2 (.inl rfl);cases h4;refine(AnyPu.strconv_toError_syntax { Try.laysPu14 with } ⟨fn.toArray⟩ ⟨s.toArray⟩ 10 31 _ w (by rw[hsz];omega) hcl (.inr ⟨t,x,rfl⟩)).mono ?_
   rintro e w' ⟨N,rfl,_,_,hb⟩
   exact⟨_,rfl,Step.of_below _ hb,.err _ _ (fun _=>⟨_,_,rfl⟩) (fun h=>by cases h)⟩
def jf7(s:List UInt8):Nat:=match zh s with
 | .ok n=>n
 | .error c=>if c=1 then 2147483647 else 0
def qp6(s:List UInt8):Bool:=match zh s with
 | .ok _=>false
 | .error _=>true
def p31V:Except Int Nat->SV
 | .ok n=>.tup [.d (.int .u64 n),.v .nilIface]
 | .error c=>.tup [.d (.int .u64 (if c=1 then 2147483647 else 0)),.err true]
theorem xs5(s:List UInt8)(hs:s.length<=1099511627776):FnOk Tryz.prog 99 [.d (.str s),.d (.int .i64 10),.d (.int .i64 31)] (p31V (zh s)):=by
 refine qu (TT:=TT) (IN:=qe []) qg qh mixed 1000 Tryz.func99 rfl (qd Tryz.func99 (by kernel_rfl) rfl) rfl 23 (by kernel_rfl) ?_;have h:=xh0 s hs;cases hn:zh s with
 |ok n =>
  rw [hn] at h;conv=>whnf
  refine oD h rfl rfl ?_;conv=>whnf
  repeat(first|(refine brF rfl ?_;conv=>whnf)|(refine brT rfl ?_;conv=>whnf))
  exact rZ6
 |error c =>
  have hc:=yi7 hn;rw [hn] at h;conv=>whnf
  refine oD h rfl rfl ?_;conv=>whnf
  repeat(first|(refine brF rfl ?_;conv=>whnf)|(refine brT rfl ?_;conv=>whnf))
  refine oD (xc7 _ s hs c hc) rfl rfl ?_;conv=>whnf
  exact rZ6
theorem zo8(s:List UInt8)(hs:s.length<=1099511627776):FnOk Tryz.prog 99 [.d (.str s),.d (.int .i64 10),.d (.int .i64 31)] (.tup [.d (.int .u64 (jf7 s:Nat)),.err (qp6 s)]):=by
 have h:=xs5 s hs;unfold jf7 qp6;cases hn:zh s with
 |ok n =>
  rw [hn] at h;exact FnOk.read h fun w M u hu=>ym7 hu fun v hv=>by cases hv;exact .err _ _ (fun h=>by cases h) (fun _=>rfl)
 |error c =>
  rw [hn] at h;rcases yi7 hn with rfl|rfl
  ·exact h
  ·exact h
theorem zu2(s:List UInt8)(c:UInt8):FnOk Tryz.prog 97 [.d (.str s),.d (.str [c])] (.d (.int .i64 (Lib.indexByte s c))):=by
 refine⟨qd Tryz.func97 (by kernel_rfl) rfl,fun M w vs hV hM hl hd=>?_⟩
 match vs,hl with
 |[v0,v1],_ =>
  have h0:=yk (hd 0 _ v0 rfl rfl);have h1:=yk (hd 1 _ v1 rfl rfl);subst h0 h1;refine(Any.stringslite_Index_one { Try.lays143 with } ⟨s.toArray⟩ c w).mono ?_
  rintro e w' ⟨rfl,rfl⟩
  exact⟨_,rfl,Step.refl _ _,.d (.int _ _)⟩
def cutB(s:List UInt8)(c:UInt8):List UInt8 × List UInt8 × Bool :=
 if Lib.indexByte s c<0 then (s,[],false) else (s.take (Lib.indexByte s c).toNat,s.drop ((Lib.indexByte s c).toNat+1),true)
theorem ji4:∀ (s:List UInt8) (c:UInt8),Lib.indexByte s c<s.length
 |[],_=>by show(-1:Int)<0;omega
 |b :: s,c=>by
  have h1:=ji4 s c;have h2:=Lib.indexByte_ge s c;simp only[Lib.indexByte,ou];split
  ·omega
  ·split <;> omega
theorem je1(s:List UInt8)(c:UInt8)(hs:s.length<=1099511627776):FnOk Tryz.prog 27 [.d (.str s),.d (.str [c])] (.tup [.d (.str (cutB s c).1),.d (.str (cutB s c).2.1),.d (.bool (cutB s c).2.2)]):=by
 refine qu (TT:=TT) (IN:=qe [(59,Tryz.f59,2)]) qg (jh qh Tryz.func59 (by kernel_rfl) (by kernel_rfl)) mixed 1000 Tryz.func27 rfl (qd Tryz.func27 (by kernel_rfl) rfl) rfl 11 (by kernel_rfl) ?_;conv=>whnf
 refine oD (zu2 s c) rfl rfl ?_;have hlt:=ji4 s c;unfold cutB;conv=>whnf
 by_cases h:Lib.indexByte s c<0
 ·refine brF (po (by omega)) ?_;rw[if_pos h];conv=>whnf
  exact⟨rfl,rfl,rfl,trivial⟩
 ·rw[if_neg h];refine brT (pn (by omega)) ?_;generalize Lib.indexByte s c=i at h hlt ⊢;obtain⟨i,rfl⟩:=Int.eq_ofNat_of_zero_le (by omega:0<=i);conv=>whnf
  refine⟨by omega,?_⟩;conv=>whnf
  have e1:IntKind.i64.wrap ((i:Int)+(([c]:List UInt8).length:Nat))=((i+1:Nat):Int):=by rw[qa _ (by simp only[ou,gv];omega)];simp only[ou,gv];omega
  rw[e1];refine⟨by omega,?_⟩;conv=>whnf
  have e2:sub s 0 (i:Int)=s.take i:=by simp[sub]
  have e3:sub s ((i+1:Nat):Int) (s.length:Int)=s.drop (i+1):=by
   unfold sub;rw[px,px,<-o7,mr]
  rw[e2,e3];exact⟨rfl,rfl,rfl,trivial⟩
def atsR:Nat->List UInt8->Bool->List Int->Option (List Int)
 |0,_,_,l=>some l
 |n+1,r,b,l=>bif b then (match zh (cutB r 32).1 with
  | .ok k=>atsR n (cutB r 32).2.1 (cutB r 32).2.2 (l++[(k:Int)])
  | .error _=>none) else some l
def ua(s:List UInt8):Option (Int × Bool × List Int):=match yd 32 (cutB s 32).1 with
 |none=>none
 |some a=>match atsR (s.length+1) (cutB s 32).2.1 (cutB s 32).2.2 [] with
  |none=>none
  |some l=>some ((a:Int),Nat.beq l.length 0,l)
theorem qt3(s:List UInt8)(c:UInt8):(cutB s c).1.length<=s.length/\(cutB s c).2.1.length<=s.length/\((cutB s c).2.2=true->(cutB s c).2.1.length<s.length):=by
 have hl:=ji4 s c;unfold cutB;split
 ·exact⟨pr _,pz _,fun h=>by cases h⟩
 ·refine⟨by simp[lu];omega,by simp[o7],fun _=>?_⟩;simp only[o7];omega
structure StH where
 n:Nat
 r:List UInt8
 b:Bool
 l:List Int
def intF(l:List Int)(j:Nat):List DV:=[.int .i64 (l.getD j 0)]
def hosM(B1 B3:KB)(m:Nat)(G:Nat->List DV):Option (Int × Bool × List Int)->SV × List KB
 |none=>(.d (.bool false),[.cells 79 [.all 1,.all 2],B1,.row 32 2 m .iff G,B3])
 |some h=>(.d (.bool true),[.cells 79 [.all 1,.all 4],B1,.gone,B3,.row 32 2 (m+1) .iff (catF m G (qx (qk0 h) 2))])
def hosK(B1 B3:KB)(m:Nat)(G:Nat->List DV)(s:List UInt8):SV × List KB:=hosM B1 B3 m G (if m=64 then none else ua s)
def hosA(a:Int):Option (List Int)->Option (Int × Bool × List Int)
 |none=>none
 |some l=>some (a,Nat.beq l.length 0,l)
theorem jo5{s:List UInt8}{a:Nat}(h:yd 32 (cutB s 32).1=some a):ua s=hosA a (atsR (s.length+1) (cutB s 32).2.1 (cutB s 32).2.2 []):=by
 unfold ua;rw[h];show(match atsR (s.length+1) (cutB s 32).2.1 (cutB s 32).2.2 [] with|none=>none|some l=>some ((a:Int),Nat.beq l.length 0,l))=_;cases atsR (s.length+1) (cutB s 32).2.1 (cutB s 32).2.2 [] <;> rfl
theorem jr6{n k:Nat}{r:List UInt8}{l:List Int}(h:zh (cutB r 32).1 = .ok k):atsR (n+1) r true l=atsR n (cutB r 32).2.1 (cutB r 32).2.2 (l++[(k:Int)]):=by
 rw[atsR,h];rfl
theorem ys3{n:Nat}{c:Int}{r:List UInt8}{l:List Int}(h:zh (cutB r 32).1 = .error c):atsR (n+1) r true l=none:=by
 rw[atsR,h];rfl
theorem jp4(n:Nat)(r:List UInt8)(l:List Int):atsR n r false l=some l:=by cases n <;> rfl
theorem xf7{s:List UInt8}{k:Nat}(h:zh s = .ok k):k<=2147483647:=by
 unfold zh at h;split at h
 ·cases h
 ·exact yv9 s 0 k (by omega) h
theorem xg7(l:List Int)(k:Int)(i:Nat)(hi:i<l.length+1):catF l.length (intF l) (qx [.int .i64 k] 1) i=intF (l++[k]) i:=by
 unfold catF intF;split
 ·rename_i h;rw[List.getD,List.getD,ot h]
 ·rename_i h;obtain rfl:i=l.length:=by omega
  rw[gq,List.getD,o5 (pr _),gq];rfl
def ZonB(B1 B3:KB):Prop:=(∃ F n l apex,B1 = .rows 58 2 (n+1) F/\B3 = .row 62 5 (List.length l) .iff (rrF l)/\F n=[.d (.str apex),.all 3]/\DatF F n)\/(∃ Y,B1 = .row 58 2 0 .iff Y/\B3 = .gone)
theorem xo7(B1 B3:KB)(hB:ZonB B1 B3)(m:Nat)(G:Nat->List DV)(s:List UInt8)(hm:m<=1000)(hs:s.length<=1000000) :
 COk Tryz.prog 61 [.ptr 0 0,.d (.str s)] [.cells 79 [.all 1,.all 2],B1,.row 32 2 m .iff G,B3]
  (fun r k=>r=(hosK B1 B3 m G s).1/\k=(hosK B1 B3 m G s).2):=by
 have hfin:∀ F n l apex,B1 = .rows 58 2 (n+1) F->B3 = .row 62 5 (List.length l) .iff (rrF l)->F n=[.d (.str apex),.all 3]->DatF F n->∀ ρ:List Nat,posN 3 ρ 0=some 3->∀ i,i<n+1->SubL ((fun i=>renL ρ (F i)) i) (F i):=by
  refine fun F n l apex _ _ hF hD ρ h3=>qt5 hD (fun _ _=>rfl) ?_
  rw[hF];refine⟨rfl,?_,True.intro⟩;show SubV (match posN 3 ρ 0 with|some p=>SV.all p|none=>.any) _;rw[h3];exact rfl
 refine jn (TT:=TT) (IN:=qe []) qg qh mixed 1000 Tryz.func61 rfl (qd Tryz.func61 (by kernel_rfl) rfl) 67 (by kernel_rfl) ?_;generalize hK:hosK B1 B3 m G s=K;rcases hB with⟨F,n,l,apex,rfl,rfl,hF,hD⟩|⟨Y,rfl,rfl⟩
 all_goals
  conv=>whnf
  refine⟨fun h1=>?_,fun h1=>?_⟩
  ·have h1:m=64:=by simp at h1;omega
   rw [hosK,if_pos h1] at hK;subst hK;conv=>whnf
   refine⟨[0,1,2,3],_,_,rfl,rfl,?_,?_,rfl,rfl⟩
   ·exact rfl
   ·conv=>whnf
    repeat'(first|exact ⟨⟩|exact rfl|exact(fun _ _ _ _ h=>⟨y7 _,h⟩)|exact fun _=>Iff.rfl|exact fun _ _=>rfl|apply And.intro)
    all_goals exact hfin _ _ _ _ rfl rfl hF hD _ (by rfl)
  have h1:¬ m=64:=by simp at h1;omega
  rw [hosK,if_neg h1] at hK;conv=>whnf
  refine oD (je1 s 32 (by omega)) rfl rfl ?_;obtain⟨q1,q2,q3⟩:=qt3 s 32;conv=>whnf
  refine oD (yc8 (cutB s 32).1 (by omega)) rfl rfl ?_;conv=>whnf
  refine⟨fun h2=>?_,fun h2=>?_⟩
  ·have h2:yd 32 (cutB s 32).1=none:=Option.isNone_iff_eq_none.1 h2;rw [show ua s=none by unfold ua;rw [h2]] at hK;subst hK;conv=>whnf
   refine⟨[0,1,2,3],_,_,rfl,rfl,?_,?_,rfl,rfl⟩
   ·exact rfl
   ·conv=>whnf
    repeat'(first|exact ⟨⟩|exact rfl|exact(fun _ _ _ _ h=>⟨y7 _,h⟩)|exact fun _=>Iff.rfl|exact fun _ _=>rfl|apply And.intro)
    all_goals exact hfin _ _ _ _ rfl rfl hF hD _ (by rfl)
  obtain⟨a,ha⟩:∃ a,yd 32 (cutB s 32).1=some a:=by
   cases h:yd 32 (cutB s 32).1 with
   |none=>rw [h] at h2;cases h2
   |some a=>exact⟨a,rfl⟩
  have ha2:=qd5 ha;have ha2:a<=4294967295:=ha2;obtain⟨A,hA⟩:∃ A,A=atsR (s.length+1) (cutB s 32).2.1 (cutB s 32).2.2 []:=⟨_,rfl⟩;rw [jo5 ha,<-hA] at hK;rw[show qj5 32 (cutB s 32).1=a from ja8 ha];conv=>whnf
  have hwa:IntKind.u32.wrap (a:Int)=(a:Int):=by rw[IntKind.wrap_u32];omega
  rw[hwa];refine .nilC 4 1 3 1 (fun _=>[]) _ _ _ _ rfl rfl ?_;conv=>whnf
  refine .inv StH (fun x=>atsR x.n x.r x.b x.l=A/\(x.b=true->x.r.length<x.n)/\x.r.length<=1000000/\x.l.length+x.n<=s.length+1) (fun x=>[(5,.any),(6,.d (.str x.r)),(7,.d (.bool x.b))]) (fun x=>[(5,.row 3 1 x.l.length .iff (intF x.l))]) (fun x=>x.n) ⟨⟨s.length+1,(cutB s 32).2.1,(cutB s 32).2.2,[]⟩,[0,1,2,3,4,5],⟨hA.symm,fun h=>by have h2:=q3 h;exact Nat.lt_succ_of_lt h2,by show(cutB s 32).2.1.length<=_;omega,by simp⟩,?_⟩ ?_
  ·conv=>whnf
   repeat'(first|exact ⟨⟩|exact rfl|exact(fun _ _ _ _ h=>⟨y7 _,h⟩)|exact fun _=>Iff.rfl|exact fun _ _=>rfl|apply And.intro)
   all_goals first|exact hfin _ _ _ _ rfl rfl hF hD _ (by rfl)|exact noI
  rintro ⟨fu,r,b,q⟩ ⟨i1,i2,i3,i4⟩
  replace i1:atsR fu r b q=A:=i1;replace i2:b=true->r.length<fu:=i2;replace i3:r.length<=1000000:=i3;replace i4:q.length+fu<=s.length+1:=i4;conv=>whnf
  cases b with
  |false =>
   refine brF rfl ?_;have hA2:A=some q:=by rw[<-i1,jp4]
   rw [hA2] at hK;subst hK;conv=>whnf
   refine⟨by omega,?_⟩;conv=>whnf
   refine⟨[0,1,2,3,7],_,_,rfl,rfl,?_,?_,rfl,rfl⟩
   ·exact rfl
   ·conv=>whnf
    repeat'(first|exact ⟨⟩|exact rfl|exact(fun _ _ _ _ h=>⟨y7 _,h⟩)|exact fun _=>Iff.rfl|exact fun _ _=>rfl|apply And.intro)
    all_goals first|exact hfin _ _ _ _ rfl rfl hF hD _ (by rfl)|exact noI
  |true =>
   refine brT rfl ?_;obtain⟨fu,rfl⟩:∃ k,fu=k+1:=⟨fu - 1,by have h:r.length<fu:=i2 rfl;omega⟩;have i2:r.length<fu+1:=i2 rfl;conv=>whnf
   refine oD (je1 r 32 (by omega)) rfl rfl ?_;obtain⟨p1,p2,p3⟩:=qt3 r 32;conv=>whnf
   refine oD (zo8 (cutB r 32).1 (by omega)) rfl rfl ?_;cases hn:zh (cutB r 32).1 with
   |error c =>
    rw [ys3 hn] at i1;rw[show qp6 (cutB r 32).1=true by unfold qp6;rw[hn]];rw [<-i1] at hK;conv=>whnf
    repeat(first|(refine brF rfl ?_;conv=>whnf)|(refine brT rfl ?_;conv=>whnf))
    subst hK;refine⟨[0,1,2,3],_,_,rfl,rfl,?_,?_,rfl,rfl⟩
    ·exact rfl
    ·conv=>whnf
     repeat'(first|exact ⟨⟩|exact rfl|exact(fun _ _ _ _ h=>⟨y7 _,h⟩)|exact fun _=>Iff.rfl|exact fun _ _=>rfl|apply And.intro)
     all_goals exact hfin _ _ _ _ rfl rfl hF hD _ (by rfl)
   |ok k =>
    rw [jr6 hn] at i1;have hk:=xf7 hn;rw[show qp6 (cutB r 32).1=false by unfold qp6;rw[hn],show jf7 (cutB r 32).1=k by unfold jf7;rw[hn]];conv=>whnf
    repeat(first|(refine brF rfl ?_;conv=>whnf)|(refine brT rfl ?_;conv=>whnf))
    rw[show IntKind.i64.wrap (k:Int)=(k:Int) from qa _ (by omega)];refine⟨(by omega:(q.length+1) * 8<=70368744177664),?_⟩;conv=>whnf
    refine⟨⟨fu,(cutB r 32).2.1,(cutB r 32).2.2,q++[(k:Int)]⟩,[0,1,2,3,4,7],⟨i1,fun h=>by have:=p3 h;show(cutB r 32).2.1.length<fu;omega,by show(cutB r 32).2.1.length<=_;omega,by show(q++[(k:Int)]).length+fu<=_;rw[py];simp;omega⟩,l5 _,?_⟩;conv=>whnf
    repeat'(first|exact ⟨⟩|exact rfl|exact(fun _ _ _ _ h=>⟨y7 _,h⟩)|exact fun _=>Iff.rfl|exact fun _ _=>rfl|apply And.intro)
    all_goals first|exact hfin _ _ _ _ rfl rfl hF hD _ (by rfl)|exact(by rw[py];rfl:q.length+1=(q++[(k:Int)]).length)|exact fun j hj=>xg7 q k j hj
def hostW:List UInt8:=[104,111,115,116,32]
theorem xm3(s:List UInt8)(n:Nat)(h:n<10000000000)(hs:s.length<=1099511627776):COk Tryz.prog 86 [.all 0,.d (.int .u64 n),.d (.int .i64 10)] [.row 5 1 s.length .no (jw s)] (fun r k=>r = .all 1/\k=[.gone,.row 5 1 (s++Lib.decDigits n).length .no (jw (s++Lib.decDigits n))]):=by
 refine jn (TT:=TT) (IN:=qe []) qg qh mixed 1000 Tryz.func86 rfl (qd Tryz.func86 (by kernel_rfl) rfl) 8 (by kernel_rfl) ?_;conv=>whnf
 refine .rel _ (yz7 s n h hs) (fun x ks' hR=>?_);obtain⟨rfl,rfl⟩:=hR;conv=>whnf
 refine⟨[0,1],_,_,rfl,rfl,?_,?_,rfl,rfl⟩
 ·exact rfl
 ·conv=>whnf
  exact rZ10
theorem xh3:∀ x,x<5->qx ([104,111,115,116,32].map (DV.int .u8)) 1 x=jw hostW x
 |0,_=>rfl
 |1,_=>rfl
 |2,_=>rfl
 |3,_=>rfl
 |4,_=>rfl
 |x+5,h=>absurd h (by omega)
theorem xm4(n:Nat)(h:n<10000000000):COk Tryz.prog 86 [.all 0,.d (.int .u64 n),.d (.int .i64 10)] [.row 5 1 5 .no (qx ([104,111,115,116,32].map (DV.int .u8)) 1)] (fun r k=>r = .all 1/\k=[.gone,.row 5 1 (hostW++Lib.decDigits n).length .no (jw (hostW++Lib.decDigits n))]) :=
 COk.rowPre (q:=0) rfl xh3 (xm3 hostW n h (by decide))
def atsT(l:List Int):List UInt8:=l.flatMap fun a=>32 :: Lib.decDigits a.toNat
def yy(h:Int × Bool × List Int):List UInt8:=hostW++Lib.decDigits h.1.toNat++atsT h.2.2
def xv1(h:Int × Bool × List Int):SV:=.agg ((qk0 h).map .d)
theorem jc3{l:List Int}(h:∀ a ∈ l,0<=a/\a<10000000000):(atsT l).length<=11 * l.length:=by
 induction l with
 |nil=>exact pr _
 |cons a l ih =>
  have h1:=ih fun b hb=>h b (.tail _ hb)
  have h2:=h a (.head _);have h3:=qe6 a.toNat (by omega);show(32 :: Lib.decDigits a.toNat++atsT l).length<=_;simp only[py,ou];omega
theorem xq3(b:List UInt8)(n:Nat)(h:n<10000000000)(hb:b.length<=549755813888):COk Tryz.prog 87 [.all 0,.d (.int .i64 n),.d (.int .i64 10)] [.row 5 1 (b.length+1) .no (catF b.length (jw b) (qx [DV.int .u8 32] 1))]
 (fun r k=>r = .all 1/\k=[.gone,.row 5 1 (b++32 :: Lib.decDigits n).length .no (jw (b++32 :: Lib.decDigits n))]):=by
 have e:(b++[32]).length=b.length+1:=by simp
 have h1:=xt6 (b++[32]) n h (by omega);rw [e] at h1;have h2:=COk.rowPre (k0:=[.row 5 1 (b.length+1) .no (catF b.length (jw b) (qx [DV.int .u8 32] 1))]) (q:=0) (g:=catF b.length (jw b) (qx [DV.int .u8 32] 1)) rfl (fun x hx=>qh6 b 32 x hx) h1;exact h2.imp fun r k ⟨a,b⟩=>⟨a,by rw[b,m9];rfl⟩
theorem xa9(l:List Int)(a:Int):atsT (l++[a])=atsT l++32 :: Lib.decDigits a.toNat:=by unfold atsT;simp
theorem zk7(h:Int × Bool × List Int)(ha:0<=h.1/\h.1<=4294967295)(hz:∀ a ∈ h.2.2,0<=a/\a<10000000000)(hl:h.2.2.length<=4294967296):FnOk Tryz.prog 50 [xv1 h] (.d (.str (yy h))):=by
 obtain⟨a,z,l⟩:=h;refine qu (TT:=TT) (IN:=qe []) qg qh mixed 1000 Tryz.func50 rfl (qd Tryz.func50 (by kernel_rfl) rfl) rfl 27 (by kernel_rfl) ?_;obtain⟨n,rfl⟩:∃ n:Nat,a=n:=⟨a.toNat,by have:=ha.1;show a=(a.toNat:Int);omega⟩;have hn:n<10000000000:=by have h:(n:Int)<=4294967295:=ha.2;omega
 have hpl:(hostW++Lib.decDigits n).length<=15:=by have:=qe6 n hn;rw[py];show 5+_<=_;omega
 conv=>whnf
 rw[show IntKind.u64.wrap (n:Int)=n by rw[IntKind.wrap_u64];omega];refine .rel _ (COk.frameX (xm4 n hn) [2] rfl rfl rfl) (fun x ks' hR=>?_);obtain⟨_,_,⟨rfl,rfl⟩,rfl,rfl⟩:=hR;conv=>whnf
 have e0:hostW++Lib.decDigits n++atsT (l.take 0)=hostW++Lib.decDigits n:=by simp[atsT]
 refine .inv Nat (fun i=>i<=l.length) (fun i=>[(3,.all 3),(11,.any),(15,.d (.int .i64 i))]) (fun i=>[(3,.row 5 1 (hostW++Lib.decDigits n++atsT (l.take i)).length .no (jw (hostW++Lib.decDigits n++atsT (l.take i))))]) (fun i=>l.length - i) ⟨0,[0,1,2,3],pz _,?_⟩ ?_
 ·conv=>whnf
  repeat'(first|exact ⟨⟩|exact rfl|exact fun _=>Iff.rfl|exact fun _ _=>rfl|exact renM_rests _ _|exact(py ..).symm|exact qk9 _ _|apply And.intro)
  all_goals first|exact(congrArg List.length e0).symm|(intro i _;rw[e0])
 intro i hi;have hB:(hostW++Lib.decDigits n++atsT (l.take i)).length<=549755813888:=by
  have:=jc3 (l:=l.take i) fun a ha=>hz a (gt ha)
  have h2:(l.take i).length<=l.length:=by rw[lu];omega
  have h3:l.length<=4294967296:=hl;rw[py];omega
 obtain⟨B,hBd⟩:∃ B,B=hostW++Lib.decDigits n++atsT (l.take i):=⟨_,rfl⟩;rw [<-hBd] at hB ⊢;conv=>whnf
 refine⟨fun c0=>?_,fun c0=>?_⟩
 ·have c0':i<l.length:=(by have h:(i:Int)<l.length:=pu c0;omega);obtain⟨a,hq⟩:∃ a,l.getD i 0=a:=⟨_,rfl⟩;have hq2:l[i]? = some a:=by rw[<-hq,List.getD,pp c0'];rfl
  have hza:=hz a (ov hq2);obtain⟨m,rfl⟩:∃ m:Nat,a=m:=⟨a.toNat,by omega⟩;have htk:hostW++Lib.decDigits n++atsT (l.take (i+1))=B++32 :: Lib.decDigits m:=by
   rw[mp,hq2,hBd];show hostW++Lib.decDigits n++atsT (l.take i++[(m:Int)])=_;rw[xa9,m9,m9,m9];rfl
  conv=>whnf
  refine⟨by show 0<=(i:Int)/\(i:Int)<(l.length:Int);omega,?_⟩;conv=>whnf
  refine⟨by omega,?_⟩;conv=>whnf
  rw[px];have hg:((↑n,z,l):Int × Bool × List Int).2.2.getD i 0=(m:Int):=hq;rw[hg];refine .rel _ (COk.frameX (xq3 B m (by omega) hB) [5] rfl rfl rfl) (fun x ks' hR=>?_);obtain⟨_,_,⟨rfl,rfl⟩,rfl,rfl⟩:=hR;conv=>whnf
  have hw1:IntKind.i64.wrap ((i:Int)+1)=((i+1:Nat):Int):=by rw[qa _ (by have:=hl;show _<=(i:Int)+1/\_;have h3:l.length<=4294967296:=hl;omega)];omega
  refine⟨i+1,[0,1,2,6],c0',by omega,?_⟩;rw[htk];conv=>whnf
  rw[hw1];exact rZ10
 ·have c0':i=l.length:=(by have h:¬ (i:Int)<l.length:=pw c0;omega);subst c0';rw [mr] at hBd;have hfin:yy ((n:Int),z,l)=B:=by rw[hBd];rfl
  rw[hfin];conv=>whnf
  refine⟨fun i _=>⟨_,rfl⟩,?_⟩;rw[qc6];conv=>whnf
  try exact rfl
def ko(z:Zo):List UInt8:=[122,111,110,101,32]++txtN z.apex
def yn(l:List RR):List UInt8:=l.flatMap fun r=>r.line++[10]
def qo5(z:Zo):List UInt8:=ko z++[10]++yn z.rrs
def yu(l:List Zo):List UInt8:=l.flatMap qo5
def yw(l:List (Int × Bool × List Int)):List UInt8:=l.flatMap fun h=>yy h++[10]
def Fo.text(f:Fo):List UInt8:=yu f.zones++yw f.hosts
def za(f:Fo):List UInt8 × Int:=if f.ok then (f.text,0) else ([],2)
structure Fo.In(f:Fo):Prop where
 rr:∀ z ∈ f.zones,∀ r ∈ z.rrs,r.In
 addr:∀ h ∈ f.hosts,0<=h.1/\h.1<=4294967295
 len:∀ h ∈ f.hosts,h.2.2.length<=4294967296
theorem Fo.In.Len{f:Fo}(h:f.In):f.Len:=fun a ha=>by have:=h.len a ha;omega
theorem zj0(l:List RR)(r:RR):yn (l++[r])=yn l++r.line++[10]:=by unfold yn;simp
theorem zh7(l:List Zo)(z:Zo):yu (l++[z])=yu l++qo5 z:=by unfold yu;simp
theorem zk8(l:List (Int × Bool × List Int))(h:Int × Bool × List Int):yw (l++[h])=yw l++yy h++[10]:=by unfold yw;simp
theorem yc4{l:List RR}(h:∀ r ∈ l,r.line.length<=9300):(yn l).length<=9301 * l.length:=by
 induction l with
 |nil=>exact pr _
 |cons a l ih =>
  have h1:=ih fun b hb=>h b (.tail _ hb)
  have h2:=h a (.head _);show((a.line++[10])++yn l).length<=_;simp only[py,ou,gv];omega
theorem Zo.ok_rr{z:Zo}(h:z.ok=true):∀ r ∈ z.rrs,r.check=true:=fun r hr=>by
 unfold Zo.ok at h;simp only [p8,lx] at h;have:=l8.1 h.2.2.1 r hr;unfold zb at this;simp only [p8] at this;exact this.2.2.2.1
theorem zs9{z:Zo}(h:z.ok=true)(hi:∀ r ∈ z.rrs,r.In):(qo5 z).length<=2400000:=by
 have h1:=Zo.ok_len h;have h2:=ja9 (Zo.ok_name h);have h3:=yc4 (l:=z.rrs) fun r hr=>qs6 (Zo.ok_rr h r hr) (hi r hr)
 unfold qo5 ko;simp only[py,ou,gv];omega
structure Fo.Okf(f:Fo):Prop where
 one:1<=f.zones.length
 nz:f.zones.length<=64
 nh:f.hosts.length<=64
 zone:∀ z ∈ f.zones,z.ok=true
 host:∀ h ∈ f.hosts,∀ a ∈ h.2.2,0<=a/\a<64
abbrev Ho:=Int × Bool × List Int
def jy(zs:List Zo):Zo:=zs.getD (zs.length - 1) default
def zF(zs:List Zo)(q i:Nat):List SV:=if i+1=zs.length then [.d (.str (zs.getD i default).apex),.all q] else (Zo.enc (zs.getD i default)).map .d
def zE(zs:List Zo)(i:Nat):List DV:=(zs.getD i default).enc
def hF(hs:List Ho)(i:Nat):List DV:=qk0 (hs.getD i default)
def zB(q:Nat):List Zo->KB
 |[]=>.row 58 2 0 .iff (zE [])
 |a :: l=>.rows 58 2 (l.length+1) (zF (a :: l) q)
def rB:List Zo->KB
 |[]=>.gone
 |a :: l=>.row 62 5 (jy (a :: l)).rrs.length .iff (rrF (jy (a :: l)).rrs)
def hB(hs:List Ho):KB:=.row 32 2 hs.length .iff (hF hs)
def rdK(zs:List Zo)(hs:List Ho):List KB:=[.cells 79 [.all 1,.all 2],zB 3 zs,hB hs,rB zs]
def uf:List KB:=[.gone,.gone,.gone,.gone]
def wb(zs:List Zo)(hs:List Ho)(s:List UInt8):Option (List Zo):=if 0<hs.length\/zs.length=64\/(jx s).2≠0 then none else some (zs++[⟨(jx s).1,true,[]⟩])
def recP(zs:List Zo)(hs:List Ho)(s:List UInt8):Option (List Zo):=if zs=[]\/0<hs.length\/(jy zs).rrs.length=256 then none else match y3 s with
 |none=>none
 |some r=>some (zs.set (zs.length - 1) ⟨(jy zs).apex,false,(jy zs).rrs++[r]⟩)
def hosP(hs:List Ho)(s:List UInt8):Option (List Ho):=if hs.length=64 then none else match ua s with
 |none=>none
 |some h=>some (hs++[h])
theorem yx4(a:Zo)(l:List Zo)(q:Nat):DatF (zF (a :: l) q) l.length:=fun i hi=>⟨((a :: l).getD i default).enc,by unfold zF;rw[if_neg (by simp only[ou];omega)]⟩
theorem jp7(a:Zo)(l:List Zo)(q:Nat):zF (a :: l) q l.length=[.d (.str (jy (a :: l)).apex),.all q]:=if_pos rfl
def Nz(zs:List Zo):Prop:=∀ z ∈ zs,z.z=Nat.beq z.rrs.length 0
theorem qn0(k:List KB)(hk:k.length=4)(X:Nat->Prop)(w:World)(β:Env)(fp:Nat->Nat->Prop)(hM:Mem X w β fp k):∃ β' fp',Went X w β fp w β' fp' uf:=by
 match k,hk with
 |[a,b,c,d],_=>exact⟨_,_,hM.gone [0,1,2,3]⟩
def jt2(zs:List Zo)(hs:List Ho):List KB:=[.cells 79 [.all 4,.all 2],.gone,hB hs,.gone,.rows 58 2 zs.length (zF zs 5),.row 62 5 0 .iff (rrF [])]
theorem yz9(z:Z)(zs:List Zo)(hs:List Ho)(s:List UInt8)(hN:zs.length<=1000) :
 COk Tryz.prog 60 [.ptr 0 0,.d (.str s)] (rdD z zs.length (zE zs) hs.length (hF hs)) (fun r k=>(wb zs hs s=none/\r = .d (.bool false)/\k=uf)\/∃ zs',wb zs hs s=some zs'/\r = .d (.bool true)/\k=jt2 zs' hs):=by
 refine(xo3 z zs.length (zE zs) hs.length (hF hs) s hN).behind fun r k ⟨h1,h2⟩=>.inr ?_
 unfold zonK at h1 h2;unfold wb;split at h1
 ·rename_i h;rw [if_pos h] at h2 ⊢;exact⟨uf,.inl ⟨rfl,h1,rfl⟩,fun X w β fp hM=>qn0 k (by rw[h2];rfl) X w β fp hM⟩
 ·rename_i h;rw [if_neg h] at h2 ⊢;refine⟨_,.inr ⟨_,rfl,h1,rfl⟩,fun X w β fp hM=>?_⟩;rw [h2] at hM;have hl:(zs++[(⟨(jx s).1,true,[]⟩:Zo)]).length=zs.length+1:=by rw[py];rfl
  have:=hM.thawNil (i:=4) (p:=zs.length) (c:=1) (e2:=62) (sz2:=5) (g:=rrF []) (sz1:=0) (g1:=fun _=>[]) (F':=zF (zs++[⟨(jx s).1,true,[]⟩]) 5) rfl (l5 _) ?_ ?_ ?_
  ·unfold jt2;rw[hl];exact this
  ·intro k hk;unfold catF;split
   ·rfl
   ·obtain rfl:k=zs.length:=by omega
    rw[gq];rfl
  ·unfold catF;rw[if_neg (c9 _),gq];rfl
  ·intro k hk;unfold zF;rw[hl];by_cases hkn:k=zs.length
   ·subst hkn;rw[if_pos rfl,if_pos rfl];unfold catF;rw[if_neg (c9 _),gq,List.getD,o5 (pr _),gq];rfl
   ·rw[if_neg (by omega),if_neg hkn];unfold catF;rw[if_pos (by omega),List.getD,ot (by omega)]
    rfl
theorem yw0(a:Zo)(l:List Zo)(hs:List Ho)(hz:Nz (a :: l)){X:Nat->Prop}{w:World}{β:Env}{fp:Nat->Nat->Prop}(hM:Mem X w β fp (rdK (a :: l) hs)):∃ β' fp',Went X w β fp w β' fp' (rdD .no (a :: l).length (zE (a :: l)) hs.length (hF hs)):=by
 refine hM.freeze (i:=1) (q:=3) (F:=zF (a :: l) 3) (G:=zE (a :: l)) (n:=l.length+1) rfl rfl (by decide) (fun k _=>rfl) ?_;intro k j d hk hd;by_cases hkl:k=l.length
 ·subst hkl;have hzz:=hz (jy (a :: l)) (by
   unfold jy;rw[List.getD,pp (by simp)];exact d5 _)
  rw[jp7];match j,hd with
  |0,hd=>cases hd;exact .inl rfl
  |1,hd =>
   cases hd;refine .inr ⟨rfl,?_⟩;show rrsD (jy (a :: l)).z (jy (a :: l)).rrs=_;rw[hzz];rfl
  |j+2,hd=>cases hd
 ·refine .inl ?_;unfold zF;rw[if_neg (by simp only[ou];omega),o4];show Option.map _ ((zE (a :: l) k)[j]?)=_;rw[hd];rfl
theorem xk8(zs:List Zo)(hs:List Ho)(s:List UInt8)(hN:zs.length<=1000)(hz:Nz zs) :
 COk Tryz.prog 60 [.ptr 0 0,.d (.str s)] (rdK zs hs) (fun r k=>(wb zs hs s=none/\r = .d (.bool false)/\k=uf)\/∃ zs',wb zs hs s=some zs'/\r = .d (.bool true)/\k=jt2 zs' hs):=by
 cases zs with
 |nil=>exact yz9 .iff [] hs s hN
 |cons a l=>exact(yz9 .no (a :: l) hs s hN).ahead fun X w β fp hM=>yw0 a l hs hz hM
def zb5(zs:List Zo)(hs:List Ho)(G:Nat->List DV):List KB:=[.cells 79 [.all 1,.all 4],zB 3 zs,.gone,rB zs,.row 32 2 hs.length .iff G]
theorem zonB(zs:List Zo):ZonB (zB 3 zs) (rB zs):=by
 cases zs with
 |nil=>exact .inr ⟨_,rfl,rfl⟩
 |cons a l=>exact .inl ⟨_,_,_,_,rfl,rfl,jp7 a l 3,yx4 a l 3⟩
theorem xn8(zs:List Zo)(hs:List Ho)(s:List UInt8)(hm:hs.length<=1000)(hsl:s.length<=1000000) :
 COk Tryz.prog 61 [.ptr 0 0,.d (.str s)] (rdK zs hs) (fun r k=>(hosP hs s=none/\r = .d (.bool false)/\k=uf)\/∃ hs' G,hosP hs s=some hs'/\r = .d (.bool true)/\k=zb5 zs hs' G/\∀ i,i<hs'.length->G i=hF hs' i):=by
 refine(xo7 (zB 3 zs) (rB zs) (zonB zs) hs.length (hF hs) s hm hsl).behind fun r k ⟨h1,h2⟩=>?_
 unfold hosK at h1 h2;unfold hosP;by_cases h:hs.length=64
 ·rw [if_pos h] at h1 h2 ⊢;exact .inr ⟨uf,.inl ⟨rfl,h1,rfl⟩,fun X w β fp hM=>qn0 k (by rw[h2];rfl) X w β fp hM⟩
 ·rw [if_neg h] at h1 h2 ⊢;cases hp:ua s with
  |none =>
   rw [hp] at h1 h2;exact .inr ⟨uf,.inl ⟨rfl,h1,rfl⟩,fun X w β fp hM=>qn0 k (by rw[h2];rfl) X w β fp hM⟩
  |some x =>
   rw [hp] at h1 h2;refine .inl (.inr ⟨_,catF hs.length (hF hs) (qx (qk0 x) 2),rfl,h1,?_,?_⟩)
   ·rw[h2];unfold zb5;rw[py];rfl
   ·intro i hi;rw [py] at hi;have hi:i<hs.length+1:=hi;unfold catF hF;split
    ·rename_i h;rw[List.getD,List.getD,ot h]
    ·rename_i h;obtain rfl:i=hs.length:=by omega
     rw[gq,List.getD,o5 (pr _),gq];rfl
def za6(zs:List Zo)(hs:List Ho)(F:Nat->List SV):List KB:=[.cells 79 [.all 1,.all 2],.rows 58 2 zs.length F,hB hs,.gone,.row 62 5 (jy zs).rrs.length .iff (rrF (jy zs).rrs)]
theorem xh9(hs:List Ho)(s:List UInt8):COk Tryz.prog 62 [.ptr 0 0,.d (.str s)] (rdK [] hs) (fun r k=>r = .d (.bool false)/\k=rdK [] hs):=by
 refine jn (TT:=TT) (IN:=qe []) qg qh mixed 1000 Tryz.func62 rfl (qd Tryz.func62 (by kernel_rfl) rfl) 63 (by kernel_rfl) ?_;conv=>whnf
 repeat(first|(refine brF rfl ?_;conv=>whnf)|(refine brT rfl ?_;conv=>whnf))
 refine⟨[0,1,2,3],_,_,rfl,rfl,?_,?_,rfl,rfl⟩
 ·exact rfl
 ·conv=>whnf
  exact rZ11
theorem xs0(zs:List Zo)(hs:List Ho)(s:List UInt8)(hN:zs.length<=1000)(hl:(jy zs).rrs.length<=1000)(hsl:s.length<=1000000) :
 COk Tryz.prog 62 [.ptr 0 0,.d (.str s)] (rdK zs hs) (fun r k=>(recP zs hs s=none/\r = .d (.bool false)/\k=uf)\/∃ zs' F,recP zs hs s=some zs'/\r = .d (.bool true)/\k=za6 zs' hs F/\zs'.length=zs.length/\∀ i,i<zs'.length->F i=zF zs' 4 i):=by
 cases zs with
 |nil =>
  refine(xh9 hs s).behind fun r k ⟨h1,h2⟩=>?_
  exact .inr ⟨uf,.inl ⟨by unfold recP;rw[if_pos (.inl rfl)],h1,rfl⟩,fun X w β fp hM=>qn0 k (by rw[h2];rfl) X w β fp hM⟩
 |cons a l =>
  have hlast:=jp7 a l 3;have hN':l.length+1<=1000:=hN;refine(xo4 (zF (a :: l) 3) l.length hs.length (hF hs) (jy (a :: l)).rrs (jy (a :: l)).apex s hlast (yx4 a l 3) (by omega) hl hsl).behind fun r k ⟨h1,h2⟩=>?_
  unfold recK at h1 h2;unfold recP;by_cases h:0<hs.length\/(jy (a :: l)).rrs.length=256
  ·rw [if_pos h] at h1 h2;rw[if_pos (.inr h)];exact .inr ⟨uf,.inl ⟨rfl,h1,rfl⟩,fun X w β fp hM=>qn0 k (by rw[h2];rfl) X w β fp hM⟩
  ·rw [if_neg h] at h1 h2;rw[if_neg (by rintro (h'|h');exact absurd h' (by simp);exact h h')];cases hp:y3 s with
   |none =>
    rw [hp] at h1 h2;exact .inr ⟨uf,.inl ⟨rfl,h1,rfl⟩,fun X w β fp hM=>qn0 k (by rw[h2];rfl) X w β fp hM⟩
   |some x =>
    rw [hp] at h1 h2;have hset:jy ((a :: l).set ((a :: l).length - 1) ⟨(jy (a :: l)).apex,false,(jy (a :: l)).rrs++[x]⟩)=⟨(jy (a :: l)).apex,false,(jy (a :: l)).rrs++[x]⟩:=by
     conv=>lhs;unfold jy
     rw[gn,List.getD,oq,if_pos rfl,if_pos (by simp)]
     rfl
    refine .inl (.inr ⟨_,oneS l.length 1 [.all 4] (zF (a :: l) 3),rfl,h1,?_,gn,?_⟩)
    ·rw[h2];unfold za6;rw[hset,gn];rfl
    ·intro i hi;rw [gn] at hi;have hi:i<l.length+1:=hi;by_cases hil:i=l.length
     ·subst hil;rw[jq4 _ _ _ _ _ hlast];unfold zF;rw[gn,if_pos (show l.length+1=(a :: l).length from rfl),List.getD,oq,if_pos (show(a :: l).length - 1=l.length from rfl),if_pos (by simp)]
      rfl
     ·rw[jd4 _ _ (by omega)];unfold zF;rw[gn,if_neg (by simp only[ou];omega),if_neg (by simp only[ou];omega),List.getD,List.getD,oq,if_neg (by simp only[ou];omega)]
theorem Fo.ok_f{f:Fo}(h:f.ok=true):f.Okf:=by
 unfold Fo.ok at h;simp only [p8,lx] at h;obtain⟨h1,h2,h3,h4,_,_,_,h5⟩:=h;refine⟨h1,h2,h3,l8.1 h4,fun a ha b hb=>?_⟩;unfold zi at h5;simp only [p8] at h5;have:=l8.1 (l8.1 h5.2 a ha) b hb;simp only [p8,lx] at this;omega
theorem wsK(b s:List UInt8)(hs:b.length+s.length<=70368744177664):COk Tryz.prog 20 [.ptr 0 0,.d (.str s)] [bK b] (fun r k=>r = .tup [.d (.int .i64 s.length),.v .nilIface]/\k=[pk (Bst.fl (.live (b++s)))]):=by
 cases b with
 |nil =>
  refine(yy6 (xt3 s (by simpa using hs))).imp fun r k ⟨b1,h1,h2,h3⟩=>?_
  subst h1 h3;exact⟨h2,rfl⟩
 |cons c r =>
  refine(COk.thing Bst.fl (qv5 (c :: r) s hs) [] [] _ rfl rfl).imp fun r k ⟨s0,a1,⟨h1,h2⟩,h3,h4⟩=>?_
  subst h1 h2;exact⟨by rw[h3];rfl,by rw[h4];rfl⟩
theorem wsL(b s:List UInt8)(hs:b.length+s.length<=70368744177664):COk Tryz.prog 20 [.ptr 0 0,.d (.str s)] [pk (Bst.fl (.live b))] (fun r k=>r = .tup [.d (.int .i64 s.length),.v .nilIface]/\k=[pk (Bst.fl (.live (b++s)))]):=by
 refine(COk.thing Bst.fl (qv5 b s hs) [] [] _ rfl rfl).imp fun r k ⟨s0,a1,⟨h1,h2⟩,h3,h4⟩=>?_
 subst h1 h2;exact⟨by rw[h3];rfl,by rw[h4];rfl⟩
theorem wbL(b:List UInt8)(hs:b.length+1<=70368744177664):COk Tryz.prog 21 [.ptr 0 0,.d (.int .u8 10)] [pk (Bst.fl (.live b))] (fun r k=>r = .v .nilIface/\k=[pk (Bst.fl (.live (b++[10])))]):=by
 refine(COk.thing Bst.fl (ym b 10 hs) [] [] _ rfl rfl).imp fun r k ⟨s0,a1,⟨h1,h2⟩,h3,h4⟩=>?_
 subst h1 h2;exact⟨by rw[h3];rfl,by rw[h4];rfl⟩
theorem yb3{l:List Zo}(h:∀ z ∈ l,z.ok=true/\∀ r ∈ z.rrs,r.In):(yu l).length<=2400000 * l.length:=by
 induction l with
 |nil=>exact pr _
 |cons a l ih =>
  have h1:=ih fun b hb=>h b (.tail _ hb)
  have h2:=zs9 (h a (.head _)).1 (h a (.head _)).2;show(qo5 a++yu l).length<=_;simp only[py,ou];omega
theorem zs8{l:List Zo}(h:1<=l.length):yu l≠[]:=by
 cases l with
 |nil=>exact absurd h (by simp)
 |cons a l=>show(122 :: _)≠[];simp
theorem jm1{h:Int × Bool × List Int}(ha:0<=h.1/\h.1<=4294967295)(hz:∀ a ∈ h.2.2,0<=a/\a<10000000000)(hl:h.2.2.length<=4294967296):(yy h).length<=47244640300:=by
 have h1:=qe6 h.1.toNat (by omega);have h2:=jc3 hz;unfold yy;simp only[py];show 5+_+_<=_;omega
theorem yd7{l:List (Int × Bool × List Int)}(h:∀ a ∈ l,(yy a).length<=47244640300):(yw l).length<=47244640301 * l.length:=by
 induction l with
 |nil=>exact pr _
 |cons a l ih =>
  have h1:=ih fun b hb=>h b (.tail _ hb)
  have h2:=h a (.head _);show(yy a++[10]++yw l).length<=_;simp only[py,ou,gv];omega
theorem jo7(f:Fo)(hf:f.Fit)(hi:f.In):FnOk Tryz.prog 8 [f.V] (.tup [.d (.str (za f).1),.d (.int .i64 (za f).2)]):=by
 refine qu (TT:=TT) (IN:=qe [(19,Tryz.f19,1),(47,Tryz.f47,2)]) qg (jh (jh qh Tryz.func47 (by kernel_rfl) (by kernel_rfl)) Tryz.func19 (by kernel_rfl) (by kernel_rfl)) mixed 1000 Tryz.func8 rfl (qd Tryz.func8 (by kernel_rfl) rfl) rfl 22 (by kernel_rfl) ?_;conv=>whnf
 refine oD (yj9 f hf hi.Len) rfl rfl ?_;cases hok:f.ok with
 |false =>
  rw[show za f=([],2) by unfold za;rw[hok];rfl,if_neg (by decide)];conv=>whnf
  repeat(first|(refine brF rfl ?_;conv=>whnf)|(refine brT rfl ?_;conv=>whnf))
  exact rZ6
 |true =>
  have hk:=Fo.ok_f hok;rw[show za f=(f.text,0) by unfold za;rw[hok];rfl,if_pos rfl];conv=>whnf
  repeat(first|(refine brF rfl ?_;conv=>whnf)|(refine brT rfl ?_;conv=>whnf))
  refine .inv Nat (fun i=>i<=f.zones.length) (fun i=>[(14,.d (.int .i64 i))]) (fun i=>[(3,bK (yu (f.zones.take i)))]) (fun i=>f.zones.length - i) ⟨0,[0,1,2,3,4,5],pz _,?_⟩ ?_
  ·conv=>whnf
   exact rZ11
  intro i hil;have hTl:=yb3 (l:=f.zones.take i) fun z hz=>⟨hk.zone z (gt hz),hi.rr z (gt hz)⟩
  have hTk:(f.zones.take i).length<=64:=by have:=hk.nz;rw[lu];omega
  obtain⟨T,hT⟩:∃ T,T=yu (f.zones.take i):=⟨_,rfl⟩;rw [<-hT] at hTl ⊢;rcases T with _|⟨c1,T⟩
  all_goals
   conv=>whnf
   refine⟨fun c0=>?_,fun c0=>?_⟩
   ·have c0':i<f.zones.length:=(by have h:(i:Int)<f.zones.length:=pu c0;omega);obtain⟨z,hz⟩:∃ z,f.zones.getD i default=z:=⟨_,rfl⟩;have hz2:f.zones[i]? = some z:=by rw[<-hz,List.getD,pp c0'];rfl
    have hzm:=ov hz2;have hzo:=hk.zone z hzm;have hzi:=hi.rr z hzm;have hn:=Zo.ok_name hzo;have hnl:=ja9 hn;have hzl:(ko z).length<=1100:=by unfold ko;rw[py];show 5+_<=_;omega
    have hrl:=Zo.ok_len hzo;conv=>whnf
    refine⟨by omega,?_⟩;conv=>whnf
    rw[px,hz];refine oD (yo3 z.apex) rfl rfl ?_;rw[show qo0 z.apex=(txtN z.apex,0) from if_pos hn];conv=>whnf
    refine⟨by show 5+(txtN z.apex).length<=_;omega,?_⟩;conv=>whnf
    repeat(first|(refine brF rfl ?_;conv=>whnf)|(refine brT rfl ?_;conv=>whnf))
    first
     |refine .rel _ (COk.frameX (wsK (c1 :: T) (ko z) (by simp only [ou] at hTl ⊢;omega)) [3] rfl rfl rfl) (fun x ks' hR=>?_)
     |refine .rel _ (COk.frameX (wsK [] (ko z) (by simp only[gv];omega)) [3] rfl rfl rfl) (fun x ks' hR=>?_)
    obtain⟨_,_,⟨rfl,rfl⟩,rfl,rfl⟩:=hR;conv=>whnf
    refine .rel _ (COk.frameX (wbL _ (by simp only [py,ou,gv] at hTl ⊢;omega)) [3] rfl rfl rfl) (fun x ks' hR=>?_);obtain⟨_,_,⟨rfl,rfl⟩,rfl,rfl⟩:=hR;conv=>whnf
    repeat(first|(refine brF rfl ?_;conv=>whnf)|(refine brT rfl ?_;conv=>whnf))
    obtain⟨B,hB⟩:∃ B,B=yu (f.zones.take i)++ko z++[10]:=⟨_,rfl⟩;have hBl:B.length<=2400000 * 64+1101:=by rw [hB,<-hT];simp only [py,ou,gv] at hTl ⊢;omega
    have hB0:=hB;rw [<-hT] at hB;rw[<-hB];refine .inv Nat (fun j=>j<=z.rrs.length) (fun j=>[(33,.d (.int .i64 j))]) (fun j=>[(3,pk (Bst.fl (.live (B++yn (z.rrs.take j)))))]) (fun j=>z.rrs.length - j) ⟨0,[0,1,2,3,4,5,6],pz _,?_⟩ ?_
    ·rw[show B++yn (z.rrs.take 0)=B by simp[yn]];conv=>whnf
     exact rZ11
    intro j hj;have hDl:=yc4 (l:=z.rrs.take j) fun r hr=>qs6 (Zo.ok_rr hzo r (gt hr)) (hzi r (gt hr))
    have hDk:(z.rrs.take j).length<=256:=by rw[lu];omega
    obtain⟨D,hD⟩:∃ D,D=B++yn (z.rrs.take j):=⟨_,rfl⟩;have hDD:D.length<=B.length+2400000:=by rw[hD,py];omega
    rw[<-hD];conv=>whnf
    refine⟨fun c1=>?_,fun c1=>?_⟩
    ·have c1':j<z.rrs.length:=(by have h:(j:Int)<z.rrs.length:=pu c1;omega);obtain⟨r,hr⟩:∃ r,z.rrs.getD j default=r:=⟨_,rfl⟩;have hr2:z.rrs[j]? = some r:=by rw[<-hr,List.getD,pp c1'];rfl
     have hrm:=ov hr2;have hrc:=Zo.ok_rr hzo r hrm;have hri:=hzi r hrm;have hrl:=qs6 hrc hri;have htk:B++yn (z.rrs.take (j+1))=D++r.line++[10]:=by rw[mp,hr2,hD];show B++yn (z.rrs.take j++[r])=_;rw[zj0];simp
     have hw1:=w64s j (by omega);conv=>whnf
     refine⟨by omega,?_⟩;conv=>whnf
     rw[px,hr];refine oD (yv0 r hri) rfl rfl ?_;rw[show r.lineV=(r.line,0) by unfold RR.lineV;rw[hrc];rfl];conv=>whnf
     repeat(first|(refine brF rfl ?_;conv=>whnf)|(refine brT rfl ?_;conv=>whnf))
     refine .rel _ (COk.frameX (wsL D r.line (by omega)) [3] rfl rfl rfl) (fun x ks' hR=>?_);obtain⟨_,_,⟨rfl,rfl⟩,rfl,rfl⟩:=hR;conv=>whnf
     refine .rel _ (COk.frameX (wbL (D++r.line) (by rw[py];omega)) [3] rfl rfl rfl) (fun x ks' hR=>?_);obtain⟨_,_,⟨rfl,rfl⟩,rfl,rfl⟩:=hR;conv=>whnf
     repeat(first|(refine brF rfl ?_;conv=>whnf)|(refine brT rfl ?_;conv=>whnf))
     refine⟨j+1,[0,1,2,3,4,5,6],c1',by omega,?_⟩;rw[htk];conv=>whnf
     rw[hw1];exact rZ11
    ·have c1':j=z.rrs.length:=(by have h:¬ (j:Int)<z.rrs.length:=pw c1;omega);subst c1';rw [mr] at hD;have htk:yu (f.zones.take (i+1))=D:=by rw[mp,hz2,hD,hB0];show yu (f.zones.take i++[z])=_;rw[zh7];unfold qo5;simp
     have hDb:bK D=pk (Bst.fl (.live D)):=qn4 (by rw[hD,hB];simp);have hw1:IntKind.i64.wrap ((i:Int)+1)=((i+1:Nat):Int):=by have:=hk.nz;rw[qa _ (by omega)];omega
     conv=>whnf
     refine⟨i+1,[0,1,2,3,4,5],c0',by omega,?_⟩;rw[htk,hDb];conv=>whnf
     rw[hw1];exact rZ11
   ·have c0':i=f.zones.length:=(by have h:¬ (i:Int)<f.zones.length:=pw c0;omega);subst c0';rw [mr] at hT hTl;have hne:=zs8 hk.one;try exact absurd hT.symm hne
    all_goals
     obtain⟨P,hP⟩:∃ P,P=c1 :: T:=⟨_,rfl⟩;have hPl:P.length<=2400000 * 64:=by rw[hP];have:=hk.nz;omega
     have hPT:P=yu f.zones:=by rw[hP,hT]
     have hPb:bK (c1 :: T)=pk (Bst.fl (.live P)):=by rw[hP];rfl
     conv=>whnf
     refine .inv Nat (fun j=>j<=f.hosts.length) (fun j=>[(49,.d (.int .i64 j))]) (fun j=>[(3,pk (Bst.fl (.live (P++yw (f.hosts.take j)))))]) (fun j=>f.hosts.length - j) ⟨0,[0,1,2,3,4,5],pz _,?_⟩ ?_
     ·rw[show P++yw (f.hosts.take 0)=P by simp[yw],hP];conv=>whnf
      exact rZ11
     intro j hj;have hDl:=yd7 (l:=f.hosts.take j) fun a ha=>jm1 (hi.addr a (gt ha)) (fun b hb=>by have:=hk.host a (gt ha) b hb;omega) (hi.len a (gt ha))
     have hDk:(f.hosts.take j).length<=64:=by have:=hk.nh;rw[lu];omega
     obtain⟨D,hD⟩:∃ D,D=P++yw (f.hosts.take j):=⟨_,rfl⟩;have hDD:D.length<=P.length+47244640301 * 64:=by rw[hD,py];omega
     rw[<-hD];conv=>whnf
     refine⟨fun c1=>?_,fun c1=>?_⟩
     ·have c1':j<f.hosts.length:=(by have h:(j:Int)<f.hosts.length:=pu c1;omega);obtain⟨r,hr⟩:∃ r,f.hosts.getD j default=r:=⟨_,rfl⟩;have hr2:f.hosts[j]? = some r:=by rw[<-hr,List.getD,pp c1'];rfl
      have hrm:=ov hr2;have hz64:∀ b ∈ r.2.2,0<=b/\b<10000000000:=fun b hb=>by have:=hk.host r hrm b hb;omega
      have hrl:=jm1 (hi.addr r hrm) hz64 (hi.len r hrm);have htk:P++yw (f.hosts.take (j+1))=D++yy r++[10]:=by rw[mp,hr2,hD];show P++yw (f.hosts.take j++[r])=_;rw[zk8];simp
      have hw1:IntKind.i64.wrap ((j:Int)+1)=((j+1:Nat):Int):=by have:=hk.nh;rw[qa _ (by omega)];omega
      conv=>whnf
      refine⟨by omega,?_⟩;conv=>whnf
      rw[px,hr];refine oD (zk7 r (hi.addr r hrm) hz64 (hi.len r hrm)) rfl rfl ?_;conv=>whnf
      repeat(first|(refine brF rfl ?_;conv=>whnf)|(refine brT rfl ?_;conv=>whnf))
      refine .rel _ (COk.frameX (wsL D (yy r) (by omega)) [3] rfl rfl rfl) (fun x ks' hR=>?_);obtain⟨_,_,⟨rfl,rfl⟩,rfl,rfl⟩:=hR;conv=>whnf
      refine .rel _ (COk.frameX (wbL (D++yy r) (by rw[py];omega)) [3] rfl rfl rfl) (fun x ks' hR=>?_);obtain⟨_,_,⟨rfl,rfl⟩,rfl,rfl⟩:=hR;conv=>whnf
      repeat(first|(refine brF rfl ?_;conv=>whnf)|(refine brT rfl ?_;conv=>whnf))
      refine⟨j+1,[0,1,2,3,4,5],c1',by omega,?_⟩;rw[htk];conv=>whnf
      rw[hw1];exact rZ11
     ·have c1':j=f.hosts.length:=(by have h:¬ (j:Int)<f.hosts.length:=pw c1;omega);subst c1';rw [mr] at hD;have hfin:f.text=D:=by rw[hD,hPT];rfl
      rw[hfin];conv=>whnf
      refine .rel _ (COk.frameX ((COk.thing Bst.fl (ju1 D (by omega)) [] [] _ rfl rfl).imp (R':=fun r k=>r = .d (.str D)/\k=[pk (Bst.fl .dead)]) fun r k ⟨s0,a1,⟨h1,h2⟩,h3,h4⟩=>by subst h1 h2;exact⟨by rw[h3];rfl,by rw[h4];rfl⟩) [3] rfl rfl rfl) (fun x ks' hR=>?_);obtain⟨_,_,⟨rfl,rfl⟩,rfl,rfl⟩:=hR;conv=>whnf
      exact rZ11
def x4(zs:List Zo)(hs:List Ho)(s:List UInt8):Option (List Zo × List Ho) :=
 if (cutB s 32).1=[122,111,110,101]/\(cutB s 32).2.2=true then (wb zs hs (cutB s 32).2.1).map fun z=>(z,hs)
 else if (cutB s 32).1=[104,111,115,116]/\(cutB s 32).2.2=true then (hosP hs (cutB s 32).2.1).map fun h=>(zs,h)
 else (recP zs hs s).map fun z=>(z,hs)
def xn:Nat->List Zo->List Ho->List UInt8->Option (List Zo × List Ho)
 |0,_,_,_=>none
 |n+1,zs,hs,t=>if t=[] then some (zs,hs) else if (cutB t 10).2.2=true then (match x4 zs hs (cutB t 10).1 with
  |some p=>xn n p.1 p.2 (cutB t 10).2.1
  |none=>none) else none
def mkF(zs:List Zo)(hs:List Ho):Fo:=⟨Nat.beq zs.length 0,zs,Nat.beq hs.length 0,hs⟩
def nilF:Fo:=⟨true,[],true,[]⟩
def qf0(s:List UInt8):Fo × Int:=match xn (s.length+1) [] [] s with
 |none=>(nilF,6)
 |some p=>if za (mkF p.1 p.2)=(s,0) then (mkF p.1 p.2,0) else (nilF,6)
structure RdOk(zs:List Zo)(hs:List Ho):Prop where
 nz:Nz zs
 nh:∀ h ∈ hs,h.2.1=Nat.beq h.2.2.length 0
 n64:zs.length<=64
 h64:hs.length<=64
 zl:∀ z ∈ zs,z.apex.length<=255/\z.rrs.length<=256/\∀ r ∈ z.rrs,r.check=true/\r.In
 hl:∀ h ∈ hs,0<=h.1/\h.1<=4294967295/\h.2.2.length<=1000001
theorem RdOk.init:RdOk [] []:=⟨fun _ h=>(by cases h),fun _ h=>(by cases h),by decide,by decide,fun _ h=>(by cases h),fun _ h=>(by cases h)⟩
theorem zo7(s:List UInt8):(jx s).1.length<=255:=by
 unfold jx;split
 ·exact pz _
 ·split
  ·decide
  ·split
   ·exact pz _
   ·split
    ·rename_i h;exact h.2
    ·exact pz _
theorem yj6{zs:List Zo}(h:zs≠[]):jy zs ∈ zs:=by
 unfold jy;have:0<zs.length:=d7.2 h;rw[List.getD,pp (by omega)];exact d5 _
theorem RdOk.zone{zs zs':List Zo}{hs:List Ho}{s:List UInt8}(h:RdOk zs hs)(e:wb zs hs s=some zs'):RdOk zs' hs:=by
 unfold wb at e;split at e
 ·cases e
 ·rename_i hc;cases e;have:=h.n64;refine⟨fun z hz=>?_,h.nh,?_,h.h64,fun z hz=>?_,h.hl⟩
  ·rcases o3.1 hz with hz|hz
   ·exact h.nz z hz
   ·cases lv.1 hz;rfl
  ·rw[py];have:zs.length≠64:=fun e=>hc (.inr (.inl e))
   simp;omega
  ·rcases o3.1 hz with hz|hz
   ·exact h.zl z hz
   ·cases lv.1 hz;exact⟨zo7 s,pz _,fun r hr=>(by cases hr)⟩
theorem RdOk.recd{zs zs':List Zo}{hs:List Ho}{s:List UInt8}(h:RdOk zs hs)(e:recP zs hs s=some zs'):RdOk zs' hs:=by
 unfold recP at e;split at e
 ·cases e
 ·rename_i hc;have hne:zs≠[]:=fun e=>hc (.inl e)
  cases hp:y3 s with
  |none=>rw [hp] at e;cases e
  |some r =>
   rw [hp] at e;cases e;obtain⟨q1,q2⟩:=zj6 hp;have q3:=zw7 hp;obtain⟨z1,z2,z3⟩:=h.zl _ (yj6 hne);have z4:(jy zs).rrs.length≠256:=fun e=>hc (.inr (.inr e))
   refine⟨fun z hz=>?_,h.nh,by rw[gn];exact h.n64,h.h64,fun z hz=>?_,h.hl⟩
   ·rcases List.mem_or_eq_of_mem_set hz with hz|rfl
    ·exact h.nz z hz
    ·show false=Nat.beq ((jy zs).rrs++[r]).length 0;rw[py];rfl
   ·rcases List.mem_or_eq_of_mem_set hz with hz|rfl
    ·exact h.zl z hz
    ·refine⟨z1,?_,fun x hx=>?_⟩
     ·show((jy zs).rrs++[r]).length<=256;rw[py];simp;omega
     ·rcases o3.1 hx with hx|hx
      ·exact z3 x hx
      ·cases lv.1 hx;exact⟨q1,q3⟩
theorem ys2:∀ (n:Nat) (r:List UInt8) (b:Bool) (l q:List Int),atsR n r b l=some q->q.length<=l.length+n
 |0,_,_,l,q,h=>by cases h;exact pr _
 |n+1,r,false,l,q,h=>by cases h;omega
 |n+1,r,true,l,q,h=>by
  cases hn:zh (cutB r 32).1 with
  |error c=>rw [ys3 hn] at h;cases h
  |ok k =>
   rw [jr6 hn] at h;have:=ys2 n _ _ _ _ h;rw [py] at this;simp at this;omega
theorem xh4{s:List UInt8}{h:Ho}(hs:s.length<=1000000)(e:ua s=some h):h.2.1=Nat.beq h.2.2.length 0/\0<=h.1/\h.1<=4294967295/\h.2.2.length<=1000001:=by
 cases hw:yd 32 (cutB s 32).1 with
 |none=>unfold ua at e;rw [hw] at e;cases e
 |some a =>
  rw [jo5 hw] at e;have ha:a<=4294967295:=qd5 hw;cases hq:atsR (s.length+1) (cutB s 32).2.1 (cutB s 32).2.2 [] with
  |none=>rw [hq] at e;cases e
  |some q =>
   rw [hq] at e;cases e;have:=ys2 _ _ _ _ _ hq;refine⟨rfl,by show(0:Int)<=a;omega,by show(a:Int)<=_;omega,?_⟩;show q.length<=_;simp at this;omega
theorem RdOk.host{zs:List Zo}{hs hs':List Ho}{s:List UInt8}(h:RdOk zs hs)(hl:s.length<=1000000)(e:hosP hs s=some hs'):RdOk zs hs':=by
 unfold hosP at e;split at e
 ·cases e
 ·rename_i hc;cases hp:ua s with
  |none=>rw [hp] at e;cases e
  |some r =>
   rw [hp] at e;cases e;have q:=xh4 hl hp;have:=h.h64;refine⟨h.nz,fun z hz=>?_,h.n64,by rw[py];simp;omega,h.zl,fun z hz=>?_⟩
   ·rcases o3.1 hz with hz|hz
    ·exact h.nh z hz
    ·cases lv.1 hz;exact q.1
   ·rcases o3.1 hz with hz|hz
    ·exact h.hl z hz
    ·cases lv.1 hz;exact q.2
theorem RdOk.fit{zs:List Zo}{hs:List Ho}(h:RdOk zs hs):(mkF zs hs).Fit:=fun z hz=>by
 obtain⟨h1,h2,h3⟩:=h.zl z hz;refine⟨by omega,fun r hr=>?_⟩;obtain⟨q1,q2⟩:=h3 r hr;have:=(qr3 q1).2.1;have:=ja7 q1;omega
theorem RdOk.in{zs:List Zo}{hs:List Ho}(h:RdOk zs hs):(mkF zs hs).In:=⟨fun z hz r hr=>((h.zl z hz).2.2 r hr).2,fun x hx=>⟨(h.hl x hx).1,(h.hl x hx).2.1⟩,fun x hx=>by have:=(h.hl x hx).2.2;omega⟩
theorem ys0{P:Program}{TT:Nat->Option TI}(hTT:TTok P TT){f:FuncId}{al al':List SV}{tl:List TypeId}{ks:List KB}{r:SV}{fr:List Nat}(hok:FnOk P f al' r)(hview:ve TT ks al tl (fun l t=>l=al'/\t=fr))(hcl:xj al'=true)(hsc:scalar r=true):COk P f al ks (fun s k=>s=r/\k=ks) :=
 ⟨hok.1,fun X w β fp vs hM hl hd=>by
  obtain⟨l',fr',⟨rfl,rfl⟩,e1,e2,e3⟩:=qh0 hTT hM.toMem0 _ _ _ _ hview hl hd;refine(qh5 hok hM.vo.no (fun b hb=>hM.mlt b (hM.goneM fr' b hb)) (by omega) (e3 fr' (fun _ h=>h)) hcl).mono ?_
  rintro e w' ⟨v,rfl,hst,hden⟩
  exact⟨v,_,_,β,fp,rfl,⟨rfl,rfl⟩,hM.quiet hst,hden.scalar hsc _ _ _⟩⟩
theorem za2(z:Z)(zs:List Zo)(hs:List Ho)(h:RdOk zs hs)(hz:z = .iff/\zs=[]\/z = .no/\zs≠[]):COk Tryz.prog 8 [.agg [.all 1,.all 2]] [.cells 79 [.all 1,.all 2],.row 58 2 zs.length z (zE zs),hB hs,.gone]
 (fun r k=>r = .tup [.d (.str (za (mkF zs hs)).1),.d (.int .i64 (za (mkF zs hs)).2)]/\k=[.cells 79 [.all 1,.all 2],.row 58 2 zs.length z (zE zs),hB hs,.gone]):=by
 rcases hz with⟨rfl,rfl⟩|⟨rfl,hz⟩
 ·exact ys0 (TT:=TT) qg (tl:=[25]) (jo7 _ h.fit h.in) ⟨rfl,rfl⟩ rfl rfl
 ·obtain⟨a,l,rfl⟩:∃ a l,zs=a :: l:=by cases zs with|nil=>exact absurd rfl hz|cons a l=>exact⟨a,l,rfl⟩
  exact ys0 (TT:=TT) qg (tl:=[25]) (jo7 _ h.fit h.in) ⟨rfl,rfl⟩ rfl rfl
def zk(zs:List Zo):Z:=if zs=[] then .iff else .no
theorem xu2(zs:List Zo)(hs:List Ho)(h:RdOk zs hs):COk Tryz.prog 8 [.agg [.all 1,.all 2]] (rdK zs hs)
 (fun r k=>r = .tup [.d (.str (za (mkF zs hs)).1),.d (.int .i64 (za (mkF zs hs)).2)]/\k=[.cells 79 [.all 1,.all 2],.row 58 2 zs.length (zk zs) (zE zs),hB hs,.gone]):=by
 cases zs with
 |nil=>exact za2 .iff [] hs h (.inl ⟨rfl,rfl⟩)
 |cons a l=>exact(za2 .no (a :: l) hs h (.inr ⟨rfl,by simp⟩)).ahead fun X w β fp hM=>yw0 a l hs h.nz hM
theorem zv5{m:Nat}{zs:List Zo}{hs:List Ho}:xn (m+1) zs hs []=some (zs,hs):=rfl
theorem jl5{m:Nat}{zs:List Zo}{hs:List Ho}{t:List UInt8}(h:t≠[])(h1:(cutB t 10).2.2=false):xn (m+1) zs hs t=none:=by
 unfold xn;rw[if_neg h,if_neg (by rw[h1];decide)]
theorem qq8{m:Nat}{zs:List Zo}{hs:List Ho}{t:List UInt8}(h:t≠[])(h1:(cutB t 10).2.2=true)(h2:x4 zs hs (cutB t 10).1=none):xn (m+1) zs hs t=none:=by
 unfold xn;rw[if_neg h,if_pos h1,h2]
theorem qk6{m:Nat}{zs:List Zo}{hs:List Ho}{t:List UInt8}{p:List Zo × List Ho}(h:t≠[])(h1:(cutB t 10).2.2=true)(h2:x4 zs hs (cutB t 10).1=some p):xn (m+1) zs hs t=xn m p.1 p.2 (cutB t 10).2.1:=by
 conv=>lhs;unfold xn
 rw[if_neg h,if_pos h1,h2]
inductive Short:List UInt8->Prop
 |last (l:List UInt8):(10:UInt8) ∉ l->l.length<=1000000->Short l
 |cons (l r:List UInt8):(10:UInt8) ∉ l->l.length<=1000000->Short r->Short (l++10 :: r)
theorem yp1{c:UInt8}{l:List UInt8}(h:c ∉ l):∀ b ∈ l,b≠c:=fun b hb e=>h (e ▸ hb)
theorem qm2{c:UInt8}(l r:List UInt8)(h:c ∉ l):cutB (l++c :: r) c=(l,r,true):=by
 unfold cutB;rw[jq7 c l r (yp1 h),if_neg (by omega)];simp
theorem yw9{c:UInt8}(l:List UInt8)(h:c ∉ l):cutB l c=(l,[],false):=by
 unfold cutB;rw[jo4 c l (yp1 h),if_pos (by decide)]
theorem Short.cut{t:List UInt8}(h:Short t):(cutB t 10).1.length<=1000000/\Short (cutB t 10).2.1:=by
 cases h with
 |last _ h1 h2=>rw[yw9 t h1];exact⟨h2,.last _ (by simp) (by simp)⟩
 |cons l r h1 h2 h3=>rw[qm2 l r h1];exact⟨h2,h3⟩
theorem Short.of:∀ (n:Nat) (t:List UInt8),t.length<=n->n<=1000000->Short t
 |0,t,h,_=>.last t (by rw[f8 (Nat.le_zero.1 h)];simp) (by omega)
 |n+1,t,h,hn=>by
  by_cases hm:(10:UInt8) ∈ t
  ·obtain⟨l,r,rfl,h1⟩:=List.eq_append_cons_of_mem hm;rw [py,ou] at h;exact .cons l r h1 (by omega) (Short.of n r (by omega) (by omega))
  ·exact .last t hm (by omega)
theorem xe4(hs:List Ho)(s:List UInt8):recP [] hs s=none:=if_pos (.inl rfl)
theorem xc0{zs zs':List Zo}{hs:List Ho}{s:List UInt8}(e:wb zs hs s=some zs'):∃ a l,zs'=a :: l:=by
 unfold wb at e;split at e
 ·cases e
 ·cases e;cases zs with
  |nil=>exact⟨_,_,rfl⟩
  |cons a l=>exact⟨_,_,rfl⟩
theorem zs6{zs zs':List Zo}{hs:List Ho}{s:List UInt8}(e:wb zs hs s=some zs'):(jy zs').rrs=[]:=by
 unfold wb at e;split at e
 ·cases e
 ·cases e;unfold jy;rw[py,List.getD,o5 (by simp)];simp
theorem yd3{zs:List Zo}{hs:List Ho}{c:List UInt8}(h1:((cutB c 32).1 == [122,111,110,101])=true)(h2:(cutB c 32).2.2=true):x4 zs hs c=(wb zs hs (cutB c 32).2.1).map fun z=>(z,hs):=if_pos ⟨by simpa using h1,h2⟩
theorem yd4{zs:List Zo}{hs:List Ho}{c:List UInt8}(h1:((cutB c 32).1 == [122,111,110,101])=false)(h2:((cutB c 32).1 == [104,111,115,116])=true)(h3:(cutB c 32).2.2=true):x4 zs hs c=(hosP hs (cutB c 32).2.1).map fun z=>(zs,z):=by
 unfold x4;rw [if_neg (by rintro ⟨h,_⟩;rw [h] at h1;cases h1),if_pos ⟨by simpa using h2,h3⟩]
theorem zy1(zs:List Zo)(hs:List Ho)(c:List UInt8):(((cutB c 32).1 == [122,111,110,101])=true/\(cutB c 32).2.2=true)\/(((cutB c 32).1 == [122,111,110,101])=false/\((cutB c 32).1 == [104,111,115,116])=true/\(cutB c 32).2.2=true)\/(x4 zs hs c=(recP zs hs c).map (fun z=>(z,hs))/\((((cutB c 32).1 == [122,111,110,101])=false/\((cutB c 32).1 == [104,111,115,116])=false)\/(((cutB c 32).1 == [122,111,110,101])=true/\((cutB c 32).1 == [104,111,115,116])=false/\(cutB c 32).2.2=false)\/(((cutB c 32).1 == [122,111,110,101])=false/\((cutB c 32).1 == [104,111,115,116])=true/\(cutB c 32).2.2=false))):=by
 unfold x4;cases hz:((cutB c 32).1 == [122,111,110,101]) <;> cases hh:((cutB c 32).1 == [104,111,115,116]) <;> cases hm:(cutB c 32).2.2
 ·refine .inr (.inr ⟨?_,.inl ⟨rfl,rfl⟩⟩);rw[if_neg (by simp),if_neg (by simp)]
 ·refine .inr (.inr ⟨?_,.inl ⟨rfl,rfl⟩⟩);rw [if_neg (by rintro ⟨h,_⟩;rw [h] at hz;cases hz),if_neg (by rintro ⟨h,_⟩;rw [h] at hh;cases hh)]
 ·refine .inr (.inr ⟨?_,.inr (.inr ⟨rfl,rfl,rfl⟩)⟩);rw[if_neg (by simp),if_neg (by simp)]
 ·exact .inr (.inl ⟨rfl,rfl,rfl⟩)
 ·refine .inr (.inr ⟨?_,.inr (.inl ⟨rfl,rfl,rfl⟩)⟩);rw[if_neg (by simp),if_neg (by simp)]
 ·exact .inl ⟨rfl,rfl⟩
 ·have h1:=(mw).1 hz;have h2:=(mw).1 hh;rw [h1] at h2;exact absurd h2 (by decide)
 ·exact .inl ⟨rfl,rfl⟩
theorem xs1(zs:List Zo)(hs:List Ho):[.cells 79 [.all 2,.all 3],zB 4 zs,hB hs,rB zs]=mapB (sig [1,2,3,4] 5) (rdK zs hs):=by
 cases zs with
 |nil=>rfl
 |cons a l =>
  have:(fun i=>mapL (sig [1,2,3,4] 5) (zF (a :: l) 3 i))=zF (a :: l) 4:=by
   funext i;unfold zF;split
   ·rfl
   ·rfl
  show[KB.cells _ _,.rows 58 2 (l.length+1) (zF (a :: l) 4),hB hs,rB (a :: l)]=_;rw[<-this];rfl
theorem jt3{F:Nat->List SV}{zs:List Zo}{q:Nat}{ρ:List Nat}{σ:Nat->Nat}(hF:∀ i,i<zs.length->F i=zF zs q i)(hp:posN (σ q) ρ 0=some 4)(i:Nat)(hi:i<zs.length):SubL (renL ρ (mapL σ (F i))) (zF zs 4 i):=by
 rw[hF i hi];unfold zF;split
 ·refine⟨rfl,?_,True.intro⟩;show SubV (match posN (σ q) ρ 0 with|some p=>SV.all p|none=>.any) _;rw[hp];exact rfl
 ·exact⟨rfl,yf9 _,True.intro⟩
structure StP where
 n:Nat
 t:List UInt8
 zs:List Zo
 hs:List Ho
theorem yk5(s:List UInt8)(hs:s.length<=1099511627776)(hS:Short s):FnOk Tryz.prog 10 [.d (.str s)] (.tup [(qf0 s).1.V,.d (.int .i64 (qf0 s).2)]):=by
 refine qu (TT:=TT) (IN:=qe [(28,Tryz.f28,2)]) qg (jh qh Tryz.func28 (by kernel_rfl) (by kernel_rfl)) mixed 1000 Tryz.func10 rfl (qd Tryz.func10 (by kernel_rfl) rfl) rfl 44 (by kernel_rfl) ?_;generalize hK:qf0 s=K;conv=>whnf
 refine .nilC 1 0 58 2 (zE []) _ _ _ _ rfl rfl ?_;conv=>whnf
 refine .nilC 1 1 32 2 (hF []) _ _ _ _ rfl rfl ?_;conv=>whnf
 refine .pad ?_;conv=>whnf
 obtain⟨A,hA⟩:∃ A,A=xn (s.length+1) [] [] s:=⟨_,rfl⟩;unfold qf0 at hK;rw [<-hA] at hK;refine .inv StP (fun x=>xn x.n x.zs x.hs x.t=A/\x.t.length<x.n/\x.t.length<=1099511627776/\Short x.t/\RdOk x.zs x.hs) (fun x=>[(5,.d (.str x.t)),(6,.any),(7,.any),(8,.any)]) (fun x=>[(2,zB 4 x.zs),(3,hB x.hs),(4,rB x.zs)]) (fun x=>x.n) ⟨⟨s.length+1,s,[],[]⟩,[0,1,2,3,4],⟨hA.symm,l5 _,hs,hS,.init⟩,?_⟩ ?_
 ·conv=>whnf
  exact rZ11
 rintro ⟨n,t,zs,hs⟩ ⟨i1,i2,i3,iS,i4⟩
 replace i1:xn n zs hs t=A:=i1;replace i2:t.length<n:=i2;replace i3:t.length<=1099511627776:=i3;replace iS:Short t:=iS;replace i4:RdOk zs hs:=i4;obtain⟨m,rfl⟩:∃ m,n=m+1:=⟨n - 1,by omega⟩;obtain⟨c1,c2,c3⟩:=qt3 t 10;obtain⟨c,hc⟩:∃ c,c=(cutB t 10).1:=⟨_,rfl⟩;obtain⟨d1,d2,d3⟩:=qt3 c 32;obtain⟨iS1,iS2⟩:=iS.cut;rw [<-hc] at c1 iS1;have hN:=i4.n64;have hmap:=xs1 zs hs;have hzone:∀ s:List UInt8,_:=fun s=>xk8 zs hs s (by omega) i4.nz
 have hhost:∀ s:List UInt8,s.length<=1000000->_:=fun s h=>xn8 zs hs s (by have:=i4.h64;omega) h
 have hrec:∀ s:List UInt8,s.length<=1000000->_:=fun s h=>xs0 zs hs s (by omega) (by
  cases zs with
  |nil=>exact pz _
  |cons a l=>have:=(i4.zl _ (yj6 (zs:=a :: l) (by simp))).2.1;omega) h
 have htext:=xu2 zs hs i4;obtain⟨T,hT⟩:∃ T,T=za (mkF zs hs):=⟨_,rfl⟩;rw [<-hT] at htext;have hcase:=zy1 zs hs c;rcases zs with _|⟨a,l⟩
 all_goals
  conv=>whnf
  refine⟨fun h0=>?_,fun h0=>?_⟩
  ·have h0:t≠[]:=by rintro rfl;cases h0
   conv=>whnf
   refine oD (je1 t 10 (by omega)) rfl rfl ?_;rw[<-hc];conv=>whnf
   refine⟨fun h1=>?_,fun h1=>?_⟩
   ·have h1:(cutB t 10).2.2=false:=by simpa using h1
    rw [jl5 h0 h1] at i1;rw [<-i1] at hK;subst hK;conv=>whnf
    repeat'(first|exact ⟨⟩|exact rfl|exact fun _=>Iff.rfl|exact fun _ _=>rfl|exact renM_ent rfl _|apply And.intro)
    all_goals first|exact .inl rfl|exact noI
   have h1:(cutB t 10).2.2=true:=by simpa using h1
   conv=>whnf
   refine oD (je1 c 32 (by omega)) rfl rfl ?_;conv=>whnf
   rcases hcase with⟨hz,hm⟩|⟨hz,hh,hm⟩|⟨hr,hcase⟩
   ·repeat(first|refine brT hz ?_|refine brT hm ?_;conv=>whnf)
    refine .rel _ (COk.frameX (hzone (cutB c 32).2.1) [1,2,3,4] rfl rfl hmap) (fun x ks' hR=>?_);obtain⟨s0,k0,hR,rfl,rfl⟩:=hR;rcases hR with⟨e,rfl,rfl⟩|⟨zs',e,rfl,rfl⟩
    ·rw [qq8 h0 h1 (by rw [<-hc,yd3 hz hm,e];rfl)] at i1;rw [<-i1] at hK;subst hK;conv=>whnf
     repeat(first|(refine brF rfl ?_;conv=>whnf)|(refine brT rfl ?_;conv=>whnf))
     repeat'(first|exact ⟨⟩|exact rfl|exact fun _=>Iff.rfl|exact fun _ _=>rfl|exact renM_ent rfl _|apply And.intro)
     all_goals first|exact .inl rfl|exact noI
    ·rw [qk6 h0 h1 (by rw [<-hc,yd3 hz hm,e];rfl)] at i1;have i5:=i4.zone e;obtain⟨a',l',rfl⟩:=xc0 e;have hrr:=zs6 e;conv=>whnf
     repeat(first|(refine brF rfl ?_;conv=>whnf)|(refine brT rfl ?_;conv=>whnf))
     refine⟨⟨m,(cutB t 10).2.1,a' :: l',hs⟩,[0,1,5,3,6],⟨i1,by have:=c3 h1;show(cutB t 10).2.1.length<m;omega,by show(cutB t 10).2.1.length<=_;omega,iS2,i5⟩,l5 _,?_⟩;conv=>whnf
     repeat'(first|exact ⟨⟩|exact rfl|exact(fun _ _ _ _ h=>⟨y7 _,h⟩)|exact fun _=>Iff.rfl|exact fun _ _=>rfl|apply And.intro)
     all_goals first|exact fun i hi=>jt3 (q:=5) (fun _ _=>rfl) (by rfl) i hi|(rw[hrr];rfl)|exact noI
   ·repeat(first|refine brF hz ?_|refine brT hh ?_|refine brT hm ?_;conv=>whnf)
    refine .rel _ (COk.frameX (hhost (cutB c 32).2.1 (by omega)) [1,2,3,4] rfl rfl hmap) (fun x ks' hR=>?_);obtain⟨s0,k0,hR,rfl,rfl⟩:=hR;rcases hR with⟨e,rfl,rfl⟩|⟨hs',G,e,rfl,rfl,hG⟩
    ·rw [qq8 h0 h1 (by rw [<-hc,yd4 hz hh hm,e];rfl)] at i1;rw [<-i1] at hK;subst hK;conv=>whnf
     repeat(first|(refine brF rfl ?_;conv=>whnf)|(refine brT rfl ?_;conv=>whnf))
     repeat'(first|exact ⟨⟩|exact rfl|exact fun _=>Iff.rfl|exact fun _ _=>rfl|exact renM_ent rfl _|apply And.intro)
     all_goals first|exact .inl rfl|exact noI
    ·rw [qk6 h0 h1 (by rw [<-hc,yd4 hz hh hm,e];rfl)] at i1;have i5:=i4.host (by omega) e;conv=>whnf
     repeat(first|(refine brF rfl ?_;conv=>whnf)|(refine brT rfl ?_;conv=>whnf))
     refine⟨⟨m,(cutB t 10).2.1,_,hs'⟩,[0,1,2,5,4],⟨i1,by have:=c3 h1;show(cutB t 10).2.1.length<m;omega,by show(cutB t 10).2.1.length<=_;omega,iS2,i5⟩,l5 _,?_⟩;conv=>whnf
     repeat'(first|exact ⟨⟩|exact rfl|exact(fun _ _ _ _ h=>⟨y7 _,h⟩)|exact fun _=>Iff.rfl|exact fun _ _=>rfl|apply And.intro)
     all_goals first|exact fun i hi=>jt3 (q:=3) (fun _ _=>rfl) (by rfl) i hi|exact hG
   ·rcases hcase with⟨hz,hh⟩|⟨hz,hh,hm⟩|⟨hz,hh,hm⟩
    all_goals
     repeat(first|refine brF hz ?_|refine brT hz ?_|refine brF hh ?_|refine brT hh ?_|refine brF hm ?_;conv=>whnf)
     refine .rel _ (COk.frameX (hrec c (by omega)) [1,2,3,4] rfl rfl hmap) (fun x ks' hR=>?_);obtain⟨s0,k0,hR,rfl,rfl⟩:=hR;rcases hR with⟨e,rfl,rfl⟩|⟨zs',F,e,rfl,rfl,hzl,hF⟩
     ·rw [qq8 h0 h1 (by rw [<-hc,hr,e];rfl)] at i1;rw [<-i1] at hK;subst hK;conv=>whnf
      repeat(first|(refine brF rfl ?_;conv=>whnf)|(refine brT rfl ?_;conv=>whnf))
      repeat'(first|exact ⟨⟩|exact rfl|exact fun _=>Iff.rfl|exact fun _ _=>rfl|exact renM_ent rfl _|apply And.intro)
      all_goals first|exact .inl rfl|exact noI
     ·first
       |(rw [xe4] at e;cases e;done)
       |(
        rw [qk6 h0 h1 (by rw [<-hc,hr,e];rfl)] at i1;have i5:=i4.recd e;obtain⟨a',l',rfl⟩:∃ a' l',zs'=a' :: l':=by
         cases zs' with
         |nil=>cases hzl
         |cons a' l'=>exact⟨_,_,rfl⟩
        conv=>whnf
        repeat(first|(refine brF rfl ?_;conv=>whnf)|(refine brT rfl ?_;conv=>whnf))
        refine⟨⟨m,(cutB t 10).2.1,a' :: l',hs⟩,[0,1,2,3,5],⟨i1,by have:=c3 h1;show(cutB t 10).2.1.length<m;omega,by show(cutB t 10).2.1.length<=_;omega,iS2,i5⟩,l5 _,?_⟩;conv=>whnf
        repeat'(first|exact ⟨⟩|exact rfl|exact(fun _ _ _ _ h=>⟨y7 _,h⟩)|exact fun _=>Iff.rfl|exact fun _ _=>rfl|apply And.intro)
        all_goals exact fun i hi=>jt3 (q:=4) hF (by rfl) i hi)
  ·obtain rfl:t=[]:=by
    cases t with
    |nil=>rfl
    |cons x t=>cases h0
   rw [zv5] at i1;rw [<-i1] at hK;replace hK:(if za (mkF _ hs)=(s,0) then (mkF _ hs,0) else (nilF,6))=K:=hK;rw [<-hT] at hK;conv=>whnf
   refine .rel _ (COk.frameX htext [1,2,3,4] rfl rfl hmap) (fun x ks' hR=>?_);obtain⟨s0,k0,⟨rfl,rfl⟩,rfl,rfl⟩:=hR;conv=>whnf
   by_cases g1:T.2=0
   ·refine brF (by rw[g1];rfl) ?_;conv=>whnf
    by_cases g2:T.1=s
    ·rw [if_pos (Prod.ext g2 g1)] at hK;refine brF (by rw[g2];simp) ?_;subst hK;conv=>whnf
     repeat(first|(refine brF rfl ?_;conv=>whnf)|(refine brT rfl ?_;conv=>whnf))
     repeat'(first|exact ⟨⟩|exact rfl|exact fun _=>Iff.rfl|exact fun _ _=>rfl|exact renM_ent rfl _|apply And.intro)
     all_goals exact .inr rfl
    ·rw [if_neg (fun h=>g2 (congrArg Prod.fst h))] at hK;refine brT (by simpa using g2) ?_;subst hK;conv=>whnf
     repeat(first|(refine brF rfl ?_;conv=>whnf)|(refine brT rfl ?_;conv=>whnf))
     repeat'(first|exact ⟨⟩|exact rfl|exact fun _=>Iff.rfl|exact fun _ _=>rfl|exact renM_ent rfl _|apply And.intro)
     all_goals first|exact .inl rfl|exact noI
   ·rw [if_neg (fun h=>g1 (congrArg Prod.snd h))] at hK;refine brT (by simpa using g1) ?_;subst hK;conv=>whnf
    repeat(first|(refine brF rfl ?_;conv=>whnf)|(refine brT rfl ?_;conv=>whnf))
    repeat'(first|exact ⟨⟩|exact rfl|exact fun _=>Iff.rfl|exact fun _ _=>rfl|exact renM_ent rfl _|apply And.intro)
    all_goals first|exact .inl rfl|exact noI
section
section
variable{α:Type}[Inhabited α]
end
end
theorem xi9(n:Nat):∀ b ∈ Lib.decDigits n,b≠10:=fun b hb e=>by
 have:=yw6 n b hb;rw [e] at this;exact absurd this.1 (by decide)
theorem zz5(c:UInt8):∀ b ∈ escB c,b≠10:=by
 have hd:=jp3 c.toNat c.toNat_lt;have hn:∀ x:UInt8,zm x=true->x≠10:=fun x hx e=>by rw [e] at hx;exact absurd hx (by decide)
 unfold escB;split
 ·rename_i h;intro b hb;simp only [pv,List.mem_nil_iff,or_false] at hb;rcases hb with rfl|rfl
  ·decide
  ·rcases h with rfl|rfl <;> decide
 ·split
  ·rename_i h;intro b hb;simp only [lv] at hb;subst hb;rintro rfl;exact absurd h.1 (by decide)
  ·intro b hb;simp only [pv,List.mem_nil_iff,or_false] at hb;rcases hb with rfl|rfl|rfl|rfl
   ·decide
   ·exact hn _ hd.1
   ·exact hn _ hd.2.1
   ·exact hn _ hd.2.2.1
theorem yl1:∀ l:List UInt8,∀ b ∈ escL l,b≠10
 |[],b,h=>by cases h
 |c :: l,b,h=>by
  simp only [escL,o3] at h;exact h.elim (zz5 c b) (yl1 l b)
theorem yf7:∀ ls:List (List UInt8),∀ b ∈ txtL ls,b≠10
 |[],b,h=>by cases h
 |l :: ls,b,h=>by
  simp only [txtL,o3,pv] at h;rcases h with h|rfl|h
  ·exact yl1 l b h
  ·decide
  ·exact yf7 ls b h
theorem yf6(n:List UInt8):∀ b ∈ txtN n,b≠10:=by
 unfold txtN;split
 ·intro b hb;simp at hb;rw [hb];decide
 ·exact yf7 _
theorem yk1:∀ n,n<16->hexC n≠10:=by decide +kernel
theorem yk0:∀ s:List UInt8,∀ b ∈ hexL s,b≠10
 |[],b,h=>by cases h
 |c :: s,b,h=>by
  simp only [hexL,pv] at h;rcases h with rfl|rfl|h
  ·exact yk1 _ (by have:=c.toNat_lt;omega)
  ·exact yk1 _ (by omega)
  ·exact yk0 s b h
theorem zy8(s:List UInt8):∀ b ∈ hexT s,b≠10:=by
 unfold hexT;split
 ·intro b hb;simp at hb;rw [hb];decide
 ·exact yk0 s
end Go.Proofs.YtoefgnnkajhmiaaGreatDoor
