/-
  Part of the proof: lemmas about the functions that the row calls, and about the steps of a run. Conditions: those ahead of each lemma.
-/
import Derived.Shelf.Strings.Builder1
import Derived.Lib.ParseIntBCases
import Derived.Lib.Bytealg
import Derived.Lib.ItoaNum
import Derived.Shelf.Pu.ToError
import Derived.Shelf.Pu.ToErrorRange
import Derived.Test.YtoefgnnkajhmiaaGreatDoorB2
import Derived.Test.YtoefgnnkajhmiaaGreatDoorB1
import Derived.Test.YtoefgnnkajhmiaaGreatDoorM4
set_option linter.unusedVariables false
set_option linter.unusedSimpArgs false
set_option maxRecDepth 100000
set_option maxHeartbeats 64000000
namespace Go.Proofs.YtoefgnnkajhmiaaGreatDoor
open Go Go.Eng
def Fo.Len(f:Fo):Prop:=∀ h ∈ f.hosts,h.2.2.length<=9223372036854775807
theorem survey_fr(f:Fo)(hf:f.Fit)(hl:f.Len)(ks:List KB):COk Tryz.prog 40 [f.V] ks (fun s k=>s=(if f.ok then .tup [.map (lenB ks),.d (.int .i64 0)] else .tup [.v (.map none),.d (.int .i64 2)])/\k=(if f.ok then appB ks [j6 (j4 f.zones)] else ks)) :=
 (COk.frameX (survey_ok f hf hl) [] rfl rfl rfl).imp fun r k ⟨s0,k0,⟨h1,h2⟩,h3,h4⟩=>by
  subst h1 h2 h3 h4
  unfold qj0 qj1
  cases f.ok with
  |true =>
   refine⟨rfl,?_⟩
   show appB ks [mapK _ (j6 _)]=_
   rw[qm2]
   rfl
  |false=>exact⟨rfl,by show appB ks []=ks;rw[qw6,mv]⟩
theorem qs8(f:Fo)(hf:f.Fit)(hl:f.Len):FnOk Tryz.prog 14 [f.V] (.d (.int .i64 (if f.ok then 0 else 2))):=by
 refine qz (TT:=TT) (IN:=qi []) qk qm mixed 1000 Tryz.func14 rfl (qe Tryz.func14 (by kernel_rfl) rfl) rfl 10 (by kernel_rfl) ?_
 conv=>whnf
 refine .rel _ (survey_fr f hf hl _) (fun r ks' hR=>?_)
 obtain⟨rfl,rfl⟩:=hR
 cases f.ok with
 |true =>
  rw[if_pos rfl,if_pos rfl,if_pos rfl]
  conv=>whnf
 |false =>
  rw[if_neg (by decide),if_neg (by decide),if_neg (by decide)]
  conv=>whnf
def Ver.no(why:Int):Ver:=⟨[],St.no,0,why⟩
def Ver.V(v:Ver):SV:=.agg [.d (.int .i64 v.code),.d (stsD v.chain.isEmpty v.chain),.d (.str v.ans.nm),.d (.int .u16 v.ans.ty),.d (.int .u32 v.ans.ttl),.d (.sl v.ans.z v.ans.data.length 1 (strs v.ans.data))]
def escB(c:UInt8):List UInt8 :=
 if c=46\/c=92 then [92,c] else if 33<=c.toNat/\c.toNat<=126 then [c] else [92,UInt8.ofNat (48+c.toNat / 100),UInt8.ofNat (48+c.toNat / 10 % 10),UInt8.ofNat (48+c.toNat % 10)]
def escL:List UInt8->List UInt8
 |[]=>[]
 |c :: l=>escB c++escL l
def txtL:List (List UInt8)->List UInt8
 |[]=>[]
 |l :: ls=>escL l++46 :: txtL ls
def txtN(n:List UInt8):List UInt8:=if n=[0] then [46] else txtL (labN n)
def zf(c:UInt8):Bool:=decide (48<=c.toNat/\c.toNat<=57)
def behB:List UInt8->UInt8 × Nat
 |[]=>(0,0)
 |c :: r=>if zf c then (match r with
  |d :: e :: _=>if zf d then (if zf e then (if 100 * (c.toNat - 48)+10 * (d.toNat - 48)+(e.toNat - 48)<=255 then (UInt8.ofNat (100 * (c.toNat - 48)+10 * (d.toNat - 48)+(e.toNat - 48)),3) else (0,0)) else (0,0)) else (0,0)
  |_=>(0,0)) else (c,1)
def tcut:Nat->List UInt8->List UInt8->List (List UInt8)->Option (List (List UInt8))
 |0,_,_,_=>none
 |_+1,[],l,ls=>if l=[] then (if ls=[] then none else some ls) else some (ls++[l])
 |m+1,c :: r,l,ls=>if c=46 then (if l=[] then none else tcut m r [] (ls++[l])) else
  if c=92 then (if (behB r).2=0 then none else tcut m (r.drop (behB r).2) (l++[(behB r).1]) ls) else
  if 33<=c.toNat/\c.toNat<=126 then tcut m r (l++[c]) ls else none
theorem qh4:∀ (m m':Nat) (r l:List UInt8) (ls:List (List UInt8)),r.length<m->r.length<m'->tcut m r l ls=tcut m' r l ls
 |0,_,r,_,_,h,_=>absurd h (gx _)
 |_,0,r,_,_,_,h=>absurd h (gx _)
 |m+1,m'+1,[],l,ls,_,_=>rfl
 |m+1,m'+1,c :: r,l,ls,h,h'=>by
  simp only [ou] at h h'
  have hd:=o6 (l:=r) (i:=(behB r).2)
  simp only[tcut]
  split
  ·split
   ·rfl
   ·exact qh4 m m' r _ _ (by omega) (by omega)
  ·split
   ·split
    ·rfl
    ·exact qh4 m m' _ _ _ (by omega) (by omega)
   ·split
    ·exact qh4 m m' r _ _ (by omega) (by omega)
    ·rfl
theorem jd7:∀ n,n<256->zf (UInt8.ofNat (48+n / 100))=true/\zf (UInt8.ofNat (48+n / 10 % 10))=true/\zf (UInt8.ofNat (48+n % 10))=true /\
 100 * ((UInt8.ofNat (48+n / 100)).toNat - 48)+10 * ((UInt8.ofNat (48+n / 10 % 10)).toNat - 48)+((UInt8.ofNat (48+n % 10)).toNat - 48)=n:=by decide +kernel
theorem tcut_esc(m:Nat)(c:UInt8)(r l:List UInt8)(ls:List (List UInt8))(hm:(escB c++r).length<m):tcut m (escB c++r) l ls=tcut m r (l++[c]) ls:=by
 obtain⟨m,rfl⟩:∃ k,m=k+1:=⟨m - 1,by omega⟩
 unfold escB at hm ⊢
 split
 ·rename_i h
  rw [if_pos h] at hm
  simp only [gq,gy,ou] at hm
  have hnd:zf c=false:=by rcases h with rfl|rfl <;> rfl
  have hb:behB (c :: r)=(c,1):=by simp[behB,hnd]
  show tcut (m+1) (92 :: c :: r) l ls=_
  simp only[tcut]
  rw[if_neg (by decide),if_pos trivial,hb]
  simp only
  rw[if_neg (by decide)]
  exact qh4 _ _ _ _ _ (show r.length<m by omega) (show r.length<m+1 by omega)
 ·rename_i h
  rw [if_neg h] at hm
  split
  ·rename_i h2
   rw [if_pos h2] at hm
   simp only [gq,gy,ou] at hm
   show tcut (m+1) (c :: r) l ls=_
   simp only[tcut]
   rw[if_neg (fun e=>h (.inl e)),if_neg (fun e=>h (.inr e)),if_pos h2]
   exact qh4 _ _ _ _ _ (by omega) (by omega)
  ·rename_i h2
   rw [if_neg h2] at hm
   simp only [gq,gy,ou] at hm
   obtain⟨d1,d2,d3,d4⟩:=jd7 c.toNat (UInt8.toNat_lt _)
   have hb:behB (UInt8.ofNat (48+c.toNat / 100) :: UInt8.ofNat (48+c.toNat / 10 % 10) :: UInt8.ofNat (48+c.toNat % 10) :: r)=(c,3):=by
    have:=UInt8.toNat_lt c
    simp only[behB,d1,d2,d3,d4,if_true]
    rw[if_pos (by omega)]
    simp
   show tcut (m+1) (92 :: UInt8.ofNat (48+c.toNat / 100) :: UInt8.ofNat (48+c.toNat / 10 % 10) :: UInt8.ofNat (48+c.toNat % 10) :: r) l ls=_
   simp only[tcut]
   rw[if_neg (by decide),if_pos trivial,hb]
   simp only
   rw[if_neg (by decide)]
   exact qh4 _ _ _ _ _ (show r.length<m by omega) (show r.length<m+1 by omega)
theorem tcut_lab(m:Nat):∀ (s r l:List UInt8) (ls:List (List UInt8)),(escL s++r).length<m->tcut m (escL s++r) l ls=tcut m r (l++s) ls
 |[],r,l,ls,_=>by simp[escL]
 |c :: s,r,l,ls,h=>by
  simp only [escL,m6] at h ⊢
  rw [tcut_esc m c _ l ls h,tcut_lab m s r _ ls (by rw [pv] at h;omega)]
  simp
theorem tcut_txt(m:Nat):∀ (ks ls:List (List UInt8)),(∀ l ∈ ks,okL l)->(txtL ks).length<m->tcut m (txtL ks) [] ls=if ls++ks=[] then none else some (ls++ks)
 |[],ls,_,h=>by
  obtain⟨m,rfl⟩:∃ k,m=k+1:=⟨m - 1,by omega⟩
  simp[txtL,tcut]
 |l :: ks,ls,hk,h=>by
  have hl:=hk l (by simp)
  have hne:l≠[]:=fun e=>by rw [e] at hl;exact absurd hl.1 (by decide)
  simp only [txtL] at h ⊢
  rw[tcut_lab m l _ [] ls h,gy]
  rw [pv,ou] at h
  obtain⟨m,rfl⟩:∃ k,m=k+1:=⟨m - 1,by omega⟩
  simp only[tcut]
  rw[if_pos trivial,if_neg hne,tcut_txt m ks _ (fun x hx=>hk x (by simp[hx])) (by omega)]
  simp
theorem escB_len(c:UInt8):1<=(escB c).length/\(escB c).length<=4:=by
 unfold escB
 split
 ·simp
 ·split <;> simp
theorem qn9:∀ l:List UInt8,l.length<=(escL l).length/\(escL l).length<=4 * l.length
 |[]=>by simp[escL]
 |c :: l=>by
  have:=escB_len c
  have:=qn9 l
  simp only[escL,pv,ou]
  omega
theorem qi0:∀ ls:List (List UInt8),(∀ l ∈ ls,okL l)->(txtL ls).length<=4 * (mk ls).length
 |[],_=>by simp[txtL]
 |l :: ls,h=>by
  have h1:=qn9 l
  have h2:=qi0 ls fun x hx=>h x (by simp[hx])
  have h3:(mk (l :: ls)).length=1+l.length+(mk ls).length:=jg3 l ls
  simp only[txtL,pv,ou]
  omega
def okB(l:List UInt8):Bool:=decide (1<=l.length/\l.length<=63)
theorem all_ok{ls:List (List UInt8)}:ls.all okB=true↔∀ l ∈ ls,okL l:=by
 simp only[lw,okB,ly]
 exact Iff.rfl
def jx(s:List UInt8):List UInt8 × Int :=
 if s.length > 2048 then ([],7) else if s=[46] then ([0],0) else match tcut (s.length+1) s [] [] with
  |none=>([],6)
  |some ls=>if ls.all okB=true/\(mk ls).length<=255 then (mk ls,0) else ([],7)
theorem escL_ne{l:List UInt8}(h:okL l)(s:List UInt8):escL l++46 :: s≠[46]:=fun e=>by
 have h1:=qn9 l
 have h2:=congrArg List.length e
 have:=h.1
 simp only [pv,ou,gt] at h2
 omega
theorem parse_txt{n:List UInt8}(h:qc n):jx (txtN n)=(n,0):=by
 obtain⟨h1,h2,h3⟩:=xg h
 unfold txtN
 split
 ·rename_i e;rw[e];rfl
 ·rename_i hne
  have hl:=qi0 (labN n) h2
  rw [<-h3] at hl
  have hlen:=qi0 (labN n) h2
  have hn0:labN n≠[]:=fun e=>by rw [e] at h3;exact hne h3
  have hne2:txtL (labN n)≠[46]:=by
   obtain⟨l,ls,e⟩:=List.exists_cons_of_ne_nil hn0
   rw [e] at h2 ⊢
   exact escL_ne (h2 l (by simp)) _
  unfold jx
  rw[if_neg (by omega),if_neg hne2,tcut_txt _ (labN n) [] h2 (by omega),gy,if_neg hn0]
  simp only
  rw[if_pos ⟨all_ok.2 h2,by rw[<-h3];exact h1⟩,<-h3]
def jw(s:List UInt8):Nat->List DV:=fun j=>[.int .u8 (je s j)]
def restsM:List (List UInt8 × Int)->List (List DV × List SV)
 |[]=>[]
 |e :: l=>([.str e.1],[.d (.int .i64 e.2)]) :: restsM l
theorem wx(ρ:List Nat)(l:List (List UInt8 × Int)):renM ρ (restsM l)=restsM l:=by
 induction l with
 |nil=>rfl
 |cons e l ih=>simp[restsM,renM,renL,renV,ih]
theorem k7(a b:List UInt8)(i:Nat)(h:i<a.length+b.length):catF a.length (jw a) (fun j=>[.int .u8 (je b j)]) i=jw (a++b) i:=by
 unfold catF jw je
 split
 ·rename_i hl
  simp[oo hl]
 ·rename_i hl
  simp[o4 (show a.length<=i by omega)]
theorem qb8(s:List UInt8):j9 s.length (jw s)=s:=by
 apply cn
 intro i
 unfold j9
 rw[o5]
 by_cases h:i<s.length
 ·rw[bw h,pp h]
  simp[jw,je,h]
 ·rw[l7 (by simp;omega),l7 (by omega)]
  rfl
theorem lays240:Go.Proofs.Lays.n240 Tryz.prog Try.lays156_ren:=by
 have L:=Try.lays156
 exact { mixed:=L.mixed,f240:=L.f240,f276:=L.f276,t0:=L.t0,a0:=L.a0,z0:=L.z0,v0:=L.v0,t4:=L.t4,a4:=L.a4,z4:=L.z4,v4:=L.v4,t9:=L.t9,a9:=L.a9,z9:=L.z9,v9:=L.v9,t20:=L.t20,a20:=L.a20,z20:=L.z20,v20:=L.v20,t70:=L.t70,a70:=L.a70,z70:=L.z70,v70:=L.v70,t72:=L.t72,a72:=L.a72,z72:=L.z72,v72:=L.v72,t164:=L.t164,a164:=L.a164,z164:=L.z164,v164:=L.v164 }
theorem setCell_eq{w:World}{b:Nat}{vs:Array Value}{e:TypeId}{fz:Nat × Nat}(h:w.heap[b]? = some (.cells vs e fz))(off:Nat)(v:Value) :
 w.setCell ⟨b,off,none⟩ v=World.setBlock w b (.cells (vs.setIfInBounds off v) e fz):=by
 unfold World.setCell World.setBlock
 congr 1
 apply au
 intro j
 have hb:b<w.heap.size:=jm h
 rw[dn,fw]
 by_cases e1:b=j
 ·subst e1
  rw[if_pos rfl,if_pos rfl,if_pos hb,h]
  rfl
 ·rw[if_neg e1,if_neg e1]
theorem chk_fresh(s:SV):COk Tryz.prog 51 [.ptr 0 0] [.cells 65 [.v (.pointer none),s]] (fun r k=>r = .tup []/\k=[.cells 65 [.ptr 0 0,s]]):=by
 refine⟨qe Tryz.func51 (by kernel_rfl) rfl,fun X w β fp vs hM hl hd=>?_⟩
 match vs,hl with
 |[v0],_ =>
  have h0:=hd 0 _ v0 rfl rfl
  cases h0 with
  |ptr _ _ L hL =>
   have hb:=hM.at (i:=0) rfl (by simp) hL
   cases hb with
   |cells _ _ us hfp hblk hlen hden h1 =>
    have hsz:us.size=2:=by simpa using hlen.symm
    have hu0:us[0]? = some (.pointer none):=by
     have hlt:0<us.size:=by omega
     have hx:=hden 0 _ us[0] rfl (by simp[hlt])
     have hy:us[0] = .pointer none:=by
      generalize us[0]=x at hx
      cases hx
      rfl
     rw[oz hlt,hy]
    have hc0:w.cell? ⟨L.b,0,none⟩=some (.pointer none):=by simp[World.cell?,hblk,hu0]
    have hsh:w.shape? L.b=some (65,2):=by simp[World.shape?,hblk,hsz]
    have hfz:w.frozen? ⟨L.b,0,none⟩=false:=by simp[World.frozen?,hblk]
    refine(Any.Builder_copyCheck_fresh lays240 Try.Builder_Extra_156.toX72 L.b w hc0 hsh hfz).mono ?_
    rintro e w' ⟨rfl,rfl⟩
    have hset:w.setCell ⟨L.b,0,none⟩ (.pointer (some ⟨L.b,0,none⟩))=World.setBlock w L.b (.cells (us.setIfInBounds 0 (.pointer (some ⟨L.b,0,none⟩))) 65 (0,0)):=setCell_eq hblk _ _
    rw[hset]
    have W:=hM.store (i:=0) (l':=[.ptr 0 0,s]) (vs':=us.setIfInBounds 0 (.pointer (some ⟨L.b,0,none⟩))) rfl hL hfp hblk (by simpa using hlen) (fun j s' u hj hu=>by
     rw [fw] at hu
     match j with
     |0 =>
      injection hj with hj
      subst hj
      rw [if_pos rfl] at hu
      split at hu
      ·injection hu with hu
       subst hu
       exact .ptr 0 0 L hL
      ·cases hu
     |j+1 =>
      rw [if_neg (by omega)] at hu
      exact hden (j+1) s' u hj hu) (fun j u hu=>by
     rw [fw] at hu
     split at hu
     ·split at hu
      ·injection hu with hu
       subst hu
       rfl
      ·cases hu
     ·exact h1 j u hu)
    exact ⟨_,.tup [],_,_,_,rfl,⟨rfl,rfl⟩,W,.tup _ _ rfl (fun j s' u hj _=>by simp at hj)⟩
theorem chk_used(s:SV)(rest:List KB):COk Tryz.prog 51 [.ptr 0 0] (.cells 65 [.ptr 0 0,s] :: rest) (fun r k=>r = .tup []/\k = .cells 65 [.ptr 0 0,s] :: rest):=by
 refine⟨qe Tryz.func51 (by kernel_rfl) rfl,fun X w β fp vs hM hl hd=>?_⟩
 match vs,hl with
 |[v0],_ =>
  have h0:=hd 0 _ v0 rfl rfl
  cases h0 with
  |ptr _ _ L hL =>
   have hb:=hM.at (i:=0) rfl (by simp) hL
   cases hb with
   |cells _ _ us hfp hblk hlen hden h1 =>
    have hsz:us.size=2:=by simpa using hlen.symm
    have hu0:us[0]? = some (.pointer (some ⟨L.b,0,none⟩)):=by
     have hlt:0<us.size:=by omega
     have hx:=hden 0 _ us[0] rfl (by simp[hlt])
     have hy:us[0] = .pointer (some ⟨L.b,0,none⟩):=by
      generalize us[0]=x at hx
      cases hx with
      |ptr _ _ L' hL' =>
       rw [hL] at hL'
       cases hL'
       rfl
     rw[oz hlt,hy]
    have hc0:w.cell? ⟨L.b,0,none⟩=some (.pointer (some ⟨L.b,0,none⟩)):=by simp[World.cell?,hblk,hu0]
    refine(Any.Builder_copyCheck_used lays240 Try.Builder_Extra_156.toX72 L.b w hc0).mono ?_
    rintro e w' ⟨rfl,rfl⟩
    exact ⟨_,.tup [],_,_,_,rfl,⟨rfl,rfl⟩,Went.refl hM,.tup _ _ rfl (fun j s' u hj _=>by simp at hj)⟩
theorem pk1{X:Nat->Prop}{w:World}{β:Env}{fp:Nat->Nat->Prop}{k:KB}(h:Mem X w β fp [k]):Mem X w β fp [pk [k]]:=by
 have h0:∀ i b,fp i b->i=0:=fun i b hb=>by
  obtain⟨L,hL⟩:=h.kn i b hb
  cases i with
  |zero=>rfl
  |succ i=>rw [h.kl (i+1) (by simp)] at hL;cases hL
 refine⟨⟨h.xa,h.xb,h.dis,h.kw,h.kn,fun i L k' hk hne hL=>?_⟩,h.kl,fun i t dom cols hi=>?_,h.vo.sub (fun i b hb=>⟨i,hb⟩)⟩
 ·cases i with
  |succ i=>simp at hk
  |zero =>
   simp only [c8,m9] at hk
   subst hk
   exact .obj _ (jb [k]) ⟨β,fp,hL,h.kl,fun x=>⟨fun e=>⟨0,e⟩,fun ⟨j,e⟩=>by rw [h0 j x e] at e;exact e⟩,h.dis,h.kn,h.ka,fun i L k hk hne hL=>h.kb i L k hk hne hL⟩
 ·cases i with
  |zero=>simp [pk] at hi
  |succ i=>simp at hi
theorem packIn{P:Program}{f:FuncId}{al:List SV}{k:KB}{R:SV->List KB->Prop}(h:COk P f al [pk [k]] R):COk P f al [k] R :=
 ⟨h.1,fun X w β fp vs hM hl hd=>h.2 X w β fp vs (pk1 hM) hl hd⟩
inductive Bst where
 |fresh
 |live (s:List UInt8)
 |dead
def Bst.fl:Bst->List KB
 | .fresh=>[.cells 65 [.v (.pointer none),nilS]]
 | .live s=>[.cells 65 [.ptr 0 0,.all 1],.row 5 1 s.length .iff (fun j=>[.int .u8 (je s j)])]
 | .dead=>[.cells 65 [.ptr 0 0,.any]]
set_option maxRecDepth 100000 in
theorem bw0_ok(s:List UInt8)(hs:s.length<=70368744177664):COk Tryz.prog 20 [.ptr 0 0,.d (.str s)] [pk (Bst.fl .fresh)] (fun r k=>∃ b1,k=[pk (Bst.fl b1)]/\(r = .tup [.d (.int .i64 s.length),.v .nilIface]/\b1 = .live s)):=by
 refine COk.toThing Bst.fl (qm3 (TT:=TT) (IN:=qi []) qk qm mixed 1000 Tryz.func20 rfl (qe Tryz.func20 (by kernel_rfl) rfl) 17 (by kernel_rfl) rfl ?_ ?_)
 ·rintro r l ⟨w1,_,rfl,_⟩
  rfl
 conv=>whnf
 refine .rel _ (chk_fresh _) (fun x ks' hR=>?_)
 obtain⟨rfl,rfl⟩:=hR
 conv=>whnf
 refine⟨by omega,?_⟩
 conv=>whnf
 refine⟨[0,1],.tup [.d (.int .i64 s.length),.v .nilIface],Bst.fl (.live s),rfl,rfl,rfl,?_,_,rfl,rfl,rfl⟩
 repeat'(first|exact ⟨⟩|exact rfl|exact fun _=>Iff.rfl|exact fun _ _=>rfl|exact wx _ _|exact(pv ..).symm|exact k7 _ _|apply And.intro)
set_option maxRecDepth 100000 in
theorem bw1_ok(b s:List UInt8)(hs:b.length+s.length<=70368744177664):COk Tryz.prog 20 [.ptr 0 0,.d (.str s)] [pk (Bst.fl (.live b))] (fun r k=>∃ b1,k=[pk (Bst.fl b1)]/\(r = .tup [.d (.int .i64 s.length),.v .nilIface]/\b1 = .live (b++s))):=by
 refine COk.toThing Bst.fl (qm3 (TT:=TT) (IN:=qi []) qk qm mixed 1000 Tryz.func20 rfl (qe Tryz.func20 (by kernel_rfl) rfl) 17 (by kernel_rfl) rfl ?_ ?_)
 ·rintro r l ⟨w1,_,rfl,_⟩
  rfl
 conv=>whnf
 refine .rel _ (chk_used _ _) (fun x ks' hR=>?_)
 obtain⟨rfl,rfl⟩:=hR
 conv=>whnf
 refine⟨by omega,?_⟩
 conv=>whnf
 refine⟨[0,2],.tup [.d (.int .i64 s.length),.v .nilIface],Bst.fl (.live (b++s)),rfl,rfl,rfl,?_,_,rfl,rfl,rfl⟩
 repeat'(first|exact ⟨⟩|exact rfl|exact fun _=>Iff.rfl|exact fun _ _=>rfl|exact wx _ _|exact(pv ..).symm|exact k7 _ _|apply And.intro)
set_option maxRecDepth 100000 in
theorem bs_ok(s:List UInt8)(hs:s.length<=70368744177664):COk Tryz.prog 22 [.ptr 0 0] [pk (Bst.fl (.live s))] (fun r k=>∃ b1,k=[pk (Bst.fl b1)]/\(r = .d (.str s)/\b1 = .dead)):=by
 refine COk.toThing Bst.fl (qm3 (TT:=TT) (IN:=qi []) qk qm mixed 1000 Tryz.func22 rfl (qe Tryz.func22 (by kernel_rfl) rfl) 13 (by kernel_rfl) rfl ?_ ?_)
 ·rintro r l ⟨w1,_,rfl,_⟩
  rfl
 cases s with
 |nil =>
  conv=>whnf
  refine⟨rfl,?_⟩
  conv=>whnf
  refine⟨[0],.d (.str []),Bst.fl .dead,rfl,rfl,rfl,?_,_,rfl,rfl,rfl⟩
  repeat'(first|exact ⟨⟩|exact rfl|exact fun _=>Iff.rfl|exact fun _ _=>rfl|exact wx _ _|exact(pv ..).symm|exact k7 _ _|apply And.intro)
 |cons a s =>
  conv=>whnf
  refine⟨Nat.succ_le_succ (p6 _),?_⟩
  conv=>whnf
  have hb:j9 (a :: s).length (fun j=>[.int .u8 (je (a :: s) j)])=a :: s:=qb8 (a :: s)
  refine⟨⟨rfl,by omega,fun i _=>⟨((a :: s)[i]?).getD 0,rfl⟩⟩,?_⟩
  rw[hb]
  conv=>whnf
  refine⟨[0],.d (.str (a :: s)),Bst.fl .dead,rfl,rfl,rfl,?_,_,rfl,rfl,rfl⟩
  repeat'(first|exact ⟨⟩|exact rfl|exact fun _=>Iff.rfl|exact fun _ _=>rfl|exact wx _ _|exact(pv ..).symm|exact k7 _ _|apply And.intro)
theorem qf0(b:List UInt8)(c:UInt8)(i:Nat)(h:i<b.length+1):catF b.length (jw b) (qy [DV.int IntKind.u8 (c.toNat:Int)] 1) i=jw (b++[c]) i:=by
 unfold catF jw je
 split
 ·rename_i hl
  simp[oo hl]
 ·rename_i hl
  have:i=b.length:=by omega
  subst this
  simp[qy]
theorem wb0_ok(c:UInt8):COk Tryz.prog 21 [.ptr 0 0,.d (.int .u8 (c.toNat:Int))] [pk (Bst.fl .fresh)] (fun r k=>∃ b1,k=[pk (Bst.fl b1)]/\(r = .v .nilIface/\b1 = .live [c])):=by
 refine COk.toThing Bst.fl (qm3 (TT:=TT) (IN:=qi []) qk qm mixed 1000 Tryz.func21 rfl (qe Tryz.func21 (by kernel_rfl) rfl) 15 (by kernel_rfl) rfl ?_ ?_)
 ·rintro r l ⟨w1,_,rfl,_⟩
  rfl
 conv=>whnf
 refine .rel _ (chk_fresh _) (fun x ks' hR=>?_)
 obtain⟨rfl,rfl⟩:=hR
 conv=>whnf
 refine⟨by decide,?_⟩
 conv=>whnf
 refine⟨[0,2],.v .nilIface,Bst.fl (.live [c]),rfl,rfl,rfl,?_,_,rfl,rfl,rfl⟩
 repeat'(first|exact ⟨⟩|exact rfl|exact fun _=>Iff.rfl|exact fun _ _=>rfl|exact wx _ _|exact(pv ..).symm|exact k7 _ _|apply And.intro)
 intro i hi
 match i,hi with
 |0,_=>rfl
theorem yj(b:List UInt8)(c:UInt8)(hs:b.length+1<=70368744177664):COk Tryz.prog 21 [.ptr 0 0,.d (.int .u8 (c.toNat:Int))] [pk (Bst.fl (.live b))] (fun r k=>∃ b1,k=[pk (Bst.fl b1)]/\(r = .v .nilIface/\b1 = .live (b++[c]))):=by
 refine COk.toThing Bst.fl (qm3 (TT:=TT) (IN:=qi []) qk qm mixed 1000 Tryz.func21 rfl (qe Tryz.func21 (by kernel_rfl) rfl) 15 (by kernel_rfl) rfl ?_ ?_)
 ·rintro r l ⟨w1,_,rfl,_⟩
  rfl
 conv=>whnf
 refine .rel _ (chk_used _ _) (fun x ks' hR=>?_)
 obtain⟨rfl,rfl⟩:=hR
 conv=>whnf
 refine⟨by omega,?_⟩
 conv=>whnf
 refine⟨[0,3],.v .nilIface,Bst.fl (.live (b++[c])),rfl,rfl,rfl,?_,_,rfl,rfl,rfl⟩
 repeat'(first|exact ⟨⟩|exact rfl|exact fun _=>Iff.rfl|exact fun _ _=>rfl|exact wx _ _|exact(pv ..).symm|exact k7 _ _|apply And.intro)
 ·simp
 ·intro i hi
  exact(show catF b.length (jw b) (qy [DV.int IntKind.u8 ↑c.toNat] 1) i=_ from qf0 b c i hi)
theorem idx_cat(c:UInt8):∀ (x y:List UInt8),(∀ b ∈ x,b≠c)->Lib.indexByte (x++c :: y) c=x.length
 |[],y,_=>by simp[Lib.indexByte]
 |b :: x,y,h=>by
  have hb:(b == c)=false:=by simpa using h b (by simp)
  have ih:=idx_cat c x y (fun d hd=>h d (by simp[hd]))
  simp only[gq,Lib.indexByte,hb,ih]
  rw[if_neg (by decide),if_neg (by simp)]
  rfl
theorem jc8(c:UInt8):∀ (x:List UInt8),(∀ b ∈ x,b≠c)->Lib.indexByte x c = -1
 |[],_=>by simp[Lib.indexByte]
 |b :: x,h=>by
  have hb:(b == c)=false:=by simpa using h b (by simp)
  have ih:=jc8 c x (fun d hd=>h d (by simp[hd]))
  simp only[Lib.indexByte,hb]
  rw[if_neg (by decide),ih]
  rfl
def cutN:Nat->List UInt8->List (List UInt8)
 |0,s=>[s]
 |k+1,s=>if Lib.indexByte s 32<0 then [s] else s.take (Lib.indexByte s 32).toNat :: cutN k (s.drop ((Lib.indexByte s 32).toNat+1))
theorem qu6(k:Nat)(x y:List UInt8)(h:∀ b ∈ x,b≠32):cutN (k+1) (x++32 :: y)=x :: cutN k y:=by
 have hi:=idx_cat 32 x y h
 simp only[cutN]
 rw[hi,if_neg (by omega),pz]
 simp
theorem cutN_last(k:Nat)(x:List UInt8)(h:∀ b ∈ x,b≠32):cutN k x=[x]:=by
 cases k with
 |zero=>rfl
 |succ k =>
  simp only[cutN]
  rw[jc8 32 x h,if_pos (by decide)]
def yb(B:Nat)(s:List UInt8):Option Nat:=match Lib.parseUintB B s with
 | .ok u=>some u
 |_=>none
theorem dec_all(n:Nat):∀ c ∈ Lib.decDigits n,48<=c.toNat/\c.toNat<=57:=by
 induction n using Nat.strongRecOn with
 |ind n ih =>
  intro c hc
  have hd:∀ k,k<10->48<=(UInt8.ofNat (48+k)).toNat/\(UInt8.ofNat (48+k)).toNat<=57:=by decide
  rw [Lib.decDigits] at hc
  split at hc
  ·rename_i h
   simp only [gw] at hc
   rw[hc]
   exact hd n h
  ·rename_i h
   rcases mn.1 hc with hc|hc
   ·exact ih (n / 10) (by omega) c hc
   ·simp only [gw] at hc
    rw[hc]
    exact hd _ (by omega)
theorem dec_ne(n:Nat):Lib.decDigits n≠[]:=by
 rw[Lib.decDigits]
 split <;> simp
theorem magM_dec(M:Nat)(hM:M<1844674407370955162):∀ (n:Nat) (r:List UInt8),n<=M->Lib.parseUintM M 0 (Lib.decDigits n++r)=Lib.parseUintM M n r:=by
 intro n
 induction n using Nat.strongRecOn with
 |ind n ih =>
  intro r hn
  have hd:∀ k,k<10->48<=(UInt8.ofNat (48+k)).toNat/\(UInt8.ofNat (48+k)).toNat<=57/\(UInt8.ofNat (48+k)).toNat - 48=k:=by decide
  rw[Lib.decDigits]
  split
  ·rename_i h
   obtain⟨h1,h2,h3⟩:=hd n h
   simp only[gq,gy,Lib.parseUintM]
   rw[if_pos ⟨h1,h2⟩,if_neg (by omega),h3,if_neg (by omega)]
   simp
  ·rename_i h
   obtain⟨h1,h2,h3⟩:=hd (n % 10) (by omega)
   rw[m6,ih (n / 10) (by omega) _ (by omega)]
   simp only[gq,gy,Lib.parseUintM]
   rw[if_pos ⟨h1,h2⟩,if_neg (by omega),h3,show n / 10 * 10+n % 10=n by omega,if_neg (by omega)]
theorem qs0{B n:Nat}(hB:B<=32)(h:n<2 ^ B):yb B (Lib.decDigits n)=some n:=by
 have hp:2 ^ B<=2 ^ 32:=Nat.pow_le_pow_right (by decide) hB
 unfold yb Lib.parseUintB
 rw[if_neg (dec_ne n)]
 have:=magM_dec (2 ^ B - 1) (by omega) n [] (by omega)
 rw [mv] at this
 rw[this]
 rfl
def hexD:List UInt8:=[48,49,50,51,52,53,54,55,56,57,97,98,99,100,101,102]
def hexC(n:Nat):UInt8:=hexD.getD n 0
def hexL:List UInt8->List UInt8
 |[]=>[]
 |c :: l=>hexC (c.toNat / 16) :: hexC (c.toNat % 16) :: hexL l
def hexT(s:List UInt8):List UInt8:=if s=[] then [45] else hexL s
def u9:List UInt8->Option (List UInt8)
 |[]=>some []
 |[_]=>none
 |a :: b :: r=>if Lib.indexByte hexD a<0\/Lib.indexByte hexD b<0 then none else (u9 r).map (UInt8.ofNat (16 * (Lib.indexByte hexD a).toNat+(Lib.indexByte hexD b).toNat) :: ·)
def qg6(s:List UInt8):Option (List UInt8):=if s=[45] then some [] else if s=[]\/s.length % 2≠0\/s.length > 8192 then none else u9 s
theorem hexI:∀ n,n<16->Lib.indexByte hexD (hexC n)=(n:Int)/\hexC n≠32/\hexC n≠45:=by decide +kernel
theorem unhex_hex:∀ s:List UInt8,u9 (hexL s)=some s
 |[]=>rfl
 |c :: s=>by
  have h1:=(hexI (c.toNat / 16) (by have:=c.toNat_lt;omega)).1
  have h2:=(hexI (c.toNat % 16) (by omega)).1
  simp only[hexL,u9]
  rw[h1,h2,if_neg (by omega),unhex_hex s,pz,pz,show 16 * (c.toNat / 16)+c.toNat % 16=c.toNat by omega]
  simp
theorem qu1:∀ s:List UInt8,(hexL s).length=2 * s.length
 |[]=>rfl
 |c :: s=>by simp only[hexL,ou,qu1 s];omega
theorem unhexT_hex{s:List UInt8}(h:s.length<=4096):qg6 (hexT s)=some s:=by
 unfold hexT
 split
 ·rename_i e;rw[e];rfl
 ·rename_i hne
  have hl:=qu1 s
  obtain⟨c,r,rfl⟩:=List.exists_cons_of_ne_nil hne
  unfold qg6
  rw [if_neg (fun e=>by have:=congrArg List.length e;simp at this hl;omega),if_neg (by rw [hl];simp [hexL];simp at h;omega)]
  exact unhex_hex _
theorem hexL_no:∀ s:List UInt8,∀ b ∈ hexL s,b≠32
 |[],b,h=>by cases h
 |c :: s,b,h=>by
  simp only [hexL,pu] at h
  rcases h with rfl|rfl|h
  ·exact(hexI _ (by have:=c.toNat_lt;omega)).2.1
  ·exact(hexI _ (by omega)).2.1
  ·exact hexL_no s b h
theorem hexT_no(s:List UInt8):∀ b ∈ hexT s,b≠32:=by
 unfold hexT
 split
 ·intro b hb;simp at hb;rw [hb];decide
 ·exact hexL_no s
theorem dec_no(n:Nat):∀ b ∈ Lib.decDigits n,b≠32:=fun b hb e=>by
 have:=dec_all n b hb
 rw [e] at this
 exact absurd this.1 (by decide)
theorem escB_no(c:UInt8):∀ b ∈ escB c,b≠32:=by
 have hd:=jd7 c.toNat c.toNat_lt
 have hn:∀ x:UInt8,zf x=true->x≠32:=fun x hx e=>by rw [e] at hx;exact absurd hx (by decide)
 unfold escB
 split
 ·rename_i h
  intro b hb
  simp only [pu,List.mem_nil_iff,or_false] at hb
  rcases hb with rfl|rfl
  ·decide
  ·rcases h with rfl|rfl <;> decide
 ·split
  ·rename_i h
   intro b hb
   simp only [gw] at hb
   subst hb
   rintro rfl
   exact absurd h.1 (by decide)
  ·intro b hb
   simp only [pu,List.mem_nil_iff,or_false] at hb
   rcases hb with rfl|rfl|rfl|rfl
   ·decide
   ·exact hn _ hd.1
   ·exact hn _ hd.2.1
   ·exact hn _ hd.2.2.1
theorem escL_no:∀ l:List UInt8,∀ b ∈ escL l,b≠32
 |[],b,h=>by cases h
 |c :: l,b,h=>by
  simp only [escL,mn] at h
  exact h.elim (escB_no c b) (escL_no l b)
theorem txtL_no:∀ ls:List (List UInt8),∀ b ∈ txtL ls,b≠32
 |[],b,h=>by cases h
 |l :: ls,b,h=>by
  simp only [txtL,mn,pu] at h
  rcases h with h|rfl|h
  ·exact escL_no l b h
  ·decide
  ·exact txtL_no ls b h
theorem txtN_no(n:List UInt8):∀ b ∈ txtN n,b≠32:=by
 unfold txtN
 split
 ·intro b hb;simp at hb;rw [hb];decide
 ·exact txtL_no _
theorem jj4:∀ a b:List UInt8,hexL (a++b)=hexL a++hexL b
 |[],b=>rfl
 |c :: a,b=>by simp only[gq,hexL,jj4 a b]
theorem hexL_snoc{l:List UInt8}{k:Nat}{c:UInt8}(h:l[k]? = some c):hexL (l.take (k+1))=hexL (l.take k)++[hexC (c.toNat / 16),hexC (c.toNat % 16)]:=by
 rw[m5,h,jj4]
 simp[hexL]
theorem byteAt_two(b:List UInt8)(x y:UInt8)(i:Nat)(h:i<b.length+2):catF b.length (jw b) (qy [DV.int IntKind.u8 (x.toNat:Int),DV.int IntKind.u8 (y.toNat:Int)] 1) i=jw (b++[x,y]) i:=by
 unfold catF jw je
 split
 ·rename_i hl
  simp[oo hl]
 ·rename_i hl
  have:i=b.length\/i=b.length+1:=by omega
  rcases this with rfl|rfl
  ·simp[qy]
  ·simp[qy]
theorem shr4:∀ n:Nat,n<256->((n:Nat):Int).fdiv (2 ^ min (Int.toNat 4) IntKind.u8.bits)=((n / 16:Nat):Int)/\Go.bits BinOp.and IntKind.u8 ((n:Nat):Int) 15=((n % 16:Nat):Int):=by decide +kernel
theorem idxb_ok(s:List UInt8)(c:UInt8):FnOk Tryz.prog 170 [.d (.str s),.d (.int .u8 (c.toNat:Int))] (.d (.int .i64 (Lib.indexByte s c))):=by
 refine⟨qe Tryz.func170 (by kernel_rfl) rfl,fun M w vs hV hM hl hd=>?_⟩
 match vs,hl with
 |[v0,v1],_ =>
  have h0:=yu (hd 0 _ v0 rfl rfl)
  have h1:=jc (hd 1 _ v1 rfl rfl)
  subst h0 h1
  refine(Try.strings_IndexByte ⟨s.toArray⟩ (c.toNat:Int) w).mono ?_
  rintro e w' ⟨rfl,rfl⟩
  have:(c.toNat:Int).toNat.toUInt8=c:=by rw[pz];exact UInt8.ofNat_toNat
  rw[this]
  exact⟨_,rfl,Step.refl _ _,.d (.int _ _)⟩
theorem hexI_lt:∀ a:UInt8,Lib.indexByte hexD a<16:=fun a=>by
 have:∀ n:Nat,n<256->Lib.indexByte hexD (UInt8.ofNat n)<16:=by decide +kernel
 have:=this a.toNat a.toNat_lt
 rwa [UInt8.ofNat_toNat] at this
theorem shlor:∀ i:Nat,i<16->∀ j:Nat,j<16->IntKind.u8.wrap (Go.bits BinOp.or IntKind.i64 (IntKind.i64.wrap ((i:Int) * 2 ^ min (Int.toNat 4) IntKind.i64.bits)) (j:Int))=((UInt8.ofNat (16 * i+j)).toNat:Int):=by decide +kernel
def unhexV(o:Option (List UInt8)):SV:=match o with
 |some d=>.tup [.d (.str d),.d (.bool true)]
 |none=>.tup [.d (.str []),.d (.bool false)]
structure UhSt where
 i:Nat
 b:List UInt8
def RR.line(r:RR):List UInt8:=txtN r.nm++32 :: (Lib.decDigits r.ttl.toNat++32 :: (Lib.decDigits r.cl.toNat++32 :: (Lib.decDigits r.ty.toNat++32 :: hexT r.d)))
theorem RR.line_cut(r:RR):cutN 5 r.line=[txtN r.nm,Lib.decDigits r.ttl.toNat,Lib.decDigits r.cl.toNat,Lib.decDigits r.ty.toNat,hexT r.d]:=by
 unfold RR.line
 rw[qu6 4 _ _ (txtN_no _),qu6 3 _ _ (dec_no _),qu6 2 _ _ (dec_no _),qu6 1 _ _ (dec_no _),cutN_last 1 _ (hexT_no _)]
def qb3(ws:List (List UInt8)):Option RR:=match ws with
 |[w0,w1,w2,w3,w4]=>match yb 32 w1,yb 16 w2,yb 16 w3,qg6 w4 with
  |some t,some c,some y,some d=>if (jx w0).2=0 then some ⟨(jx w0).1,y,c,t,d⟩ else none
  |_,_,_,_=>none
 |_=>none
def yv(s:List UInt8):Option RR:=match qb3 (cutN 5 s) with
 |some r=>if r.check=true/\r.line=s then some r else none
 |none=>none
theorem parseR_some{s:List UInt8}{r:RR}(h:yv s=some r):r.check=true/\r.line=s:=by
 unfold yv at h
 split at h
 ·split at h
  ·rename_i h1
   cases h
   exact h1
  ·cases h
 ·cases h
structure RR.In(r:RR):Prop where
 ty:0<=r.ty/\r.ty<=65535
 cl:0<=r.cl/\r.cl<=65535
 ttl:0<=r.ttl/\r.ttl<=4294967295
theorem qm6{r:RR}(h:r.check=true):qc r.nm:=by
 unfold RR.check at h
 simp only [oq,ly] at h
 exact h.1.1
theorem parse_line{r:RR}(h:r.check=true)(hi:r.In)(hd:r.d.length<=4096):yv r.line=some r:=by
 have hn:=qm6 h
 have ht:=parse_txt hn
 unfold yv
 rw[r.line_cut]
 have hc:qb3 [txtN r.nm,Lib.decDigits r.ttl.toNat,Lib.decDigits r.cl.toNat,Lib.decDigits r.ty.toNat,hexT r.d]=some r:=by
  unfold qb3
  simp only
  rw[qs0 (B:=32) (by decide) (by have:=hi.ttl;omega),qs0 (B:=16) (by decide) (by have:=hi.cl;omega),qs0 (B:=16) (by decide) (by have:=hi.ty;omega),unhexT_hex hd,ht]
  simp only
  rw[if_pos trivial]
  obtain⟨n,y,c,t,d⟩:=r
  have h1:=hi.ty
  have h2:=hi.cl
  have h3:=hi.ttl
  simp only at h1 h2 h3
  show some (RR.mk n _ _ _ d)=some (RR.mk n y c t d)
  rw[Int.toNat_of_nonneg h1.1,Int.toNat_of_nonneg h2.1,Int.toNat_of_nonneg h3.1]
 rw[hc]
 simp only
 rw[if_pos ⟨h,trivial⟩]
theorem index_ok(s:List UInt8)(c:UInt8):FnOk Tryz.prog 192 [.d (.str s),.d (.str [c])] (.d (.int .i64 (Lib.indexByte s c))):=by
 refine⟨qe Tryz.func192 (by kernel_rfl) rfl,fun M w vs _ hM hl hd=>?_⟩
 match vs,hl with
 |[v0,v1],_ =>
  have h0:=yu (hd 0 _ v0 rfl rfl)
  have h1:=yu (hd 1 _ v1 rfl rfl)
  subst h0 h1
  refine(Try.strings_Index_one ⟨s.toArray⟩ c w).mono ?_
  rintro e w' ⟨rfl,rfl⟩
  exact⟨_,rfl,Step.refl _ _,.d (.int _ _)⟩
def dig(n:Nat):List UInt8:=if n<10 then [UInt8.ofNat (48+n)] else if n<100 then [UInt8.ofNat (48+n / 10),UInt8.ofNat (48+n % 10)] else [UInt8.ofNat (48+n / 100),UInt8.ofNat (48+n / 10 % 10),UInt8.ofNat (48+n % 10)]
theorem dig_dec{n:Nat}(h:n<1000):Lib.decDigits n=dig n:=by
 unfold dig
 rw[Lib.decDigits]
 split
 ·rfl
 ·rename_i h1
  rw[Lib.decDigits]
  split
  ·rename_i h2
   rw[if_pos (by omega)];rfl
  ·rename_i h2
   rw[Lib.decDigits,dif_pos (by omega),if_neg (by omega)]
   show[_,_,_]=_
   rw[show n / 10 / 10=n / 100 by omega]
theorem small_ok(i:Nat)(h:i<100):FnOk Tryz.prog 152 [.d (.int .i64 i)] (.d (.str (dig i))):=by
 refine⟨qe Tryz.func152 (by kernel_rfl) rfl,fun M w vs _ hM hl hd=>?_⟩
 match vs,hl with
 |[v0],_ =>
  have h0:=jc (hd 0 _ v0 rfl rfl)
  subst h0
  refine(Try.internal_strconv_small i h w).mono ?_
  rintro e w' ⟨rfl,rfl⟩
  rw[dig_dec (by omega)]
  exact⟨_,rfl,Step.refl _ _,.d (.str _)⟩
theorem tab_in:(1,isTab .u64 ((List.range 20).map fun i=>((10 ^ i:Nat):Int))) ∈ evs:=by unfold evs;simp only[pu];first|exact .inr (.inr (.inl rfl))|exact .inr (.inr (.inl ⟨rfl,rfl⟩))|simp
theorem tab_is {w : World} {fp : Nat → Nat → Prop} (h : VOk w fp) : Lib.TabIs Tryz.prog w "internal/strconv.uint64pow10" .u64 Lib.pow10Tab := by
 obtain⟨⟨vs,t,fz,e,h1⟩,_⟩:=h _ tab_in
 unfold Lib.TabIs World.var?
 rw [show Tryz.prog.globalNamed "internal/strconv.uint64pow10" = some 1 by kernel_rfl]
 simp only[f7,e]
 exact congrArg some h1
theorem putRow_block{w:World}{b:Nat}{vs:Array Value}{t:TypeId}{fz:Nat × Nat}(h:w.heap[b]? = some (.cells vs t fz))(enc:UInt8->Value)(d:Array UInt8):Sort.putRow enc w b 0 d=World.setBlock w b (.cells (Sort.putCells enc 0 d vs) t fz):=by
 unfold Sort.putRow Sort.mapBlock World.setBlock
 congr 1
 apply au
 intro j
 have hb:b<w.heap.size:=jm h
 rw[dn,fw]
 by_cases e1:b=j
 ·subst e1
  rw[if_pos rfl,if_pos rfl,if_pos hb,h]
  rfl
 ·rw[if_neg e1,if_neg e1]
def z8:SV:=.d (.int .u8 0)
def b8(c:UInt8):SV:=.d (.int .u8 (c.toNat:Int))
theorem hex_ok(s:List UInt8)(hs:s.length<=1000000):FnOk Tryz.prog 84 [.d (.str s)] (.d (.str (hexT s))):=by
 refine qz (TT:=TT) (IN:=qi []) qk qm mixed 1000 Tryz.func84 rfl (qe Tryz.func84 (by kernel_rfl) rfl) rfl 31 (by kernel_rfl) ?_
 conv=>whnf
 refine⟨fun h1=>?_,fun h1=>?_⟩
 ·have h1:s=[]:=by simpa using h1
  subst h1
  conv=>whnf
  try exact rfl
 have h1:s≠[]:=by simpa using h1
 rw[show hexT s=hexL s from if_neg h1]
 conv=>whnf
 rw[qd (2 * (s.length:Int)) (by omega)]
 refine⟨by omega,?_⟩
 conv=>whnf
 have hdg:∀ n:Nat,n<16->je (ByteArray.mk #[48,49,50,51,52,53,54,55,56,57,97,98,99,100,101,102]).data.toList ((n:Nat):Int)=((hexC n).toNat:Int):=by decide
 refine .inv Nat (fun i=>i<=s.length) (fun i=>[(3,.all 0),(10,.any),(13,iV i)]) (fun i=>[(0,.row 5 1 (hexL (s.take i)).length .no (jw (hexL (s.take i))))]) (fun i=>s.length - i) ⟨0,[0],p6 _,?_⟩ ?_
 ·conv=>whnf
  repeat'(first|exact ⟨⟩|exact rfl|exact qa _|exact .inr rfl|exact fun _ _=>rfl|exact noI|apply And.intro)
 intro i hi
 have hlen:=qu1 (s.take i)
 rw [lu] at hlen
 conv=>whnf
 refine⟨fun c0=>?_,fun c0=>?_⟩
 ·have c0':i<s.length:=(by have h:(i:Int)<s.length:=pw c0;omega)
  have hsk:s[i]? = some s[i]:=pp c0'
  have hbk:je s (i:Int)=((s[i].toNat:Nat):Int):=by rw[yn];unfold bt;rw[hsk];rfl
  have hnx:=hexL_snoc hsk
  generalize s[i]=c at hsk hbk hnx
  have hc:=c.toNat_lt
  have hk1:=w64s i (by omega)
  conv=>whnf
  refine⟨by omega,?_⟩
  conv=>whnf
  rw[hbk]
  refine⟨by decide,?_⟩
  conv=>whnf
  obtain⟨e1,e2⟩:=shr4 c.toNat hc
  rw[e1]
  refine⟨⟨by omega,by show((c.toNat / 16:Nat):Int)<16;omega⟩,?_⟩
  conv=>whnf
  rw[hdg _ (by omega)]
  refine⟨by omega,?_⟩
  conv=>whnf
  rw[hbk,e2]
  refine⟨⟨by omega,by show((c.toNat % 16:Nat):Int)<16;omega⟩,?_⟩
  conv=>whnf
  rw[hdg _ (by omega)]
  refine⟨by omega,?_⟩
  conv=>whnf
  rw[hk1]
  refine⟨i+1,[2],c0',by show s.length - (i+1)<s.length - i;omega,?_⟩
  rw[hnx]
  conv=>whnf
  repeat'(first|exact ⟨⟩|exact rfl|exact qa _|exact .inr rfl|exact fun _ _=>rfl|exact noI|apply And.intro)
  all_goals first
   |(show _+2=(_++[_,_]).length;simp)
   |exact(fun i hi=>byteAt_two _ _ _ i hi)
 ·have c0':i=s.length:=(by have h:¬ (i:Int)<s.length:=px c0;omega)
  subst c0'
  rw[lx]
  conv=>whnf
  refine⟨fun i _=>⟨_,rfl⟩,?_⟩
  rw[qb8]
  conv=>whnf
  try exact rfl
theorem unhex_ok(s:List UInt8):FnOk Tryz.prog 136 [.d (.str s)] (unhexV (qg6 s)):=by
 refine qz (TT:=TT) (IN:=qi []) qk qm mixed 1000 Tryz.func136 rfl (qe Tryz.func136 (by kernel_rfl) rfl) rfl 57 (by kernel_rfl) ?_
 conv=>whnf
 refine⟨fun h1=>?_,fun h1=>?_⟩
 ·have h1:s=[45]:=by simpa using h1
  rw[show qg6 s=some [] from if_pos h1]
  conv=>whnf
  repeat'(first|exact ⟨⟩|exact rfl|exact fun _=>Iff.rfl|exact fun _ _=>rfl|exact renM_ent rfl _|apply And.intro)
 have h1:s≠[45]:=by simpa using h1
 have he:qg6 s=if s=[]\/s.length % 2≠0\/s.length > 8192 then none else u9 s:=if_neg h1
 conv=>whnf
 by_cases h2:s=[]
 ·rw[he,if_pos (.inl h2)]
  subst h2
  refine brT rfl ?_
  conv=>whnf
  repeat(first|(refine brF rfl ?_;conv=>whnf)|(refine brT rfl ?_;conv=>whnf))
  repeat'(first|exact ⟨⟩|exact rfl|exact fun _=>Iff.rfl|exact fun _ _=>rfl|exact renM_ent rfl _|apply And.intro)
 refine brF (by simpa using h2) ?_
 conv=>whnf
 refine⟨by decide,?_⟩
 conv=>whnf
 by_cases h3:s.length % 2=0
 case neg =>
  rw[he,if_pos (.inr (.inl h3))]
  refine brT (by rw[bne_iff_ne];show((s.length:Int)).tmod 2≠0;rw[Int.tmod_eq_emod_of_nonneg (by omega)];omega) ?_
  conv=>whnf
  repeat(first|(refine brF rfl ?_;conv=>whnf)|(refine brT rfl ?_;conv=>whnf))
  repeat'(first|exact ⟨⟩|exact rfl|exact fun _=>Iff.rfl|exact fun _ _=>rfl|exact renM_ent rfl _|apply And.intro)
 refine brF (by rw[bne_eq_false_iff_eq];show((s.length:Int)).tmod 2=0;rw[Int.tmod_eq_emod_of_nonneg (by omega)];omega) ?_
 conv=>whnf
 by_cases h4:s.length<=8192
 case neg =>
  rw[he,if_pos (.inr (.inr (by omega)))]
  refine brT (pn (by omega)) ?_
  conv=>whnf
  repeat(first|(refine brF rfl ?_;conv=>whnf)|(refine brT rfl ?_;conv=>whnf))
  repeat'(first|exact ⟨⟩|exact rfl|exact fun _=>Iff.rfl|exact fun _ _=>rfl|exact renM_ent rfl _|apply And.intro)
 refine brF (po (by omega)) ?_
 conv=>whnf
 rw[he,if_neg (fun h=>by rcases h with h|h|h;exact h2 h;omega;omega)]
 clear he
 repeat(first|(refine brF rfl ?_;conv=>whnf)|(refine brT rfl ?_;conv=>whnf))
 refine⟨by decide,?_⟩
 conv=>whnf
 have hdv:IntKind.i64.wrap ((s.length:Int).tdiv 2)=((s.length / 2:Nat):Int):=by
  rw[Int.tdiv_eq_ediv_of_nonneg (by omega),qd _ (by omega)];omega
 rw[hdv]
 refine⟨by omega,?_⟩
 conv=>whnf
 refine .inv UhSt (fun x=>x.i<=s.length/\x.i=2 * x.b.length/\(u9 (s.drop x.i)).map (x.b ++ ·)=u9 s) (fun x=>[(4,.all 0),(5,iV x.i),(26,.any)]) (fun x=>[(0,.row 5 1 x.b.length .no (jw x.b))]) (fun x=>s.length - x.i) ⟨⟨0,[]⟩,[0],⟨p6 _,rfl,by simp⟩,?_⟩ ?_
 ·conv=>whnf
  repeat'(first|exact ⟨⟩|exact rfl|exact qa _|exact .inr rfl|exact fun _ _=>rfl|exact noI|apply And.intro)
 intro x hx
 obtain⟨hk,hm,hrest⟩:=hx
 conv=>whnf
 generalize x.i=i at hk hm hrest ⊢
 generalize x.b=b at hm hrest ⊢
 refine⟨fun c0=>?_,fun c0=>?_⟩
 ·have c0':i<s.length:=(by have h:(i:Int)<s.length:=pw c0;omega)
  have c1':i+1<s.length:=by omega
  have hs0:s[i]? = some s[i]:=pp c0'
  have hs1:s[i+1]? = some s[i+1]:=pp c1'
  have hd0:s.drop i=s[i] :: s[i+1] :: s.drop (i+2):=by rw[l9 c0',l9 c1']
  have hb0:je s (i:Int)=((s[i].toNat:Nat):Int):=by rw[yn];unfold bt;rw[hs0];rfl
  have hb1:je s ((i+1:Nat):Int)=((s[i+1].toNat:Nat):Int):=by rw[yn];unfold bt;rw[hs1];rfl
  generalize s[i]=p at hs0 hd0 hb0
  generalize s[i+1]=q at hs1 hd0 hb1
  have hk1:=w64s i (by omega)
  have hk2:IntKind.i64.wrap ((i:Int)+2)=((i+2:Nat):Int):=by rw[qd _ (by omega)];omega
  rw [hd0] at hrest
  simp only [u9] at hrest
  conv=>whnf
  refine⟨by omega,?_⟩
  conv=>whnf
  rw[hb0]
  refine .data _ (idxb_ok hexD p) rfl rfl ?_
  conv=>whnf
  rw[hk1]
  refine⟨by omega,?_⟩
  conv=>whnf
  rw[hb1]
  refine .data _ (idxb_ok hexD q) rfl rfl ?_
  conv=>whnf
  have hpl:=hexI_lt p
  have hql:=hexI_lt q
  generalize Lib.indexByte hexD p=u at hrest hpl ⊢
  generalize Lib.indexByte hexD q=v at hrest hql ⊢
  by_cases hu:u<0
  ·rw [if_pos (.inl hu)] at hrest
   rw[<-hrest]
   refine brT (pn hu) ?_
   conv=>whnf
   repeat(first|(refine brF rfl ?_;conv=>whnf)|(refine brT rfl ?_;conv=>whnf))
   repeat'(first|exact ⟨⟩|exact rfl|exact fun _=>Iff.rfl|exact fun _ _=>rfl|exact renM_ent rfl _|apply And.intro)
  refine brF (po hu) ?_
  conv=>whnf
  by_cases hv:v<0
  ·rw [if_pos (.inr hv)] at hrest
   rw[<-hrest]
   refine brT (pn hv) ?_
   conv=>whnf
   repeat(first|(refine brF rfl ?_;conv=>whnf)|(refine brT rfl ?_;conv=>whnf))
   repeat'(first|exact ⟨⟩|exact rfl|exact fun _=>Iff.rfl|exact fun _ _=>rfl|exact renM_ent rfl _|apply And.intro)
  refine brF (po hv) ?_
  conv=>whnf
  repeat(first|(refine brF rfl ?_;conv=>whnf)|(refine brT rfl ?_;conv=>whnf))
  rw [if_neg (fun h=>h.elim hu hv)] at hrest
  obtain⟨u,rfl⟩:∃ n:Nat,u=n:=⟨u.toNat,by omega⟩
  obtain⟨v,rfl⟩:∃ n:Nat,v=n:=⟨v.toNat,by omega⟩
  simp only [pz] at hrest
  refine⟨by decide,?_⟩
  conv=>whnf
  rw[shlor u (by omega) v (by omega)]
  refine⟨by omega,?_⟩
  conv=>whnf
  rw[hk2]
  refine⟨⟨i+2,b++[UInt8.ofNat (16 * u+v)]⟩,[2],⟨by show i+2<=s.length;omega,by show i+2=2 * (b++[_]).length;rw[pv];show i+2=2 * (b.length+1);omega,?_⟩,by show s.length - (i+2)<s.length - i;omega,?_⟩
  ·rw[<-hrest]
   show(u9 (s.drop (i+2))).map ((b++[_]) ++ ·)=_
   rw[Option.map_map]
   congr 1
   funext z
   simp
  conv=>whnf
  repeat'(first|exact ⟨⟩|exact rfl|exact qa _|exact .inr rfl|exact fun _ _=>rfl|exact noI|apply And.intro)
  all_goals first
   |(show b.length+1=(b++[_]).length;simp)
   |exact(fun j hj=>qf0 b _ j hj)
 ·have c0':i=s.length:=(by have h:¬ (i:Int)<s.length:=px c0;omega)
  rw [c0',c7] at hrest
  rw[<-hrest]
  conv=>whnf
  refine⟨fun i _=>⟨_,rfl⟩,?_⟩
  rw[qb8]
  conv=>whnf
  show _/\_
  simp only[mv]
  repeat'(first|exact ⟨⟩|exact rfl|exact fun _=>Iff.rfl|exact fun _ _=>rfl|exact renM_ent rfl _|apply And.intro)
def digC(n k:Nat):List SV:=(List.range k).map fun t=>b8 (Lib.dg n (k - 1 - t))
theorem digC_at{n k j:Nat}(h:j<k):(digC n k)[j]? = some (b8 (Lib.dg n (k - 1 - j))):=by simp[digC,h]
theorem baseK_ok(n k:Nat)(hk:k<=20)(h:n<10 ^ k)(hn:n<18446744073709551616):COk Tryz.prog 154 [.cs 0 0 k 24,.d (.int .u64 n)] [.cells 204 (List.replicate 24 z8)]
 (fun r ks=>r = .tup []/\ks=[.cells 204 (digC n k++List.replicate (24 - k) z8)]):=by
 refine⟨qe Tryz.func154 (by kernel_rfl) rfl,fun X w β fp vs hM hl hd=>?_⟩
 match vs,hl with
 |[v0,v1],_ =>
  have h0:=hd 0 _ v0 rfl rfl
  have h1:=jc (hd 1 _ v1 rfl rfl)
  subst h1
  cases h0 with
  |cs _ _ _ _ L hL hnc =>
   have hb:=hM.at (i:=0) rfl (by simp) hL
   cases hb with
   |cells _ _ us hfp hblk hlen hden h1 =>
    have hsz:us.size=24:=by simpa using hlen.symm
    have hu:∀ j,j<24->us[j]? = some (.int .u8 0):=fun j hj=>by
     have hlt:j<us.size:=by omega
     have hx:=hden j z8 us[j] (by rw[List.getElem?_replicate];simp[hj]) (by simp[hlt])
     rw[oz hlt]
     exact congrArg some (jc hx)
    have hc:∀ j,j<24->w.cell? ⟨L.b,j,none⟩=some (.int .u8 0):=fun j hj=>by simp[World.cell?,hblk,hu j hj]
    have hfz:∀ j,w.frozen? ⟨L.b,j,none⟩=false:=fun j=>by simp[World.frozen?,hblk]
    have hds0:(Array.replicate k (0:UInt8)).size=k:=by simp
    have hcall:=Try.internal_strconv_formatBase10 L.b 0 24 n (Array.replicate k 0) w (fun j hj=>⟨?_,?_⟩) (by rw[hds0];exact h) hn (by rw[hds0];omega)
    rotate_left
    ·rw [hds0] at hj
     rw[ow,hc j (by omega)]
     have:(Array.replicate k (0:UInt8))[j]! = 0:=by rw[getElem!_pos _ j (by rw[hds0];exact hj)];simp
     rw[this]
     rfl
    ·rw[ow];exact hfz j
    rw [hds0] at hcall
    refine hcall.mono ?_
    rintro e w' ⟨rfl,m,v',dk,rfl,hinv⟩
    have hds:dk.size=k:=hinv.size
    have hdk:∀ t,t<k->dk[t]! = Lib.dg n (k - 1 - t):=fun t ht=>hinv.done t (p6 _) ht
    rw[putRow_block hblk]
    have hget:∀ j,(Sort.putCells (fun(b:UInt8)=>Value.int .u8 (b.toNat:Int)) 0 dk us)[j]? = if j<k then some (.int .u8 ((Lib.dg n (k - 1 - j)).toNat:Int)) else us[j]?:=fun j=>by
     unfold Sort.putCells
     rw[Array.getElem?_mapIdx]
     by_cases hj:j<k
     ·rw[hu j (by omega),if_pos hj]
      simp only[o7,hds]
      rw[if_pos (by omega),rp,hdk j hj]
     ·rw[if_neg hj]
      cases us[j]? with
      |none=>rfl
      |some x=>simp only[o7,hds];rw[if_neg (by omega)]
    have hlC:(digC n k).length=k:=by simp[digC]
    have W:=hM.store (i:=0) (l':=digC n k++List.replicate (24 - k) z8) (vs':=Sort.putCells (fun(b:UInt8)=>Value.int .u8 (b.toNat:Int)) 0 dk us) rfl hL hfp hblk (by simp[Sort.putCells,hsz,hlC];omega) (fun j s' u hj hu'=>by
     rw [hget] at hu'
     by_cases hjk:j<k
     ·rw [if_pos hjk] at hu'
      rw [oo (by omega),digC_at hjk] at hj
      cases hj
      cases hu'
      exact .d (.int _ _)
     ·rw [if_neg hjk] at hu'
      rw [o4 (by omega),List.getElem?_replicate] at hj
      have hs':s'=z8:=by
       split at hj
       ·cases hj;rfl
       ·cases hj
      have hlt:j<24:=by rw[<-hsz];exact(mw.1 hu').1
      rw [hu _ hlt] at hu'
      cases hu'
      rw[hs']
      exact .d (.int _ _)) (fun j u hu'=>by
     rw [hget] at hu'
     split at hu'
     ·cases hu';rfl
     ·exact h1 j u hu')
    have Q:Step (fun _=>False) (World.setBlock w L.b (.cells (Sort.putCells (fun(b:UInt8)=>Value.int .u8 (b.toNat:Int)) 0 dk us) 204 (0,0))) ((World.setBlock w L.b (.cells (Sort.putCells (fun(b:UInt8)=>Value.int .u8 (b.toNat:Int)) 0 dk us) 204 (0,0))).drewN m):=⟨rfl,rfl,rfl,pr _,fun _ _ _=>rfl,fun h=>(show False from h).elim⟩
    exact ⟨_,.tup [],_,_,_,rfl,⟨rfl,rfl⟩,W.trans (W.mem.quiet Q),.tup _ _ rfl (fun j s' u hj _=>by simp at hj)⟩
theorem jn6(u k:Nat)(h1:10 ^ k<=u)(h2:u<10 ^ (k+1))(h3:u<18446744073709551616):FnOk Tryz.prog 153 [.d (.int .u64 u)] (.d (.int .i64 (k+1:Nat))):=by
 refine⟨qe Tryz.func153 (by kernel_rfl) rfl,fun M w vs hV hM hl hd=>?_⟩
 match vs,hl with
 |[v0],_ =>
  have h0:=jc (hd 0 _ v0 rfl rfl)
  subst h0
  have hp:1<=10 ^ k:=Nat.one_le_pow _ _ (by decide)
  refine(Try.internal_strconv_numDigits u (by omega) h3 w (tab_is hV)).mono ?_
  rintro e w' ⟨rfl,rfl⟩
  rw[Lib.nDigits_unique k u h1 h2]
  exact⟨_,rfl,Step.refl _ _,.d (.int _ _)⟩
theorem digs_eq{n k:Nat}(h1:10 ^ k<=n)(h2:n<10 ^ (k+1)):Lib.decDigits n=(List.range (k+1)).map fun t=>Lib.dg n (k - t):=by
 rw[Lib.decDigits_eq,Lib.nDigits_unique k n h1 h2]
 rfl
theorem ofb8(c:UInt8):UInt8.ofNat (c.toNat:Int).toNat=c:=by rw[pz];exact UInt8.ofNat_toNat
theorem fmtU_ok(n:Nat)(h:n<10000000000):FnOk Tryz.prog 83 [.d (.int .u64 n),.d (.int .i64 10)] (.d (.str (Lib.decDigits n))):=by
 refine qz (TT:=TT) (IN:=qi [(117,Tryz.f117,2)]) qk (ju qm Tryz.func117 (by kernel_rfl) (by kernel_rfl)) mixed 1000 Tryz.func83 rfl (qe Tryz.func83 (by kernel_rfl) rfl) rfl 6 (by kernel_rfl) ?_
 conv=>whnf
 refine brT rfl ?_
 conv=>whnf
 refine⟨fun h1=>?_,fun h1=>?_⟩
 ·have h1':n<100:=by have:=pw h1;omega
  conv=>whnf
  rw[qd (n:Int) (by omega),dig_dec (by omega)]
  refine oD (small_ok n h1') rfl rfl ?_
  conv=>whnf
 have h1':100<=n:=by have:=px h1;omega
 conv=>whnf
 have hk:∃ k,2<=k/\k<=9/\10 ^ k<=n/\n<10 ^ (k+1):=by
  by_cases a3:n<1000
  ·exact⟨2,by decide,by decide,h1',a3⟩
  by_cases a4:n<10000
  ·exact⟨3,by decide,by decide,by omega,a4⟩
  by_cases a5:n<100000
  ·exact⟨4,by decide,by decide,by omega,a5⟩
  by_cases a6:n<1000000
  ·exact⟨5,by decide,by decide,by omega,a6⟩
  by_cases a7:n<10000000
  ·exact⟨6,by decide,by decide,by omega,a7⟩
  by_cases a8:n<100000000
  ·exact⟨7,by decide,by decide,by omega,a8⟩
  by_cases a9:n<1000000000
  ·exact⟨8,by decide,by decide,by omega,a9⟩
  ·exact⟨9,by decide,by decide,by omega,h⟩
 obtain⟨k,k2,k9,hk1,hk2⟩:=hk
 refine oD (jn6 n k hk1 hk2 (by omega)) rfl rfl ?_
 rw[digs_eq hk1 hk2]
 have hb:=baseK_ok n (k+1) (by omega) hk2 (by omega)
 have hks:k=2\/k=3\/k=4\/k=5\/k=6\/k=7\/k=8\/k=9:=by omega
 rcases hks with rfl|rfl|rfl|rfl|rfl|rfl|rfl|rfl
 all_goals
  conv=>whnf
  refine⟨by decide,?_⟩
  conv=>whnf
  refine .rel _ hb (fun x ks' hR=>?_)
  obtain⟨rfl,rfl⟩:=hR
  conv=>whnf
  refine⟨by decide,?_⟩
  conv=>whnf
  refine congrArg DV.str ?_
  simp only[List.range,List.range.loop,d8,List.map_nil]
  simp only[vj,ofb8]
theorem ww0(pre:List KB)(c:UInt8):COk Tryz.prog 21 [.ptr pre.length 0,.d (.int .u8 (c.toNat:Int))] (pre++[.cells 65 [.v (.pointer none),nilS]]) (fun r k=>r = .v .nilIface/\k=pre++[pk (Bst.fl (.live [c]))]):=by
 have:=(packIn (wb0_ok c)).among pre [] (fun s k ⟨b1,hk,_⟩=>by rw[hk];exact pr _) rfl
 refine COk.imp (this:COk _ _ [.ptr pre.length 0,.d (.int .u8 (c.toNat:Int))] (pre++[.cells 65 [.v (.pointer none),nilS]]) _) fun s k ⟨s0,k1,⟨b1,hk1,hr,hb1⟩,hs,hk⟩=>?_
 subst hr hk1 hb1
 exact⟨by rw[hs];rfl,by rw[hk];rfl⟩
theorem w8_byte{q:List UInt8}(h:q.length<=63):IntKind.u8.wrap (q.length:Int)=((UInt8.ofNat q.length).toNat:Int):=by
 rw[qq2 (by omega),du]
 omega
theorem qx1(l:List (List UInt8))(i:Nat):(labs (l.take i)).length<=(labs l).length:=by
 have:labs l=labs (l.take i)++labs (l.drop i):=by rw[<-qy0,cq]
 rw[this,pv];omega
theorem ljoin_ok(z:Bool)(l:List (List UInt8))(hl:l≠[])(hs:∀ x ∈ l,okL x)(hm:(mk l).length<=255):FnOk Tryz.prog 132 [.d (.str [0]),.d (.sl z l.length 1 (strs l))] (.tup [.d (.str (mk l)),.d (.int .i64 0)]):=by
 refine qz (TT:=TT) (IN:=qi []) qk qm mixed 1000 Tryz.func132 rfl (qe Tryz.func132 (by kernel_rfl) rfl) rfl 53 (by kernel_rfl) ?_
 conv=>whnf
 refine oD (y7 [0]) rfl rfl ?_
 conv=>whnf
 refine⟨fun h=>absurd h (by decide),fun _=>?_⟩
 conv=>whnf
 have hml:(labs l).length+1=(mk l).length:=by rw[<-qp2,pv];rfl
 have hll:=qx9 l
 refine .inv Nat (fun i=>i<=l.length) (fun i=>[(6,.d (.int .i64 ((labs (l.take i)).length+1:Nat))),(19,.d (.int .i64 i))]) (fun _=>[]) (fun i=>l.length - i) ⟨0,[],p6 _,?_⟩ ?_
 ·conv=>whnf
  repeat'(first|exact ⟨⟩|exact rfl|exact fun _=>Iff.rfl|exact fun _ _=>rfl|exact renM_ent rfl _|apply And.intro)
 intro i hi
 conv=>whnf
 have htl:=qx1 l i
 refine⟨fun c1=>?_,fun c1=>?_⟩
 ·have c1:(i:Int)<l.length:=pw c1
  have hil:i<l.length:=by omega
  obtain⟨q,hq⟩:∃ q,l[i]?.getD []=q:=⟨_,rfl⟩
  have hq2:l[i]? = some q:=by rw[<-hq,pp hil];rfl
  have htk:l.take (i+1)=l.take i++[q]:=by rw[m5,hq2];rfl
  have hqo:=hs q (oy hq2)
  have hql:=hqo.1
  have hqm:=hqo.2
  have hw1:=w64s i (by omega)
  conv=>whnf
  refine⟨by omega,?_⟩
  conv=>whnf
  rw[pz,hq]
  refine brF (by rw[o9];omega) ?_
  conv=>whnf
  refine brF (po (by omega)) ?_
  conv=>whnf
  refine⟨i+1,[],hil,by omega,?_⟩
  conv=>whnf
  have hcat:labs (l.take (i+1))=labs (l.take i)++lab q:=by rw[htk,ja3]
  have hle:=qx1 l (i+1)
  rw [hcat,pv,kq] at hle
  rw[hw1,hcat,pv,kq,qd (1+(q.length:Int)) (by omega),qd _ (by omega),show(((labs (l.take i)).length+1:Nat):Int)+(1+(q.length:Int))=(((labs (l.take i)).length+(1+q.length)+1:Nat):Int) by omega]
  repeat'(first|exact ⟨⟩|exact rfl|exact fun _=>Iff.rfl|exact fun _ _=>rfl|exact renM_ent rfl _|apply And.intro)
 ·have c1:¬ (i:Int)<l.length:=px c1
  rw[dx (by omega)]
  conv=>whnf
  refine brF (po (by omega)) ?_
  conv=>whnf
  refine .once ?_
  conv=>whnf
  refine brT (pn (by have:=d7.2 hl;omega)) ?_
  conv=>whnf
  refine⟨by have:=d7.2 hl;omega,?_⟩
  conv=>whnf
  obtain⟨x,xs,rfl⟩:∃ x xs,l=x :: xs:=by
   cases l with
   |nil=>exact absurd rfl hl
   |cons x xs=>exact⟨x,xs,rfl⟩
  have hx:=hs x (by simp)
  rw[show(x :: xs)[Int.toNat 0]?.getD []=x from rfl,w8_byte hx.2]
  refine .rel _ (ww0 [] (UInt8.ofNat x.length)) (fun y ks' hR=>?_)
  obtain⟨rfl,rfl⟩:=hR
  conv=>whnf
  refine .rel _ (COk.thing Bst.fl (bw1_ok [UInt8.ofNat x.length] x (by show 1+x.length<=_;have:=hx.2;omega)) [] [] _ rfl rfl) (fun y ks' hR=>?_)
  obtain⟨_,q,⟨rfl,rfl⟩,rfl,rfl⟩:=hR
  conv=>whnf
  refine .inv Nat (fun j=>j+1<=(x :: xs).length) (fun j=>[(41,.d (.int .i64 (j+1:Nat)))]) (fun j=>[(0,pk (Bst.fl (.live (labs ((x :: xs).take (j+1))))))]) (fun j=>(x :: xs).length - (j+1)) ⟨0,[0],by simp,?_⟩ ?_
  ·have e0:labs ((x :: xs).take (0+1))=[UInt8.ofNat x.length]++x:=by
    show lab x++[]=_
    rw[mv];rfl
   conv=>whnf
   rw[e0]
   repeat'(first|exact ⟨⟩|exact rfl|exact(fun _ _ _ _ h=>⟨jb _,h⟩)|exact fun _=>Iff.rfl|exact fun _ _=>rfl|apply And.intro)
  intro j hj
  generalize x :: xs=l at hl hs hm hml hll hj ⊢
  clear htl hi
  conv=>whnf
  have htl:=qx1 l (j+1)
  refine⟨fun c2=>?_,fun c2=>?_⟩
  ·have c2:((j+1:Nat):Int)<l.length:=pw c2
   have hil:j+1<l.length:=by omega
   obtain⟨q,hq⟩:∃ q,l[j+1]?.getD []=q:=⟨_,rfl⟩
   have hq2:l[j+1]? = some q:=by rw[<-hq,pp hil];rfl
   have htk:l.take (j+1+1)=l.take (j+1)++[q]:=by rw[m5,hq2];rfl
   have hqo:=hs q (oy hq2)
   have hqm:=hqo.2
   have hw1:IntKind.i64.wrap (((j+1:Nat):Int)+1)=((j+1+1:Nat):Int):=by rw[qd _ (by omega)];omega
   have hcat:labs (l.take (j+1+1))=labs (l.take (j+1))++[UInt8.ofNat q.length]++q:=by rw[htk,ja3,m6];rfl
   conv=>whnf
   refine⟨by omega,?_⟩
   conv=>whnf
   rw[pz,hq,w8_byte hqm]
   refine .rel _ (COk.thing Bst.fl (yj (labs (l.take (j+1))) (UInt8.ofNat q.length) (by omega)) [] [] _ rfl rfl) (fun y ks' hR=>?_)
   obtain⟨_,_,⟨rfl,rfl⟩,rfl,rfl⟩:=hR
   conv=>whnf
   refine .rel _ (COk.thing Bst.fl (bw1_ok (labs (l.take (j+1))++[UInt8.ofNat q.length]) q (by rw[pv];show _+1+_<=_;omega)) [] [] _ rfl rfl) (fun y ks' hR=>?_)
   obtain⟨_,_,⟨rfl,rfl⟩,rfl,rfl⟩:=hR
   conv=>whnf
   refine⟨j+1,[0],by show j+1+1<=l.length;omega,by show l.length - (j+1+1)<l.length - (j+1);omega,?_⟩
   rw[hcat]
   conv=>whnf
   rw[hw1]
   repeat'(first|exact ⟨⟩|exact rfl|exact(fun _ _ _ _ h=>⟨jb _,h⟩)|exact fun _=>Iff.rfl|exact fun _ _=>rfl|apply And.intro)
  ·have c2:¬ ((j+1:Nat):Int)<l.length:=px c2
   have hj':j+1=l.length:=by omega
   rw [hj',lx] at *
   conv=>whnf
   refine .rel _ (COk.thing Bst.fl (bw1_ok (labs l) [0] (by show _+1<=_;omega)) [] [] _ rfl rfl) (fun y ks' hR=>?_)
   obtain⟨_,_,⟨rfl,rfl⟩,rfl,rfl⟩:=hR
   conv=>whnf
   refine .rel _ (COk.thing Bst.fl (bs_ok (labs l++[0]) (by rw[pv];show _+1<=_;omega)) [] [] _ rfl rfl) (fun y ks' hR=>?_)
   obtain⟨_,_,⟨rfl,rfl⟩,rfl,rfl⟩:=hR
   rw[qp2]
   conv=>whnf
   repeat'(first|exact ⟨⟩|exact rfl|apply And.intro|(conv=>whnf))
def bK(s:List UInt8):KB:=match s with
 |[]=>.cells 65 [.v (.pointer none),nilS]
 |c :: r=>pk (Bst.fl (.live (c :: r)))
theorem qj7{s:List UInt8}(h:s≠[]):bK s=pk (Bst.fl (.live s)):=by
 cases s with
 |nil=>exact absurd rfl h
 |cons c r=>rfl
theorem wbK(s:List UInt8)(c:UInt8)(hs:s.length+1<=70368744177664):COk Tryz.prog 21 [.ptr 0 0,.d (.int .u8 (c.toNat:Int))] [bK s] (fun r k=>r = .v .nilIface/\k=[bK (s++[c])]):=by
 cases s with
 |nil=>exact ww0 [] c
 |cons x s =>
  refine(COk.thing Bst.fl (yj (x :: s) c hs) [] [] _ rfl rfl).imp fun r k ⟨s0,a1,⟨h1,h2⟩,h3,h4⟩=>?_
  subst h1 h2
  exact⟨by rw[h3];rfl,by rw[h4];rfl⟩
theorem tellD:∀ n:Nat,n<256->IntKind.u8.wrap (48+IntKind.u8.wrap ((n:Int).tdiv 100))=((UInt8.ofNat (48+n / 100)).toNat:Int) /\
 IntKind.u8.wrap (48+(IntKind.u8.wrap ((n:Int).tdiv 10)).tmod 10)=((UInt8.ofNat (48+n / 10 % 10)).toNat:Int) /\
 IntKind.u8.wrap (48+(n:Int).tmod 10)=((UInt8.ofNat (48+n % 10)).toNat:Int):=by decide +kernel
theorem eqc(c d:UInt8):(((c.toNat:Int)) == (d.toNat:Int))=decide (c=d):=by
 rw[l5,m8,ly]
 constructor
 ·intro h;exact UInt8.toNat_inj.1 (by omega)
 ·intro h;rw[h]
theorem tell_ok(s:List UInt8)(c:UInt8)(hs:s.length+4<=70368744177664):COk Tryz.prog 81 [.ptr 0 0,.d (.int .u8 (c.toNat:Int))] [bK s] (fun r k=>r = .tup []/\k=[bK (s++escB c)]):=by
 have hc:=c.toNat_lt
 obtain⟨d1,d2,d3⟩:=tellD c.toNat hc
 cases s with
 |nil =>
  refine yg (TT:=TT) (IN:=qi []) qk qm mixed 1000 Tryz.func81 rfl (qe Tryz.func81 (by kernel_rfl) rfl) 42 (by kernel_rfl) ?_
  conv=>whnf
  rw[show(((c.toNat:Int)) == 46)=decide (c=46) from eqc c 46]
  by_cases h46:c=46
  ·have he:escB c=[92,c]:=if_pos (.inl h46)
   rw[he]
   refine brT (pn h46) ?_
   conv=>whnf
   repeat(first|(refine brF rfl ?_;conv=>whnf)|(refine brT rfl ?_;conv=>whnf))
   refine .rel _ (ww0 [] 92) (fun x ks' hR=>?_)
   obtain⟨rfl,rfl⟩:=hR
   conv=>whnf
   refine .rel _ (COk.thing Bst.fl (yj [92] c (by simp)) [] [] _ rfl rfl) (fun y ks' hR=>?_)
   obtain⟨_,_,⟨rfl,rfl⟩,rfl,rfl⟩:=hR
   conv=>whnf
   refine⟨[0],.tup [],[pk (Bst.fl (.live ([92]++[c])))],rfl,rfl,?_,?_,rfl,?_⟩
   ·(conv=>whnf);repeat'(first|exact ⟨⟩|exact rfl|exact fun _=>Iff.rfl|exact fun _ _=>rfl|exact renM_ent rfl _|apply And.intro)
   ·repeat'(first|exact ⟨⟩|exact rfl|exact(fun _ _ _ _ h=>⟨jb _,h⟩)|exact fun _=>Iff.rfl|exact fun _ _=>rfl|apply And.intro)
   ·rfl
  refine brF (po h46) ?_
  conv=>whnf
  rw[show(((c.toNat:Int)) == 92)=decide (c=92) from eqc c 92]
  by_cases h92:c=92
  ·have he:escB c=[92,c]:=if_pos (.inr h92)
   rw[he]
   refine brT (pn h92) ?_
   conv=>whnf
   repeat(first|(refine brF rfl ?_;conv=>whnf)|(refine brT rfl ?_;conv=>whnf))
   refine .rel _ (ww0 [] 92) (fun x ks' hR=>?_)
   obtain⟨rfl,rfl⟩:=hR
   conv=>whnf
   refine .rel _ (COk.thing Bst.fl (yj [92] c (by simp)) [] [] _ rfl rfl) (fun y ks' hR=>?_)
   obtain⟨_,_,⟨rfl,rfl⟩,rfl,rfl⟩:=hR
   conv=>whnf
   refine⟨[0],.tup [],[pk (Bst.fl (.live ([92]++[c])))],rfl,rfl,?_,?_,rfl,?_⟩
   ·(conv=>whnf);repeat'(first|exact ⟨⟩|exact rfl|exact fun _=>Iff.rfl|exact fun _ _=>rfl|exact renM_ent rfl _|apply And.intro)
   ·repeat'(first|exact ⟨⟩|exact rfl|exact(fun _ _ _ _ h=>⟨jb _,h⟩)|exact fun _=>Iff.rfl|exact fun _ _=>rfl|apply And.intro)
   ·rfl
  refine brF (po h92) ?_
  conv=>whnf
  repeat(first|(refine brF rfl ?_;conv=>whnf)|(refine brT rfl ?_;conv=>whnf))
  by_cases h33:33<=c.toNat/\c.toNat<=126
  ·have he:escB c=[c]:=by unfold escB;rw[if_neg (fun h=>h.elim h46 h92),if_pos h33]
   rw[he]
   refine brT (pn (by omega)) ?_
   conv=>whnf
   refine brT (pn (by omega)) ?_
   conv=>whnf
   repeat(first|(refine brF rfl ?_;conv=>whnf)|(refine brT rfl ?_;conv=>whnf))
   refine .rel _ (ww0 [] c) (fun x ks' hR=>?_)
   obtain⟨rfl,rfl⟩:=hR
   conv=>whnf
   refine⟨[0],.tup [],[pk (Bst.fl (.live ([c])))],rfl,rfl,?_,?_,rfl,?_⟩
   ·(conv=>whnf);repeat'(first|exact ⟨⟩|exact rfl|exact fun _=>Iff.rfl|exact fun _ _=>rfl|exact renM_ent rfl _|apply And.intro)
   ·repeat'(first|exact ⟨⟩|exact rfl|exact(fun _ _ _ _ h=>⟨jb _,h⟩)|exact fun _=>Iff.rfl|exact fun _ _=>rfl|apply And.intro)
   ·rfl
  ·have he:escB c=[92,UInt8.ofNat (48+c.toNat / 100),UInt8.ofNat (48+c.toNat / 10 % 10),UInt8.ofNat (48+c.toNat % 10)]:=by unfold escB;rw[if_neg (fun h=>h.elim h46 h92),if_neg h33]
   rw[he]
   by_cases h33':33<=c.toNat
   ·refine brT (pn (by omega)) ?_
    conv=>whnf
    refine brF (po (by omega)) ?_
    conv=>whnf
    repeat(first|(refine brF rfl ?_;conv=>whnf)|(refine brT rfl ?_;conv=>whnf))
    refine .rel _ (ww0 [] 92) (fun x ks' hR=>?_)
    obtain⟨rfl,rfl⟩:=hR
    conv=>whnf
    refine⟨by decide,?_⟩
    conv=>whnf
    rw[d1]
    refine .rel _ (COk.thing Bst.fl (yj [92] (UInt8.ofNat (48+c.toNat / 100)) (by simp)) [] [] _ rfl rfl) (fun y ks' hR=>?_)
    obtain⟨_,_,⟨rfl,rfl⟩,rfl,rfl⟩:=hR
    conv=>whnf
    refine⟨by decide,?_⟩
    conv=>whnf
    refine⟨by decide,?_⟩
    conv=>whnf
    rw[d2]
    refine .rel _ (COk.thing Bst.fl (yj ([92]++[(UInt8.ofNat (48+c.toNat / 100))]) (UInt8.ofNat (48+c.toNat / 10 % 10)) (by simp)) [] [] _ rfl rfl) (fun y ks' hR=>?_)
    obtain⟨_,_,⟨rfl,rfl⟩,rfl,rfl⟩:=hR
    conv=>whnf
    refine⟨by decide,?_⟩
    conv=>whnf
    rw[d3]
    refine .rel _ (COk.thing Bst.fl (yj ([92]++[(UInt8.ofNat (48+c.toNat / 100))]++[(UInt8.ofNat (48+c.toNat / 10 % 10))]) (UInt8.ofNat (48+c.toNat % 10)) (by simp)) [] [] _ rfl rfl) (fun y ks' hR=>?_)
    obtain⟨_,_,⟨rfl,rfl⟩,rfl,rfl⟩:=hR
    conv=>whnf
    refine⟨[0],.tup [],[pk (Bst.fl (.live ([92]++[(UInt8.ofNat (48+c.toNat / 100))]++[(UInt8.ofNat (48+c.toNat / 10 % 10))]++[(UInt8.ofNat (48+c.toNat % 10))])))],rfl,rfl,?_,?_,rfl,?_⟩
    ·(conv=>whnf);repeat'(first|exact ⟨⟩|exact rfl|exact fun _=>Iff.rfl|exact fun _ _=>rfl|exact renM_ent rfl _|apply And.intro)
    ·repeat'(first|exact ⟨⟩|exact rfl|exact(fun _ _ _ _ h=>⟨jb _,h⟩)|exact fun _=>Iff.rfl|exact fun _ _=>rfl|apply And.intro)
    ·rfl
   ·refine brF (po (by omega)) ?_
    conv=>whnf
    repeat(first|(refine brF rfl ?_;conv=>whnf)|(refine brT rfl ?_;conv=>whnf))
    refine .rel _ (ww0 [] 92) (fun x ks' hR=>?_)
    obtain⟨rfl,rfl⟩:=hR
    conv=>whnf
    refine⟨by decide,?_⟩
    conv=>whnf
    rw[d1]
    refine .rel _ (COk.thing Bst.fl (yj [92] (UInt8.ofNat (48+c.toNat / 100)) (by simp)) [] [] _ rfl rfl) (fun y ks' hR=>?_)
    obtain⟨_,_,⟨rfl,rfl⟩,rfl,rfl⟩:=hR
    conv=>whnf
    refine⟨by decide,?_⟩
    conv=>whnf
    refine⟨by decide,?_⟩
    conv=>whnf
    rw[d2]
    refine .rel _ (COk.thing Bst.fl (yj ([92]++[(UInt8.ofNat (48+c.toNat / 100))]) (UInt8.ofNat (48+c.toNat / 10 % 10)) (by simp)) [] [] _ rfl rfl) (fun y ks' hR=>?_)
    obtain⟨_,_,⟨rfl,rfl⟩,rfl,rfl⟩:=hR
    conv=>whnf
    refine⟨by decide,?_⟩
    conv=>whnf
    rw[d3]
    refine .rel _ (COk.thing Bst.fl (yj ([92]++[(UInt8.ofNat (48+c.toNat / 100))]++[(UInt8.ofNat (48+c.toNat / 10 % 10))]) (UInt8.ofNat (48+c.toNat % 10)) (by simp)) [] [] _ rfl rfl) (fun y ks' hR=>?_)
    obtain⟨_,_,⟨rfl,rfl⟩,rfl,rfl⟩:=hR
    conv=>whnf
    refine⟨[0],.tup [],[pk (Bst.fl (.live ([92]++[(UInt8.ofNat (48+c.toNat / 100))]++[(UInt8.ofNat (48+c.toNat / 10 % 10))]++[(UInt8.ofNat (48+c.toNat % 10))])))],rfl,rfl,?_,?_,rfl,?_⟩
    ·(conv=>whnf);repeat'(first|exact ⟨⟩|exact rfl|exact fun _=>Iff.rfl|exact fun _ _=>rfl|exact renM_ent rfl _|apply And.intro)
    ·repeat'(first|exact ⟨⟩|exact rfl|exact(fun _ _ _ _ h=>⟨jb _,h⟩)|exact fun _=>Iff.rfl|exact fun _ _=>rfl|apply And.intro)
    ·rfl
 |cons x s =>
  refine yg (TT:=TT) (IN:=qi []) qk qm mixed 1000 Tryz.func81 rfl (qe Tryz.func81 (by kernel_rfl) rfl) 42 (by kernel_rfl) ?_
  conv=>whnf
  rw[show(((c.toNat:Int)) == 46)=decide (c=46) from eqc c 46]
  by_cases h46:c=46
  ·have he:escB c=[92,c]:=if_pos (.inl h46)
   rw[he]
   refine brT (pn h46) ?_
   conv=>whnf
   repeat(first|(refine brF rfl ?_;conv=>whnf)|(refine brT rfl ?_;conv=>whnf))
   refine .rel _ (COk.thing Bst.fl (yj (x :: s) 92 (by simp at hs ⊢;omega)) [] [] _ rfl rfl) (fun y ks' hR=>?_)
   obtain⟨_,_,⟨rfl,rfl⟩,rfl,rfl⟩:=hR
   conv=>whnf
   refine .rel _ (COk.thing Bst.fl (yj ((x :: s)++[92]) c (by simp at hs ⊢;omega)) [] [] _ rfl rfl) (fun y ks' hR=>?_)
   obtain⟨_,_,⟨rfl,rfl⟩,rfl,rfl⟩:=hR
   conv=>whnf
   refine⟨[0],.tup [],[pk (Bst.fl (.live ((x :: s)++[92]++[c])))],rfl,rfl,?_,?_,rfl,?_⟩
   ·(conv=>whnf);repeat'(first|exact ⟨⟩|exact rfl|exact fun _=>Iff.rfl|exact fun _ _=>rfl|exact renM_ent rfl _|apply And.intro)
   ·repeat'(first|exact ⟨⟩|exact rfl|exact(fun _ _ _ _ h=>⟨jb _,h⟩)|exact fun _=>Iff.rfl|exact fun _ _=>rfl|apply And.intro)
   ·rw[qj7 (by simp)]
    try simp only[gq,m6,gy]
  refine brF (po h46) ?_
  conv=>whnf
  rw[show(((c.toNat:Int)) == 92)=decide (c=92) from eqc c 92]
  by_cases h92:c=92
  ·have he:escB c=[92,c]:=if_pos (.inr h92)
   rw[he]
   refine brT (pn h92) ?_
   conv=>whnf
   repeat(first|(refine brF rfl ?_;conv=>whnf)|(refine brT rfl ?_;conv=>whnf))
   refine .rel _ (COk.thing Bst.fl (yj (x :: s) 92 (by simp at hs ⊢;omega)) [] [] _ rfl rfl) (fun y ks' hR=>?_)
   obtain⟨_,_,⟨rfl,rfl⟩,rfl,rfl⟩:=hR
   conv=>whnf
   refine .rel _ (COk.thing Bst.fl (yj ((x :: s)++[92]) c (by simp at hs ⊢;omega)) [] [] _ rfl rfl) (fun y ks' hR=>?_)
   obtain⟨_,_,⟨rfl,rfl⟩,rfl,rfl⟩:=hR
   conv=>whnf
   refine⟨[0],.tup [],[pk (Bst.fl (.live ((x :: s)++[92]++[c])))],rfl,rfl,?_,?_,rfl,?_⟩
   ·(conv=>whnf);repeat'(first|exact ⟨⟩|exact rfl|exact fun _=>Iff.rfl|exact fun _ _=>rfl|exact renM_ent rfl _|apply And.intro)
   ·repeat'(first|exact ⟨⟩|exact rfl|exact(fun _ _ _ _ h=>⟨jb _,h⟩)|exact fun _=>Iff.rfl|exact fun _ _=>rfl|apply And.intro)
   ·rw[qj7 (by simp)]
    try simp only[gq,m6,gy]
  refine brF (po h92) ?_
  conv=>whnf
  repeat(first|(refine brF rfl ?_;conv=>whnf)|(refine brT rfl ?_;conv=>whnf))
  by_cases h33:33<=c.toNat/\c.toNat<=126
  ·have he:escB c=[c]:=by unfold escB;rw[if_neg (fun h=>h.elim h46 h92),if_pos h33]
   rw[he]
   refine brT (pn (by omega)) ?_
   conv=>whnf
   refine brT (pn (by omega)) ?_
   conv=>whnf
   repeat(first|(refine brF rfl ?_;conv=>whnf)|(refine brT rfl ?_;conv=>whnf))
   refine .rel _ (COk.thing Bst.fl (yj (x :: s) c (by simp at hs ⊢;omega)) [] [] _ rfl rfl) (fun y ks' hR=>?_)
   obtain⟨_,_,⟨rfl,rfl⟩,rfl,rfl⟩:=hR
   conv=>whnf
   refine⟨[0],.tup [],[pk (Bst.fl (.live ((x :: s)++[c])))],rfl,rfl,?_,?_,rfl,?_⟩
   ·(conv=>whnf);repeat'(first|exact ⟨⟩|exact rfl|exact fun _=>Iff.rfl|exact fun _ _=>rfl|exact renM_ent rfl _|apply And.intro)
   ·repeat'(first|exact ⟨⟩|exact rfl|exact(fun _ _ _ _ h=>⟨jb _,h⟩)|exact fun _=>Iff.rfl|exact fun _ _=>rfl|apply And.intro)
   ·rw[qj7 (by simp)]
    try simp only[gq,m6,gy]
  ·have he:escB c=[92,UInt8.ofNat (48+c.toNat / 100),UInt8.ofNat (48+c.toNat / 10 % 10),UInt8.ofNat (48+c.toNat % 10)]:=by unfold escB;rw[if_neg (fun h=>h.elim h46 h92),if_neg h33]
   rw[he]
   by_cases h33':33<=c.toNat
   ·refine brT (pn (by omega)) ?_
    conv=>whnf
    refine brF (po (by omega)) ?_
    conv=>whnf
    repeat(first|(refine brF rfl ?_;conv=>whnf)|(refine brT rfl ?_;conv=>whnf))
    refine .rel _ (COk.thing Bst.fl (yj (x :: s) 92 (by simp at hs ⊢;omega)) [] [] _ rfl rfl) (fun y ks' hR=>?_)
    obtain⟨_,_,⟨rfl,rfl⟩,rfl,rfl⟩:=hR
    conv=>whnf
    refine⟨by decide,?_⟩
    conv=>whnf
    rw[d1]
    refine .rel _ (COk.thing Bst.fl (yj ((x :: s)++[92]) (UInt8.ofNat (48+c.toNat / 100)) (by simp at hs ⊢;omega)) [] [] _ rfl rfl) (fun y ks' hR=>?_)
    obtain⟨_,_,⟨rfl,rfl⟩,rfl,rfl⟩:=hR
    conv=>whnf
    refine⟨by decide,?_⟩
    conv=>whnf
    refine⟨by decide,?_⟩
    conv=>whnf
    rw[d2]
    refine .rel _ (COk.thing Bst.fl (yj ((x :: s)++[92]++[(UInt8.ofNat (48+c.toNat / 100))]) (UInt8.ofNat (48+c.toNat / 10 % 10)) (by simp at hs ⊢;omega)) [] [] _ rfl rfl) (fun y ks' hR=>?_)
    obtain⟨_,_,⟨rfl,rfl⟩,rfl,rfl⟩:=hR
    conv=>whnf
    refine⟨by decide,?_⟩
    conv=>whnf
    rw[d3]
    refine .rel _ (COk.thing Bst.fl (yj ((x :: s)++[92]++[(UInt8.ofNat (48+c.toNat / 100))]++[(UInt8.ofNat (48+c.toNat / 10 % 10))]) (UInt8.ofNat (48+c.toNat % 10)) (by simp at hs ⊢;omega)) [] [] _ rfl rfl) (fun y ks' hR=>?_)
    obtain⟨_,_,⟨rfl,rfl⟩,rfl,rfl⟩:=hR
    conv=>whnf
    refine⟨[0],.tup [],[pk (Bst.fl (.live ((x :: s)++[92]++[(UInt8.ofNat (48+c.toNat / 100))]++[(UInt8.ofNat (48+c.toNat / 10 % 10))]++[(UInt8.ofNat (48+c.toNat % 10))])))],rfl,rfl,?_,?_,rfl,?_⟩
    ·(conv=>whnf);repeat'(first|exact ⟨⟩|exact rfl|exact fun _=>Iff.rfl|exact fun _ _=>rfl|exact renM_ent rfl _|apply And.intro)
    ·repeat'(first|exact ⟨⟩|exact rfl|exact(fun _ _ _ _ h=>⟨jb _,h⟩)|exact fun _=>Iff.rfl|exact fun _ _=>rfl|apply And.intro)
    ·rw[qj7 (by simp)]
     try simp only[gq,m6,gy]
   ·refine brF (po (by omega)) ?_
    conv=>whnf
    repeat(first|(refine brF rfl ?_;conv=>whnf)|(refine brT rfl ?_;conv=>whnf))
    refine .rel _ (COk.thing Bst.fl (yj (x :: s) 92 (by simp at hs ⊢;omega)) [] [] _ rfl rfl) (fun y ks' hR=>?_)
    obtain⟨_,_,⟨rfl,rfl⟩,rfl,rfl⟩:=hR
    conv=>whnf
    refine⟨by decide,?_⟩
    conv=>whnf
    rw[d1]
    refine .rel _ (COk.thing Bst.fl (yj ((x :: s)++[92]) (UInt8.ofNat (48+c.toNat / 100)) (by simp at hs ⊢;omega)) [] [] _ rfl rfl) (fun y ks' hR=>?_)
    obtain⟨_,_,⟨rfl,rfl⟩,rfl,rfl⟩:=hR
    conv=>whnf
    refine⟨by decide,?_⟩
    conv=>whnf
    refine⟨by decide,?_⟩
    conv=>whnf
    rw[d2]
    refine .rel _ (COk.thing Bst.fl (yj ((x :: s)++[92]++[(UInt8.ofNat (48+c.toNat / 100))]) (UInt8.ofNat (48+c.toNat / 10 % 10)) (by simp at hs ⊢;omega)) [] [] _ rfl rfl) (fun y ks' hR=>?_)
    obtain⟨_,_,⟨rfl,rfl⟩,rfl,rfl⟩:=hR
    conv=>whnf
    refine⟨by decide,?_⟩
    conv=>whnf
    rw[d3]
    refine .rel _ (COk.thing Bst.fl (yj ((x :: s)++[92]++[(UInt8.ofNat (48+c.toNat / 100))]++[(UInt8.ofNat (48+c.toNat / 10 % 10))]) (UInt8.ofNat (48+c.toNat % 10)) (by simp at hs ⊢;omega)) [] [] _ rfl rfl) (fun y ks' hR=>?_)
    obtain⟨_,_,⟨rfl,rfl⟩,rfl,rfl⟩:=hR
    conv=>whnf
    refine⟨[0],.tup [],[pk (Bst.fl (.live ((x :: s)++[92]++[(UInt8.ofNat (48+c.toNat / 100))]++[(UInt8.ofNat (48+c.toNat / 10 % 10))]++[(UInt8.ofNat (48+c.toNat % 10))])))],rfl,rfl,?_,?_,rfl,?_⟩
    ·(conv=>whnf);repeat'(first|exact ⟨⟩|exact rfl|exact fun _=>Iff.rfl|exact fun _ _=>rfl|exact renM_ent rfl _|apply And.intro)
    ·repeat'(first|exact ⟨⟩|exact rfl|exact(fun _ _ _ _ h=>⟨jb _,h⟩)|exact fun _=>Iff.rfl|exact fun _ _=>rfl|apply And.intro)
    ·rw[qj7 (by simp)]
     try simp only[gq,m6,gy]
theorem bK_map(σ:Nat->Nat)(s:List UInt8):mapB σ [bK s]=[bK s]:=by cases s <;> rfl
theorem tell_at(s:List UInt8)(c:UInt8)(rest:List KB)(hs:s.length+4<=70368744177664):COk Tryz.prog 81 [.ptr 0 0,.d (.int .u8 (c.toNat:Int))] (bK s :: rest) (fun r k=>r = .tup []/\k=bK (s++escB c) :: rest):=by
 have h:=(tell_ok s c hs).among [] rest (fun r k h=>by rw[h.2];exact pr _) rfl
 rw [bK_map] at h
 refine h.imp fun r k ⟨s0,k1,⟨h1,h2⟩,h3,h4⟩=>?_
 subst h1 h2
 refine⟨h3,?_⟩
 rw[h4]
 show[]++(mapB _ [bK (s++escB c)]++(rest++mapB _ []))=_
 rw[bK_map]
 show _ :: (rest++[])=_
 rw[mv]
theorem wb_at(s:List UInt8)(c:UInt8)(rest:List KB)(hs:s.length+1<=70368744177664):COk Tryz.prog 21 [.ptr 0 0,.d (.int .u8 (c.toNat:Int))] (bK s :: rest) (fun r k=>r = .v .nilIface/\k=bK (s++[c]) :: rest):=by
 have h:=(wbK s c hs).among [] rest (fun r k h=>by rw[h.2];exact pr _) rfl
 rw [bK_map] at h
 refine h.imp fun r k ⟨s0,k1,⟨h1,h2⟩,h3,h4⟩=>?_
 subst h1 h2
 refine⟨h3,?_⟩
 rw[h4]
 show[]++(mapB _ [bK (s++[c])]++(rest++mapB _ []))=_
 rw[bK_map]
 show _ :: (rest++[])=_
 rw[mv]
theorem jj7:∀ a b:List UInt8,escL (a++b)=escL a++escL b
 |[],b=>rfl
 |c :: a,b=>by simp only[gq,escL,jj7 a b,m6]
theorem escL_snoc{l:List UInt8}{k:Nat}{c:UInt8}(h:l[k]? = some c):escL (l.take (k+1))=escL (l.take k)++escB c:=by
 rw[m5,h,jj7]
 simp[escL]
theorem jh1:∀ a b:List (List UInt8),txtL (a++b)=txtL a++txtL b
 |[],b=>rfl
 |c :: a,b=>by simp only[gq,txtL,jh1 a b,m6]
theorem txtL_snoc{l:List (List UInt8)}{k:Nat}{c:List UInt8}(h:l[k]? = some c):txtL (l.take (k+1))=txtL (l.take k)++escL c++[46]:=by
 rw[m5,h,jh1]
 simp[txtL]
def qk4(n:List UInt8):List UInt8 × Int:=if qc n then (txtN n,0) else ([],2)
theorem print_ok(n:List UInt8):FnOk Tryz.prog 48 [.d (.str n)] (.tup [.d (.str (qk4 n).1),.d (.int .i64 (qk4 n).2)]):=by
 refine qz (TT:=TT) (IN:=qi [(70,Tryz.f70,1),(106,Tryz.f106,2),(107,Tryz.f107,1),(139,Tryz.f139,2)]) qk (ju (ju (ju (ju qm Tryz.func139 (by kernel_rfl) (by kernel_rfl)) Tryz.func107 (by kernel_rfl) (by kernel_rfl)) Tryz.func106 (by kernel_rfl) (by kernel_rfl)) Tryz.func70 (by kernel_rfl) (by kernel_rfl)) mixed 1000 Tryz.func48 rfl (qe Tryz.func48 (by kernel_rfl) rfl) rfl 26 (by kernel_rfl) ?_
 conv=>whnf
 refine oD (y7 n) rfl rfl ?_
 by_cases hn:qc n
 case neg =>
  rw[if_neg hn,show qk4 n=([],2) from if_neg hn]
  conv=>whnf
  refine brT rfl ?_
  conv=>whnf
  repeat'(first|exact ⟨⟩|exact rfl|exact fun _=>Iff.rfl|exact fun _ _=>rfl|exact renM_ent rfl _|apply And.intro)
 rw[if_pos hn,show qk4 n=(txtN n,0) from if_pos hn]
 conv=>whnf
 refine brF rfl ?_
 conv=>whnf
 refine⟨fun hz=>?_,fun hz=>?_⟩
 ·have hz:n=[0]:=by simpa using hz
  subst hz
  conv=>whnf
  repeat'(first|exact ⟨⟩|exact rfl|exact fun _=>Iff.rfl|exact fun _ _=>rfl|exact renM_ent rfl _|apply And.intro)
 have hz:n≠[0]:=by simpa using hz
 rw[show txtN n=txtL (labN n) from if_neg hz]
 conv=>whnf
 refine oD (y7 n) rfl rfl ?_
 rw[if_pos hn]
 conv=>whnf
 refine brF rfl ?_
 conv=>whnf
 obtain⟨hn1,hn2,hn3⟩:=xg hn
 have hend:∀ i,qh (labN n) i<n.length:=fun i=>by have:=pos_lt (labN n) i;rw [<-hn3] at this;exact this
 have hbt:∀ i l,(labN n)[i]? = some l->bt n (qh (labN n) i)=l.length:=fun i l h=>by
  have:=bt_pos hn2 h
  rw [<-hn3] at this;exact this
 have hbe:bt n (qh (labN n) (labN n).length)=0:=by
  have:=bt_end (labN n)
  rw [<-hn3] at this;exact this
 have hll:=pos_end (labN n)
 rw [<-hn3] at hll
 have hlab:∀ i l,(labN n)[i]? = some l->(n.drop (qh (labN n) i+1)).take l.length=l:=fun i l h=>by
  have:=label_at h
  rw [<-hn3] at this;exact this
 have htl:=qi0 (labN n) hn2
 rw [<-hn3] at htl
 generalize labN n=ls at hn2 hn3 hend hbt hbe hll hlab htl
 refine .inv Nat (fun i=>i<=ls.length) (fun i=>[(3,iV (qh ls i))]) (fun i=>[(0,bK (txtL (ls.take i))),(4,.cells 3 [iV (qh ls i)])]) (fun i=>ls.length - i) ⟨0,[0,1,2,3,4,5,6],p6 _,?_⟩ ?_
 ·conv=>whnf
  repeat'(first|exact ⟨⟩|exact rfl|exact qa _|exact .inr rfl|exact fun _ _=>rfl|exact noI|apply And.intro)
 intro i hi
 have hsl:(txtL (ls.take i)).length<=1020:=by
  have h1:=qi0 (ls.take i) (fun l h=>hn2 l (gp h))
  have h2:(mk (ls.take i)).length=qh ls i+1:=by rw[<-qp2,pv];rfl
  have:=hend i
  omega
 show qb1 _ _ _ _ [(0,bK (txtL (ls.take i))),(4,.cells 3 [iV (qh ls i)])] _
 obtain⟨s,hs⟩:∃ s,s=txtL (ls.take i):=⟨_,rfl⟩
 rw [<-hs] at hsl ⊢
 have e0:∀ (t l:List UInt8),t++escL (l.take 0)=t:=fun t l=>by simp[escL]
 obtain⟨S,hS⟩:∃ S,S=s:=⟨_,rfl⟩
 have hSl:S.length<=1020:=by rw[hS];exact hsl
 have hSt:S=txtL (ls.take i):=by rw[hS,hs]
 clear hs hsl
 cases s
 all_goals
  have hp:=hend i
  conv=>whnf
  refine brT (pn (by omega)) ?_
  conv=>whnf
  refine⟨by omega,?_⟩
  conv=>whnf
  rw[yn,qd (bt n (qh ls i):Int) (by have:=qb4 n (qh ls i);omega)]
  rcases ot i ls.length with hlt|hge
  ·have hli:ls[i]? = some ls[i]:=pp hlt
   have hb:=hbt i _ hli
   have hok:=hn2 _ (gv hlt)
   have hps:=qm1 hli
   have hp2:=hend (i+1)
   rw[hb]
   generalize ls[i]=l at hli hb hok hps
   obtain⟨ho1,ho2⟩:=hok
   refine brF (by rw[o9];omega) ?_
   conv=>whnf
   refine brF (po (by omega)) ?_
   conv=>whnf
   have e1:IntKind.i64.wrap ((n.length:Int) - (qh ls i:Int))=((n.length - qh ls i:Nat):Int):=by rw[qd _ (by omega)];omega
   rw[e1]
   refine brF (po (by omega)) ?_
   conv=>whnf
   have e2:IntKind.i64.wrap ((qh ls i:Int)+IntKind.i64.wrap (1+(l.length:Int)))=((qh ls (i+1):Nat):Int):=by rw[qd (1+(l.length:Int)) (by omega),qd _ (by omega)];omega
   rw[e2]
   have e3:IntKind.i64.wrap ((qh ls i:Int)+1)=((qh ls i+1:Nat):Int):=by rw[qd _ (by omega)];omega
   rw[e3]
   refine⟨by omega,?_⟩
   conv=>whnf
   have hsub:sub n ((qh ls i+1:Nat):Int) ((qh ls (i+1):Nat):Int)=l:=by
    unfold sub
    rw[pz,pz]
    rw[show qh ls (i+1) - (qh ls i+1)=l.length by omega]
    exact hlab i l hli
   rw[hsub]
   refine .inv Nat (fun k=>k<=l.length) (fun k=>[(17,iV k)]) (fun k=>[(0,bK (S++escL (l.take k)))]) (fun k=>l.length - k) ⟨0,[0,1,2,3,4,5,6],p6 _,?_⟩ ?_
   ·conv=>whnf
    rw[e0,hS]
    repeat'(first|exact ⟨⟩|exact rfl|exact qa _|exact .inr rfl|exact(fun _ _ _ _ h=>⟨jb _,h⟩)|exact fun _=>Iff.rfl|exact fun _ _=>rfl|exact noI|apply And.intro)
   intro k hk
   have hel:=qn9 (l.take k)
   rw [lu] at hel
   show qb1 _ _ _ _ [(0,bK (S++escL (l.take k)))] _
   obtain⟨T,hT⟩:∃ T,T=S++escL (l.take k):=⟨_,rfl⟩
   have hTl:T.length<=1300:=by rw[hT,pv];omega
   have ht:∀ c,l[k]? = some c->∀ rest,COk Tryz.prog 81 [.ptr 0 0,.d (.int .u8 (c.toNat:Int))] (bK T :: rest) (fun r q=>r = .tup []/\q=bK (S++escL (l.take (k+1))) :: rest):=fun c hc rest=>by
    have:=tell_at T c rest (by omega)
    rw [hT] at this
    rw[hT,escL_snoc hc,<-m6]
    exact this
   have hw:=fun rest=>wb_at T 46 rest (by omega)
   rw[<-hT]
   cases T
   all_goals
    conv=>whnf
    refine⟨fun c1=>?_,fun c1=>?_⟩
    ·have c1:k<l.length:=by
      have h:(k:Int)<l.length:=pw c1
      omega
     have hlk:l[k]? = some l[k]:=pp c1
     conv=>whnf
     refine⟨by omega,?_⟩
     conv=>whnf
     rw[show je l (k:Int)=((l[k].toNat:Nat):Int) by rw[yn];unfold bt;rw[hlk];rfl]
     refine .rel _ (ht l[k] hlk _) (fun x ks' hR=>?_)
     obtain⟨rfl,rfl⟩:=hR
     obtain⟨c2,t2,h2⟩:∃ c2 t2,S++escL (l.take (k+1))=c2 :: t2:=by
      have h1:=qn9 (l.take (k+1))
      rw [lu] at h1
      cases h3:S++escL (l.take (k+1)) with
      |nil=>have:=congrArg List.length h3;rw [pv,gt] at this;omega
      |cons c t=>exact⟨c,t,rfl⟩
     rw[h2]
     conv=>whnf
     have hw1:=w64s k (by omega)
     rw[hw1]
     refine⟨k+1,[0,1,2,3,4,5,6],c1,by show l.length - (k+1)<l.length - k;omega,?_⟩
     conv=>whnf
     rw[h2]
     repeat'(first|exact ⟨⟩|exact rfl|exact qa _|exact .inr rfl|exact(fun _ _ _ _ h=>⟨jb _,h⟩)|exact fun _=>Iff.rfl|exact fun _ _=>rfl|exact noI|apply And.intro)
    ·have c1:k=l.length:=by
      have h:¬ (k:Int)<l.length:=px c1
      omega
     subst c1
     rw [lx] at hT
     conv=>whnf
     refine .rel _ (hw _) (fun x ks' hR=>?_)
     obtain⟨rfl,rfl⟩:=hR
     have hnx:=txtL_snoc hli
     rw [<-hSt,<-hT] at hnx
     conv=>whnf
     refine⟨i+1,[0,1,2,3,4,5,6],hlt,by show ls.length - (i+1)<ls.length - i;omega,?_⟩
     conv=>whnf
     rw[hnx]
     repeat'(first|exact ⟨⟩|exact rfl|exact qa _|exact .inr rfl|exact(fun _ _ _ _ h=>⟨jb _,h⟩)|exact fun _=>Iff.rfl|exact fun _ _=>rfl|exact noI|apply And.intro)
  ·have hil:i=ls.length:=by omega
   subst hil
   rw[hbe]
   conv=>whnf
   refine brT rfl ?_
   conv=>whnf
   rw [lx] at hSt
   have hne:S≠[]:=fun e=>by
    rw [hSt] at e
    cases ls with
    |nil=>exact hz hn3
    |cons a b=>simp [txtL] at e
   first
    |exact absurd hS hne
    |(
     rw [hS] at hSl
     refine .rel _ (COk.thing Bst.fl (bs_ok _ (gn hSl (by decide))) [] _ _ rfl rfl) (fun y ks' hR=>?_)
     obtain⟨_,_,⟨rfl,rfl⟩,rfl,rfl⟩:=hR
     conv=>whnf
     rw[<-hSt,hS]
     repeat'(first|exact ⟨⟩|exact rfl|exact fun _=>Iff.rfl|exact fun _ _=>rfl|exact renM_ent rfl _|apply And.intro))
def RR.lineV(r:RR):List UInt8 × Int:=if r.check then (r.line,0) else ([],2)
theorem qd7(n:Nat)(h:n<10000000000):(Lib.decDigits n).length<=10:=by
 have hs:∀ k,n<10 ^ (k+1)->(Lib.decDigits n).length<=k+1:=by
  intro k
  induction k generalizing n with
  |zero=>intro h;rw[Lib.decDigits,dif_pos (by omega)];simp
  |succ k ih =>
   intro hk
   rw[Lib.decDigits]
   split
   ·simp
   ·rw[pv]
    have:=ih (n / 10) (by omega) (by rw [Nat.pow_succ] at hk;omega)
    simp only[ou,gt]
    omega
 exact hs 9 h
theorem qt5{n:List UInt8}(h:qc n):(txtN n).length<=1020:=by
 obtain⟨h1,h2,h3⟩:=xg h
 unfold txtN
 split
 ·simp
 ·have:=qi0 (labN n) h2
  rw [<-h3] at this
  omega
theorem hexT_len(s:List UInt8):(hexT s).length<=2 * s.length+1:=by
 unfold hexT
 split
 ·simp
 ·have:=qu1 s;omega
theorem qt3{r:RR}(h:r.check=true):r.d.length<=4096:=by
 unfold RR.check qa0 at h
 simp only [oq,ly] at h
 exact h.1.2.1
theorem qn6{r:RR}(hck:r.check=true)(h:r.In):r.line.length<=9300:=by
 have h0:=qt5 (qm6 hck)
 have h1:=qd7 r.ttl.toNat (by have:=h.ttl;omega)
 have h2:=qd7 r.cl.toNat (by have:=h.cl;omega)
 have h3:=qd7 r.ty.toNat (by have:=h.ty;omega)
 have h4:=hexT_len r.d
 have h5:=qt3 hck
 unfold RR.line
 simp only[pv,ou]
 omega
theorem line_ok(r:RR)(h:r.In):FnOk Tryz.prog 49 [r.V] (.tup [.d (.str r.lineV.1),.d (.int .i64 r.lineV.2)]):=by
 refine qz (TT:=TT) (IN:=qi []) qk qm mixed 1000 Tryz.func49 rfl (qe Tryz.func49 (by kernel_rfl) rfl) rfl 36 (by kernel_rfl) ?_
 conv=>whnf
 refine oD (ji0 r) rfl rfl ?_
 cases hck:r.check with
 |false =>
  rw[show r.lineV=([],2) by unfold RR.lineV;rw[hck];rfl]
  conv=>whnf
  repeat(first|(refine brF rfl ?_;conv=>whnf)|(refine brT rfl ?_;conv=>whnf))
  repeat'(first|exact ⟨⟩|exact rfl|exact fun _=>Iff.rfl|exact fun _ _=>rfl|exact renM_ent rfl _|apply And.intro)
 |true =>
  rw[show r.lineV=(r.line,0) by unfold RR.lineV;rw[hck];rfl]
  conv=>whnf
  repeat(first|(refine brF rfl ?_;conv=>whnf)|(refine brT rfl ?_;conv=>whnf))
  refine oD (print_ok r.nm) rfl rfl ?_
  rw[show qk4 r.nm=(txtN r.nm,0) from if_pos (qm6 hck)]
  conv=>whnf
  repeat(first|(refine brF rfl ?_;conv=>whnf)|(refine brT rfl ?_;conv=>whnf))
  have h1:=h.ty
  have h2:=h.cl
  have h3:=h.ttl
  have e1:IntKind.u64.wrap r.ttl=((r.ttl.toNat:Nat):Int):=by rw[IntKind.wrap_u64];omega
  have e2:IntKind.u64.wrap r.cl=((r.cl.toNat:Nat):Int):=by rw[IntKind.wrap_u64];omega
  have e3:IntKind.u64.wrap r.ty=((r.ty.toNat:Nat):Int):=by rw[IntKind.wrap_u64];omega
  have hd:=qt3 hck
  rw[e1]
  refine .data _ (fmtU_ok r.ttl.toNat (by omega)) rfl rfl ?_
  conv=>whnf
  rw[e2]
  refine .data _ (fmtU_ok r.cl.toNat (by omega)) rfl rfl ?_
  conv=>whnf
  rw[e3]
  refine .data _ (fmtU_ok r.ty.toNat (by omega)) rfl rfl ?_
  conv=>whnf
  refine .data _ (hex_ok r.d (by omega)) rfl rfl ?_
  conv=>whnf
  have hj:Lib.join [txtN r.nm,Lib.decDigits r.ttl.toNat,Lib.decDigits r.cl.toNat,Lib.decDigits r.ty.toNat,hexT r.d] [32]=r.line:=by
   unfold RR.line Lib.join
   simp[List.intercalate]
  have hll:=qn6 hck h
  refine .one (.look (r:=.d (.str r.line)) ?_ rfl ?_)
  ·conv=>whnf
   have:=join_ok false [txtN r.nm,Lib.decDigits r.ttl.toNat,Lib.decDigits r.cl.toNat,Lib.decDigits r.ty.toNat,hexT r.d] [32] (by show 5<=_;omega) (by rw[hj];omega)
   rw [hj] at this
   exact⟨this.conv ⟨DS.rows fun i hi=>(match i,hi with
    |0,_=>DSL.refl _
    |1,_=>DSL.refl _
    |2,_=>DSL.refl _
    |3,_=>DSL.refl _
    |4,_=>DSL.refl _),DS.refl _,trivial⟩,rfl⟩
  conv=>whnf
  repeat'(first|exact ⟨⟩|exact rfl|exact fun _=>Iff.rfl|exact fun _ _=>rfl|exact renM_ent rfl _|apply And.intro)
def padL(N:Nat)(l:List (List UInt8)):List (List UInt8):=l++List.replicate (N - l.length) []
theorem jc1(N:Nat)(l:List (List UInt8))(x:List UInt8)(h:l.length<N)(j:Nat):oneF l.length 0 [.str x] (strs (padL N l)) j=strs (padL N (l++[x])) j:=by
 unfold oneF strs padL
 by_cases e:j=l.length
 ·subst e
  simp[putD]
 ·rw[if_neg e]
  congr 2
  by_cases h1:j<l.length
  ·rw[oo h1,oo (by simp;omega),oo h1]
  ·rw[o4 (by omega),o4 (by simp;omega),List.getElem?_replicate,List.getElem?_replicate]
   simp only[pv,ou,gt]
   split <;> split <;> first|rfl|omega
theorem idx_lt(c:UInt8):∀ s:List UInt8,Lib.indexByte s c<s.length/\-1<=Lib.indexByte s c
 |[]=>by simp[Lib.indexByte]
 |b :: s=>by
  have ih:=idx_lt c s
  simp only[Lib.indexByte,ou]
  split
  ·omega
  ·split <;> omega
structure SnSt where
 d:List (List UInt8)
 r:List UInt8
theorem splitn_ok(s:List UInt8)(hs:s.length<=1000000):FnOk Tryz.prog 135 [.d (.str s),.d (.str [32]),.d (.int .i64 6)] (.d (.sl false (cutN 5 s).length 1 (strs (cutN 5 s)))):=by
 refine qz (TT:=TT) (IN:=qi [(169,Tryz.f169,4)]) qk (ju qm Tryz.func169 (by kernel_rfl) (by kernel_rfl)) mixed 1000 Tryz.func135 rfl (qe Tryz.func135 (by kernel_rfl) rfl) rfl 8 (by kernel_rfl) ?_
 conv=>whnf
 repeat(first|(refine brF rfl ?_;conv=>whnf)|(refine brT rfl ?_;conv=>whnf))
 obtain⟨N,hN,hN1,hN2,hN3⟩:∃ N:Nat,(if IntKind.i64.wrap ((s.length:Int)+1)<6 then IntKind.i64.wrap ((s.length:Int)+1) else 6)=(N:Int)/\1<=N/\N<=6/\(N=6\/N=s.length+1):=by
  rw[qd ((s.length:Int)+1) (by omega)]
  by_cases h:s.length+1<6
  ·exact⟨s.length+1,by rw[if_pos (by omega)];omega,by omega,by omega,.inr rfl⟩
  ·exact⟨6,by rw[if_neg (by omega)];rfl,by omega,by omega,.inl rfl⟩
 rw[hN]
 refine⟨by omega,?_⟩
 conv=>whnf
 have hN4:IntKind.i64.wrap ((N:Int) - 1)=((N - 1:Nat):Int):=by rw[qd _ (by omega)];omega
 rw[hN4]
 have hp0:∀ j,strs (padL N []) j=[.str []]:=fun j=>by
  unfold strs padL
  simp only[gy,gt,rp,List.getElem?_replicate]
  split <;> rfl
 refine .inv SnSt (fun x=>x.d.length+x.r.length<=s.length/\x.d.length+1<=N/\x.d++cutN (5 - x.d.length) x.r=cutN 5 s) (fun x=>[(0,.d (.str x.r)),(10,iV x.d.length)]) (fun x=>[(0,.row 9 1 N .no (strs (padL N x.d)))]) (fun x=>x.r.length) ⟨⟨[],s⟩,[0],⟨by show 0+s.length<=_;omega,hN1,rfl⟩,?_⟩ ?_
 ·conv=>whnf
  repeat'(first|exact ⟨⟩|exact rfl|exact qa _|exact .inr rfl|exact fun _ _=>rfl|exact noI|apply And.intro)
  exact fun i _=>(hp0 i).symm
 intro x hx
 obtain⟨hk,hm,hrest⟩:=hx
 conv=>whnf
 generalize x.d=d at hk hm hrest ⊢
 generalize x.r=r at hk hrest ⊢
 generalize cutN 5 s=Y at hrest ⊢
 have hd1:IntKind.i64.wrap ((d.length:Int)+1)=((d.length+1:Nat):Int):=by rw[qd _ (by omega)];omega
 refine⟨fun c0=>?_,fun c0=>?_⟩
 ·have c0':d.length<N - 1:=(by have h:(d.length:Int)<((N - 1:Nat):Int):=pw c0;omega)
  obtain⟨k,hk5⟩:∃ k,5 - d.length=k+1:=⟨4 - d.length,by omega⟩
  conv=>whnf
  refine oD (index_ok r 32) rfl rfl ?_
  conv=>whnf
  obtain⟨i1,i2⟩:=idx_lt 32 r
  rw [hk5] at hrest
  simp only [cutN] at hrest
  generalize Lib.indexByte r 32=m at hrest i1 i2 ⊢
  by_cases hm0:m<0
  ·rw [if_pos hm0] at hrest
   refine brT (pn hm0) ?_
   conv=>whnf
   have hlast:[r]=[r]:=rfl
   have hu:Y=d++[r]:=by rw[<-hrest,hlast]
   refine⟨by omega,?_⟩
   conv=>whnf
   rw[hd1]
   refine⟨by omega,?_⟩
   conv=>whnf
   refine⟨by show 0+(((d.length+1:Nat):Int) - 0).toNat<=N;omega,rfl,by rw[hu,pv];show(((d.length+1:Nat):Int) - 0).toNat=d.length+1;omega,.inr rfl,fun j hj=>?_⟩
   have hj:j<(((d.length+1:Nat):Int) - 0).toNat:=hj
   show oneF (d.length:Int).toNat 0 [DV.str r] (strs (padL N d)) (0+j)=strs Y j
   rw[pz,jc1 N d r (by omega),hu,ow]
   unfold strs padL
   rw[oo (by simp;omega)]
  ·rw [if_neg hm0] at hrest
   obtain⟨m,rfl⟩:∃ n:Nat,m=n:=⟨m.toNat,by omega⟩
   rw [pz] at hrest
   refine brF (po hm0) ?_
   conv=>whnf
   rw[show IntKind.i64.wrap ((m:Int)+0)=(m:Int) by rw[qd _ (by omega)];omega]
   refine⟨by omega,?_⟩
   conv=>whnf
   refine⟨by omega,?_⟩
   conv=>whnf
   rw[show IntKind.i64.wrap ((m:Int)+(([32]:List UInt8).length:Int))=((m+1:Nat):Int) by show IntKind.i64.wrap ((m:Int)+1)=_;rw[qd _ (by omega)];omega]
   refine⟨by omega,?_⟩
   conv=>whnf
   rw[hd1,qf5,show sub r 0 (m:Int)=r.take m by unfold sub;simp]
   refine⟨⟨d++[r.take m],r.drop (m+1)⟩,[0],⟨by show(d++[_]).length+(r.drop (m+1)).length<=_;rw[pv,o6];show d.length+1+_<=_;omega,by show(d++[_]).length+1<=N;rw[pv];show d.length+1+1<=N;omega,?_⟩,by show(r.drop (m+1)).length<r.length;rw[o6];omega,?_⟩
   ·rw[<-hrest]
    show(d++[r.take m])++cutN (5 - (d++[r.take m]).length) (r.drop (m+1))=_
    rw[pv,show 5 - (d.length+[r.take m].length)=k by show 5 - (d.length+1)=k;omega,m6]
    rfl
   conv=>whnf
   repeat'(first|exact ⟨⟩|exact rfl|exact qa _|exact .inr rfl|exact fun _ _=>rfl|exact noI|apply And.intro)
   all_goals first
    |exact congrArg (fun n:Nat=>SV.d (DV.int IntKind.i64 (n:Int))) (show d.length+1=(d++[r.take m]).length by simp)
    |(
     intro i _
     rw[pz]
     exact jc1 N d _ (by omega) i)
 ·have c0':d.length=N - 1:=(by have h:¬ (d.length:Int)<((N - 1:Nat):Int):=px c0;omega)
  have hlast:cutN (5 - d.length) r=[r]:=by
   rcases hN3 with h|h
   ·rw[show 5 - d.length=0 by omega];rfl
   ·have:r=[]:=sw.1 (by omega)
    subst this
    exact cutN_last _ _ (fun b hb=>by cases hb)
  conv=>whnf
  have hu:Y=d++[r]:=by rw[<-hrest,hlast]
  refine⟨by omega,?_⟩
  conv=>whnf
  rw[hd1]
  refine⟨by omega,?_⟩
  conv=>whnf
  refine⟨by show 0+(((d.length+1:Nat):Int) - 0).toNat<=N;omega,rfl,by rw[hu,pv];show(((d.length+1:Nat):Int) - 0).toNat=d.length+1;omega,.inr rfl,fun j hj=>?_⟩
  have hj:j<(((d.length+1:Nat):Int) - 0).toNat:=hj
  show oneF (d.length:Int).toNat 0 [DV.str r] (strs (padL N d)) (0+j)=strs Y j
  rw[pz,jc1 N d r (by omega),hu,ow]
  unfold strs padL
  rw[oo (by simp;omega)]
theorem qk8{w:World}{fp:Nat->Nat->Prop}(h:VOk w fp)(g:Nat)(hg:g=2\/g=3):∃ t x,w.cell? ⟨g,0,none⟩=some (.iface t x):=by
 have hin:(g,isErr) ∈ evs:=by
  rcases hg with rfl|rfl
  ·exact .head _
  ·exact .tail _ (.head _)
 obtain⟨⟨vs,t,fz,e,t',x,rfl⟩,_⟩:=h _ hin
 refine⟨t',x,?_⟩
 simp at e
 simp[World.cell?,e]
theorem jo1(w:World)(s:List UInt8):Step (fun _=>False) w (Lib.bytesWorld w 5 ⟨s.toArray⟩):=by
 exact⟨rfl,rfl,rfl,by rw[Lib.bytesWorld_size];omega,fun b hb _=>Lib.bytesWorld_at_old w _ _ b hb,fun h=>(show False from h).elim⟩
def wordV(B:Nat)(s:List UInt8):Nat:=match Lib.parseUintB B s with
 | .ok u=>u
 | .range=>2 ^ B - 1
 |_=>0
theorem qt4{B:Nat}{s:List UInt8}{u:Nat}(h:yb B s=some u):wordV B s=u:=by
 unfold yb at h
 unfold wordV
 split at h
 ·cases h
  rename_i h1
  rw[h1]
 ·cases h
theorem jm4(s:List UInt8)(hs:s.length<=1000000):FnOk Tryz.prog 99 [.d (.str s),.d (.int .i64 10),.d (.int .i64 16)] (.tup [.d (.int .u64 (wordV 16 s:Nat)),.err (yb 16 s).isNone]):=by
 refine⟨qe Tryz.func99 (by kernel_rfl) rfl,fun M w vs hV hM hl hd=>?_⟩
 match vs,hl with
 |[v0,v1,v2],_ =>
  have h0:=yu (hd 0 _ v0 rfl rfl)
  have h1:=jc (hd 1 _ v1 rfl rfl)
  have h2:=jc (hd 2 _ v2 rfl rfl)
  subst h0 h1 h2
  have hsz:(⟨s.toArray⟩:ByteArray).size=s.length:=rfl
  unfold yb wordV
  cases hp:Lib.parseUintB 16 s
  ·rename_i u
   refine(Try.strconv_ParseUint_10_at16_ok ⟨s.toArray⟩ (by rw[hsz];omega) u hp w).mono ?_
   rintro e w' ⟨rfl,hw⟩
   refine⟨_,rfl,?_,.tup _ [.int .u64 u,.nilIface] rfl (fun j t v ht hv=>?_)⟩
   ·rcases hw with rfl|rfl
    ·exact Step.refl _ _
    ·exact jo1 w s
   ·match j with
    |0=>cases ht;cases hv;exact .d (.int _ _)
    |1=>cases ht;cases hv;exact .err _ _ (fun h=>by cases h) (fun _=>rfl)
  ·obtain⟨t,x,hc⟩:=qk8 hV 2 (.inl rfl)
   refine(Try.strconv_ParseUint_10_at16_syntax ⟨s.toArray⟩ (by rw[hsz];omega) hp _ w hc (.inr ⟨t,x,rfl⟩)).mono ?_
   rintro e w' ⟨N,rfl,_,_,hb⟩
   refine⟨_,rfl,Step.of_below _ hb,.tup _ [.int .u64 0,.iface _ _] rfl (fun j t v ht hv=>?_)⟩
   match j with
   |0=>cases ht;cases hv;exact .d (.int _ _)
   |1=>cases ht;cases hv;exact .err _ _ (fun _=>⟨_,_,rfl⟩) (fun h=>by cases h)
  ·obtain⟨t,x,hc⟩:=qk8 hV 3 (.inr rfl)
   refine(Try.strconv_ParseUint_10_at16_range ⟨s.toArray⟩ (by rw[hsz];omega) hp _ w hc (.inr ⟨t,x,rfl⟩)).mono ?_
   rintro e w' ⟨N,rfl,_,_,hb⟩
   refine⟨_,rfl,Step.of_below _ hb,.tup _ [.int .u64 _,.iface _ _] rfl (fun j t v ht hv=>?_)⟩
   match j with
   |0=>cases ht;cases hv;exact .d (.int _ _)
   |1=>cases ht;cases hv;exact .err _ _ (fun _=>⟨_,_,rfl⟩) (fun h=>by cases h)
theorem jm3(s:List UInt8)(hs:s.length<=1000000):FnOk Tryz.prog 99 [.d (.str s),.d (.int .i64 10),.d (.int .i64 32)] (.tup [.d (.int .u64 (wordV 32 s:Nat)),.err (yb 32 s).isNone]):=by
 refine⟨qe Tryz.func99 (by kernel_rfl) rfl,fun M w vs hV hM hl hd=>?_⟩
 match vs,hl with
 |[v0,v1,v2],_ =>
  have h0:=yu (hd 0 _ v0 rfl rfl)
  have h1:=jc (hd 1 _ v1 rfl rfl)
  have h2:=jc (hd 2 _ v2 rfl rfl)
  subst h0 h1 h2
  have hsz:(⟨s.toArray⟩:ByteArray).size=s.length:=rfl
  unfold yb wordV
  cases hp:Lib.parseUintB 32 s
  ·rename_i u
   refine(Try.strconv_ParseUint_10_at32_ok ⟨s.toArray⟩ (by rw[hsz];omega) u hp w).mono ?_
   rintro e w' ⟨rfl,hw⟩
   refine⟨_,rfl,?_,.tup _ [.int .u64 u,.nilIface] rfl (fun j t v ht hv=>?_)⟩
   ·rcases hw with rfl|rfl
    ·exact Step.refl _ _
    ·exact jo1 w s
   ·match j with
    |0=>cases ht;cases hv;exact .d (.int _ _)
    |1=>cases ht;cases hv;exact .err _ _ (fun h=>by cases h) (fun _=>rfl)
  ·obtain⟨t,x,hc⟩:=qk8 hV 2 (.inl rfl)
   refine(Try.strconv_ParseUint_10_at32_syntax ⟨s.toArray⟩ (by rw[hsz];omega) hp _ w hc (.inr ⟨t,x,rfl⟩)).mono ?_
   rintro e w' ⟨N,rfl,_,_,hb⟩
   refine⟨_,rfl,Step.of_below _ hb,.tup _ [.int .u64 0,.iface _ _] rfl (fun j t v ht hv=>?_)⟩
   match j with
   |0=>cases ht;cases hv;exact .d (.int _ _)
   |1=>cases ht;cases hv;exact .err _ _ (fun _=>⟨_,_,rfl⟩) (fun h=>by cases h)
  ·obtain⟨t,x,hc⟩:=qk8 hV 3 (.inr rfl)
   refine(Try.strconv_ParseUint_10_at32_range ⟨s.toArray⟩ (by rw[hsz];omega) hp _ w hc (.inr ⟨t,x,rfl⟩)).mono ?_
   rintro e w' ⟨N,rfl,_,_,hb⟩
   refine⟨_,rfl,Step.of_below _ hb,.tup _ [.int .u64 _,.iface _ _] rfl (fun j t v ht hv=>?_)⟩
   match j with
   |0=>cases ht;cases hv;exact .d (.int _ _)
   |1=>cases ht;cases hv;exact .err _ _ (fun _=>⟨_,_,rfl⟩) (fun h=>by cases h)
theorem w8n{n:Nat}(h:n<256):IntKind.u8.wrap (n:Int)=((UInt8.ofNat n).toNat:Int):=by rw[qq2 h,du];omega
theorem digI(c:UInt8):zf c=true↔48<=(c.toNat:Int)/\(c.toNat:Int)<=57:=by
 unfold zf
 rw[ly]
 omega
theorem dgw(a:Nat)(x:UInt8)(ha:a<=1000)(h1:48<=x.toNat)(h2:x.toNat<=57):IntKind.i64.wrap (IntKind.i64.wrap (10 * (a:Int))+IntKind.i64.wrap (IntKind.u8.wrap ((x.toNat:Int) - 48)))=((10 * a+(x.toNat - 48):Nat):Int):=by
 have e:IntKind.u8.wrap ((x.toNat:Int) - 48)=((x.toNat - 48:Nat):Int):=by rw[du];omega
 rw[e,qd (10 * (a:Int)) (by omega),qd ((x.toNat - 48:Nat):Int) (by omega),qd _ (by omega)]
 omega
theorem behind_ok(s:List UInt8):FnOk Tryz.prog 162 [.d (.str s)] (.tup [.d (.int .u8 ((behB s).1.toNat:Int)),.d (.int .i64 (behB s).2)]):=by
 refine qz (TT:=TT) (IN:=qi []) qk qm mixed 1000 Tryz.func162 rfl (qe Tryz.func162 (by kernel_rfl) rfl) rfl 46 (by kernel_rfl) ?_
 cases s with
 |nil =>
  conv=>whnf
  repeat(first|(refine brF rfl ?_;conv=>whnf)|(refine brT rfl ?_;conv=>whnf))
  repeat'(first|exact ⟨⟩|exact rfl|exact fun _=>Iff.rfl|exact fun _ _=>rfl|exact renM_ent rfl _|apply And.intro)
 |cons c r =>
  have hc:=c.toNat_lt
  conv=>whnf
  refine brF rfl ?_
  conv=>whnf
  have hix:(0:Int)<=0/\(0:Int)<((r.length+1:Nat):Int):=by omega
  have hb0:je (c :: r) 0=(c.toNat:Int):=rfl
  refine⟨hix,?_⟩
  conv=>whnf
  rw[hb0]
  by_cases h1:48<=c.toNat
  case neg =>
   have he:behB (c :: r)=(c,1):=by
    have:zf c=false:=by unfold zf;rw[po (by omega)]
    simp[behB,this]
   rw[he]
   refine brT (pn (by omega)) ?_
   conv=>whnf
   repeat(first|(refine brF rfl ?_;conv=>whnf)|(refine brT rfl ?_;conv=>whnf))
   refine⟨hix,?_⟩
   conv=>whnf
   repeat'(first|exact ⟨⟩|exact rfl|exact fun _=>Iff.rfl|exact fun _ _=>rfl|exact renM_ent rfl _|apply And.intro)
  refine brF (po (by omega)) ?_
  conv=>whnf
  refine⟨hix,?_⟩
  conv=>whnf
  rw[hb0]
  by_cases h2:c.toNat<=57
  case neg =>
   have he:behB (c :: r)=(c,1):=by
    have:zf c=false:=by unfold zf;rw[po (by omega)]
    simp[behB,this]
   rw[he]
   refine brT (pn (by omega)) ?_
   conv=>whnf
   repeat(first|(refine brF rfl ?_;conv=>whnf)|(refine brT rfl ?_;conv=>whnf))
   refine⟨hix,?_⟩
   conv=>whnf
   repeat'(first|exact ⟨⟩|exact rfl|exact fun _=>Iff.rfl|exact fun _ _=>rfl|exact renM_ent rfl _|apply And.intro)
  refine brF (po (by omega)) ?_
  conv=>whnf
  repeat(first|(refine brF rfl ?_;conv=>whnf)|(refine brT rfl ?_;conv=>whnf))
  have hd:zf c=true:=(digI c).2 ⟨by omega,by omega⟩
  have hcase:r=[]\/(∃ d,r=[d])\/∃ d e q,r=d :: e :: q:=by
   match r with
   |[]=>exact .inl rfl
   |[d]=>exact .inr (.inl ⟨d,rfl⟩)
   |d :: e :: q=>exact .inr (.inr ⟨d,e,q,rfl⟩)
  rcases hcase with rfl|⟨d,rfl⟩|⟨d,e,q,rfl⟩
  ·have he:behB [c]=(0,0):=by simp[behB,hd]
   rw[he]
   refine brT rfl ?_
   conv=>whnf
   repeat'(first|exact ⟨⟩|exact rfl|exact fun _=>Iff.rfl|exact fun _ _=>rfl|exact renM_ent rfl _|apply And.intro)
  ·have he:behB [c,d]=(0,0):=by simp[behB,hd]
   rw[he]
   refine brT rfl ?_
   conv=>whnf
   repeat'(first|exact ⟨⟩|exact rfl|exact fun _=>Iff.rfl|exact fun _ _=>rfl|exact renM_ent rfl _|apply And.intro)
  have hdd:=d.toNat_lt
  have hed:=e.toNat_lt
  refine brF (po (by show ¬ ((q.length+1+1+1:Nat):Int)<3;omega)) ?_
  conv=>whnf
  have hb1:je (c :: d :: e :: q) (IntKind.i64.wrap (0+1))=(d.toNat:Int):=rfl
  have hb2:je (c :: d :: e :: q) (IntKind.i64.wrap (IntKind.i64.wrap (0+1)+1))=(e.toNat:Int):=rfl
  have hn:∀ x:UInt8,x.toNat<48\/57<x.toNat->zf x=false:=fun x hx=>by unfold zf;rw[po (by omega)]
  refine .once ?_
  conv=>whnf
  refine brT rfl ?_
  conv=>whnf
  refine⟨by show(0:Int)<=0/\(0:Int)<((q.length+1+1+1:Nat):Int);omega,?_⟩
  conv=>whnf
  rw[hb0]
  refine brF (po (by omega)) ?_
  conv=>whnf
  refine⟨by show(0:Int)<=0/\(0:Int)<((q.length+1+1+1:Nat):Int);omega,?_⟩
  conv=>whnf
  rw[hb0]
  refine brF (po (by omega)) ?_
  conv=>whnf
  repeat(first|(refine brF rfl ?_;conv=>whnf)|(refine brT rfl ?_;conv=>whnf))
  refine⟨by show(0:Int)<=0/\(0:Int)<((q.length+1+1+1:Nat):Int);omega,?_⟩
  conv=>whnf
  rw[hb0,show IntKind.i64.wrap (IntKind.i64.wrap (10 * 0)+IntKind.i64.wrap (IntKind.u8.wrap ((c.toNat:Int) - 48)))=_ from dgw 0 c (by decide) h1 h2]
  refine .once ?_
  conv=>whnf
  refine brT rfl ?_
  conv=>whnf
  refine⟨by show(0:Int)<=1/\(1:Int)<((q.length+1+1+1:Nat):Int);omega,?_⟩
  conv=>whnf
  rw[hb1]
  by_cases ld:48<=d.toNat
  case neg =>
   have he:behB (c :: d :: e :: q)=(0,0):=by simp[behB,hd,hn d (by omega)]
   rw[he]
   refine brT (pn (by omega)) ?_
   conv=>whnf
   repeat(first|(refine brF rfl ?_;conv=>whnf)|(refine brT rfl ?_;conv=>whnf))
   repeat'(first|exact ⟨⟩|exact rfl|exact fun _=>Iff.rfl|exact fun _ _=>rfl|exact renM_ent rfl _|apply And.intro)
  refine brF (po (by omega)) ?_
  conv=>whnf
  refine⟨by show(0:Int)<=1/\(1:Int)<((q.length+1+1+1:Nat):Int);omega,?_⟩
  conv=>whnf
  rw[hb1]
  by_cases ud:d.toNat<=57
  case neg =>
   have he:behB (c :: d :: e :: q)=(0,0):=by simp[behB,hd,hn d (by omega)]
   rw[he]
   refine brT (pn (by omega)) ?_
   conv=>whnf
   repeat(first|(refine brF rfl ?_;conv=>whnf)|(refine brT rfl ?_;conv=>whnf))
   repeat'(first|exact ⟨⟩|exact rfl|exact fun _=>Iff.rfl|exact fun _ _=>rfl|exact renM_ent rfl _|apply And.intro)
  refine brF (po (by omega)) ?_
  conv=>whnf
  repeat(first|(refine brF rfl ?_;conv=>whnf)|(refine brT rfl ?_;conv=>whnf))
  have hdd1:zf d=true:=(digI d).2 ⟨by omega,by omega⟩
  refine⟨by show(0:Int)<=1/\(1:Int)<((q.length+1+1+1:Nat):Int);omega,?_⟩
  conv=>whnf
  rw[hb1,dgw (10 * 0+(c.toNat - 48)) d (by omega) ld ud]
  refine .once ?_
  conv=>whnf
  refine brT rfl ?_
  conv=>whnf
  refine⟨by show(0:Int)<=2/\(2:Int)<((q.length+1+1+1:Nat):Int);omega,?_⟩
  conv=>whnf
  rw[hb2]
  by_cases le:48<=e.toNat
  case neg =>
   have he:behB (c :: d :: e :: q)=(0,0):=by simp[behB,hd,hdd1,hn e (by omega)]
   rw[he]
   refine brT (pn (by omega)) ?_
   conv=>whnf
   repeat(first|(refine brF rfl ?_;conv=>whnf)|(refine brT rfl ?_;conv=>whnf))
   repeat'(first|exact ⟨⟩|exact rfl|exact fun _=>Iff.rfl|exact fun _ _=>rfl|exact renM_ent rfl _|apply And.intro)
  refine brF (po (by omega)) ?_
  conv=>whnf
  refine⟨by show(0:Int)<=2/\(2:Int)<((q.length+1+1+1:Nat):Int);omega,?_⟩
  conv=>whnf
  rw[hb2]
  by_cases ue:e.toNat<=57
  case neg =>
   have he:behB (c :: d :: e :: q)=(0,0):=by simp[behB,hd,hdd1,hn e (by omega)]
   rw[he]
   refine brT (pn (by omega)) ?_
   conv=>whnf
   repeat(first|(refine brF rfl ?_;conv=>whnf)|(refine brT rfl ?_;conv=>whnf))
   repeat'(first|exact ⟨⟩|exact rfl|exact fun _=>Iff.rfl|exact fun _ _=>rfl|exact renM_ent rfl _|apply And.intro)
  refine brF (po (by omega)) ?_
  conv=>whnf
  repeat(first|(refine brF rfl ?_;conv=>whnf)|(refine brT rfl ?_;conv=>whnf))
  have hed1:zf e=true:=(digI e).2 ⟨by omega,by omega⟩
  refine⟨by show(0:Int)<=2/\(2:Int)<((q.length+1+1+1:Nat):Int);omega,?_⟩
  conv=>whnf
  rw[hb2,dgw (10 * (10 * 0+(c.toNat - 48))+(d.toNat - 48)) e (by omega) le ue]
  refine .once ?_
  conv=>whnf
  refine brF rfl ?_
  conv=>whnf
  have hN:10 * (10 * (10 * 0+(c.toNat - 48))+(d.toNat - 48))+(e.toNat - 48)=100 * (c.toNat - 48)+10 * (d.toNat - 48)+(e.toNat - 48):=by omega
  rw[hN]
  have hbe:behB (c :: d :: e :: q)=if 100 * (c.toNat - 48)+10 * (d.toNat - 48)+(e.toNat - 48)<=255 then (UInt8.ofNat (100 * (c.toNat - 48)+10 * (d.toNat - 48)+(e.toNat - 48)),3) else (0,0):=by simp only[behB,hd,hdd1,hed1,if_true]
  rw[hbe]
  generalize 100 * (c.toNat - 48)+10 * (d.toNat - 48)+(e.toNat - 48)=N
  by_cases hN2:N<=255
  ·rw[if_pos hN2]
   refine brF (po (by omega)) ?_
   conv=>whnf
   rw[w8n (by omega)]
   repeat'(first|exact ⟨⟩|exact rfl|exact fun _=>Iff.rfl|exact fun _ _=>rfl|exact renM_ent rfl _|apply And.intro)
  ·rw[if_neg hN2]
   refine brT (pn (by omega)) ?_
   conv=>whnf
   repeat'(first|exact ⟨⟩|exact rfl|exact fun _=>Iff.rfl|exact fun _ _=>rfl|exact renM_ent rfl _|apply And.intro)
theorem behB_le(r:List UInt8):(behB r).2<=r.length:=by
 match r with
 |[]=>simp[behB]
 |[c]=>simp only[behB];split <;> simp
 |[c,d]=>simp only[behB];split <;> simp
 |c :: d :: e :: q =>
  simp only[behB]
  repeat' split
  all_goals simp
def cutV:Option (List (List UInt8))->SV
 |none=>.tup [.any,.d .ff]
 |some l=>.tup [.d (.sl false l.length 1 (strs l)),.d .tt]
structure CtSt where
 at_:Nat
 l:List UInt8
 ls:List (List UInt8)
 m:Nat
 q:Option (Nat × (Nat->List DV))
def CtSt.v(x:CtSt):SV:=match x.q with
 |none=>.all 1
 |some _=>.row 1 0 0
def CtSt.b(x:CtSt):KB:=match x.q with
 |none=>.row 5 1 x.l.length .may (jw x.l)
 |some p=>.row 5 1 p.1 .may p.2
theorem lcut_ok(s:List UInt8)(hs:s.length<=1000000):FnOk Tryz.prog 131 [.d (.str s)] (cutV (tcut (s.length+1) s [] [])):=by
 refine qz (TT:=TT) (IN:=qi []) qk qm mixed 1000 Tryz.func131 rfl (qe Tryz.func131 (by kernel_rfl) rfl) rfl 68 (by kernel_rfl) ?_
 conv=>whnf
 refine .nilT 4 9 1 (strs []) _ _ rfl ?_
 refine .nilT 5 5 1 (jw []) _ _ rfl ?_
 refine .inv CtSt (fun x=>x.at_<=s.length/\s.length<x.at_+x.m/\x.l.length+x.ls.length<=x.at_/\(x.q.isSome=true->x.l=[])/\tcut x.m (s.drop x.at_) x.l x.ls=tcut (s.length+1) s [] []) (fun x=>[(4,.all 0),(5,x.v),(6,iV x.at_)]) (fun x=>[(0,.row 9 1 x.ls.length .iff (strs x.ls)),(1,x.b)]) (fun x=>s.length - x.at_) ⟨⟨0,[],[],s.length+1,none⟩,[0,1],⟨p6 _,by show s.length<0+(s.length+1);omega,p6 _,fun h=>(by cases h),rfl⟩,?_⟩ ?_
 ·conv=>whnf
  repeat'(first|exact ⟨⟩|exact rfl|exact qa _|exact .inr rfl|exact fun _ _=>rfl|exact noI|apply And.intro)
 intro x hx
 obtain⟨hk,hm,hll,hql,hrest⟩:=hx
 show qb1 _ _ _ [(4,.all 0),(5,x.v),(6,iV x.at_)] [(0,.row 9 1 x.ls.length .iff (strs x.ls)),(1,x.b)] _
 rcases hxq:x.q with _|⟨qn,qf⟩
 ·rw[show x.v = .all 1 by unfold CtSt.v;rw[hxq],show x.b = .row 5 1 x.l.length .may (jw x.l) by unfold CtSt.b;rw[hxq]]
  rw [hxq] at hql
  conv=>whnf
  generalize x.at_=k at hk hm hll hrest ⊢
  generalize x.l=l at hll hrest hql ⊢
  generalize x.ls=ls at hll hrest ⊢
  generalize x.m=m at hm hrest ⊢
  obtain⟨m',rfl⟩:∃ m',m=m'+1:=⟨m - 1,by omega⟩
  refine⟨fun c0=>?_,fun c0=>?_⟩
  ·have c0':k<s.length:=(by have h:(k:Int)<s.length:=pw c0;omega)
   have hsk:s[k]? = some s[k]:=pp c0'
   have hdr:s.drop k=s[k] :: s.drop (k+1):=l9 c0'
   rw [hdr] at hrest
   have hbk:je s (k:Int)=((s[k].toNat:Nat):Int):=by rw[yn];unfold bt;rw[hsk];rfl
   generalize s[k]=c at hsk hdr hrest hbk
   have hc:=c.toNat_lt
   have hk1:=w64s k (by omega)
   simp only [tcut] at hrest
   conv=>whnf
   refine⟨by omega,?_⟩
   conv=>whnf
   rw[hbk]
   by_cases h46:c=46
   ·subst h46
    rw [if_pos rfl] at hrest
    refine brT rfl ?_
    conv=>whnf
    by_cases hl0:l=[]
    ·subst hl0
     rw [if_pos rfl] at hrest
     rw[<-hrest]
     refine brT rfl ?_
     conv=>whnf
     repeat'(first|exact ⟨⟩|exact rfl|exact fun _=>Iff.rfl|exact fun _ _=>rfl|exact renM_ent rfl _|apply And.intro)
    try exact absurd (hql rfl) hl0
    all_goals
     rw [if_neg hl0] at hrest
     have hl1:1<=l.length:=d7.2 hl0
     refine brF (by rw[o9];omega) ?_
     conv=>whnf
     refine⟨fun i _=>⟨_,rfl⟩,?_⟩
     rw[qb8]
     conv=>whnf
     refine⟨by omega,?_⟩
     conv=>whnf
     refine⟨by omega,?_⟩
     conv=>whnf
     rw[hk1]
     refine⟨⟨k+1,[],ls++[l],m',some (l.length,jw l)⟩,[3,1],⟨c0',by show s.length<k+1+m';omega,by show 0+(ls++[l]).length<=k+1;rw[pv];show 0+(ls.length+1)<=_;omega,fun _=>rfl,hrest⟩,by show s.length - (k+1)<s.length - k;omega,?_⟩
     conv=>whnf
     repeat'(first|exact ⟨⟩|exact rfl|exact qa _|exact .inr rfl|exact fun _ _=>rfl|exact noI|apply And.intro)
     all_goals first
      |(show ls.length+1=(ls++[l]).length;simp)
      |exact vi ls l _ rfl
   have he46:(((c.toNat:Nat):Int) == 46)=false:=by rw[o9];intro h;exact h46 (UInt8.toNat_inj.1 (by show c.toNat=46;omega))
   rw [if_neg h46] at hrest
   refine brF he46 ?_
   conv=>whnf
   by_cases h92:c=92
   ·subst h92
    rw [if_pos rfl] at hrest
    refine brT rfl ?_
    conv=>whnf
    rw[hk1]
    refine⟨by omega,?_⟩
    conv=>whnf
    rw[qf5]
    generalize hdd:s.drop (k+1)=r at hrest
    have hrl:r.length=s.length - (k+1):=by rw[<-hdd,o6]
    refine oD (behind_ok r) rfl rfl ?_
    have hb2:(behB r).2<=r.length:=behB_le r
    generalize hbh:behB r=b at hrest hb2
    obtain⟨b1,b2⟩:=b
    conv=>whnf
    by_cases hb0:b2=0
    ·subst hb0
     rw [if_pos rfl] at hrest
     rw[<-hrest]
     refine brT rfl ?_
     conv=>whnf
     repeat'(first|exact ⟨⟩|exact rfl|exact fun _=>Iff.rfl|exact fun _ _=>rfl|exact renM_ent rfl _|apply And.intro)
    rw [if_neg hb0] at hrest
    refine brF (by rw[o9];show((b2:Nat):Int)≠0;omega) ?_
    conv=>whnf
    refine⟨by omega,?_⟩
    conv=>whnf
    have hw2:IntKind.i64.wrap ((k:Int)+IntKind.i64.wrap (((b2:Nat):Int)+1))=((k+1+b2:Nat):Int):=by rw[qd (((b2:Nat):Int)+1) (by omega),qd _ (by omega)];omega
    rw[hw2]
    have hr2:r.drop b2=s.drop (k+1+b2):=by rw[<-hdd,f6]
    replace hrest:tcut m' (s.drop (k+1+b2)) (l++[b1]) ls=tcut (s.length+1) s [] []:=by rw[<-hr2];exact hrest
    refine⟨⟨k+1+b2,l++[b1],ls,m',none⟩,[0,3],⟨by show k+1+b2<=s.length;have:b2<=r.length:=hb2;omega,by show s.length<k+1+b2+m';omega,by show(l++[b1]).length+ls.length<=k+1+b2;rw[pv];show l.length+1+ls.length<=_;omega,fun h=>(by cases h),hrest⟩,by show s.length - (k+1+b2)<s.length - k;omega,?_⟩
    conv=>whnf
    repeat'(first|exact ⟨⟩|exact rfl|exact qa _|exact .inr rfl|exact fun _ _=>rfl|exact noI|apply And.intro)
    all_goals first
     |(show l.length+1=(l++[b1]).length;simp)
     |exact(fun i hi=>qf0 l b1 i hi)
     |(show 0+1=(l++[b1]).length;rw[hql rfl];rfl)
     |(
      intro i hi;have:i=0:=by omega
      subst this;rw[show l=[] from hql rfl];rfl)
   have he92:(((c.toNat:Nat):Int) == 92)=false:=by rw[o9];intro h;exact h92 (UInt8.toNat_inj.1 (by show c.toNat=92;omega))
   rw [if_neg h92] at hrest
   refine brF he92 ?_
   conv=>whnf
   by_cases h33:33<=c.toNat/\c.toNat<=126
   ·rw [if_pos h33] at hrest
    refine brF (po (by omega)) ?_
    conv=>whnf
    refine brF (po (by omega)) ?_
    conv=>whnf
    repeat(first|(refine brF rfl ?_;conv=>whnf)|(refine brT rfl ?_;conv=>whnf))
    refine⟨by omega,?_⟩
    conv=>whnf
    rw[hk1]
    refine⟨⟨k+1,l++[c],ls,m',none⟩,[0,3],⟨c0',by show s.length<k+1+m';omega,by show(l++[c]).length+_<=k+1;rw[pv];show l.length+1+ls.length<=_;omega,fun h=>(by cases h),hrest⟩,by show s.length - (k+1)<s.length - k;omega,?_⟩
    conv=>whnf
    repeat'(first|exact ⟨⟩|exact rfl|exact qa _|exact .inr rfl|exact fun _ _=>rfl|exact noI|apply And.intro)
    all_goals first
     |(show l.length+1=(l++[c]).length;simp)
     |exact(fun i hi=>qf0 l c i hi)
     |(show 0+1=(l++[c]).length;rw[hql rfl];rfl)
     |(
      intro i hi;have:i=0:=by omega
      subst this;rw[show l=[] from hql rfl];rfl)
   ·rw [if_neg h33] at hrest
    rw[<-hrest]
    by_cases h33':c.toNat<33
    ·refine brT (pn (by omega)) ?_
     conv=>whnf
     repeat(first|(refine brF rfl ?_;conv=>whnf)|(refine brT rfl ?_;conv=>whnf))
     repeat'(first|exact ⟨⟩|exact rfl|exact fun _=>Iff.rfl|exact fun _ _=>rfl|exact renM_ent rfl _|apply And.intro)
    ·refine brF (po (by omega)) ?_
     conv=>whnf
     refine brT (pn (by omega)) ?_
     conv=>whnf
     repeat(first|(refine brF rfl ?_;conv=>whnf)|(refine brT rfl ?_;conv=>whnf))
     repeat'(first|exact ⟨⟩|exact rfl|exact fun _=>Iff.rfl|exact fun _ _=>rfl|exact renM_ent rfl _|apply And.intro)
  ·have c0':k=s.length:=(by have h:¬ (k:Int)<s.length:=px c0;omega)
   subst c0'
   rw [c7] at hrest
   simp only [tcut] at hrest
   conv=>whnf
   by_cases hl0:l=[]
   ·subst hl0
    rw [if_pos rfl] at hrest
    rw[<-hrest]
    refine brF rfl ?_
    conv=>whnf
    by_cases hls:ls=[]
    ·rw[if_pos hls]
     subst hls
     conv=>whnf
     repeat'(first|exact ⟨⟩|exact rfl|exact fun _=>Iff.rfl|exact fun _ _=>rfl|exact renM_ent rfl _|apply And.intro)
    ·rw[if_neg hls]
     have:=d7.2 hls
     conv=>whnf
     refine⟨⟨(by cases ls with
      |nil=>exact absurd rfl hls
      |cons a b=>rfl),rfl,.inr rfl,fun i hi=>rfl⟩,(show decide ((ls.length:Int) > 0)=true from pn (by omega)),True.intro⟩
   ·try exact absurd (hql rfl) hl0
    all_goals
     have hl1:1<=l.length:=d7.2 hl0
     rw [if_neg hl0] at hrest
     rw[<-hrest]
     refine brT (pn (by omega)) ?_
     conv=>whnf
     refine⟨fun i _=>⟨_,rfl⟩,?_⟩
     rw[qb8]
     conv=>whnf
     refine⟨by omega,?_⟩
     conv=>whnf
     refine⟨⟨rfl,(show ls.length+1=(ls++[l]).length by simp),.inr rfl,vi ls l _ rfl⟩,(show decide (((ls.length+1:Nat):Int) > 0)=true from pn (by omega)),True.intro⟩
 ·rw[show x.v = .row 1 0 0 by unfold CtSt.v;rw[hxq],show x.b = .row 5 1 qn .may qf by unfold CtSt.b;rw[hxq]]
  rw [hxq] at hql
  conv=>whnf
  generalize x.at_=k at hk hm hll hrest ⊢
  generalize x.l=l at hll hrest hql ⊢
  generalize x.ls=ls at hll hrest ⊢
  generalize x.m=m at hm hrest ⊢
  obtain⟨m',rfl⟩:∃ m',m=m'+1:=⟨m - 1,by omega⟩
  refine⟨fun c0=>?_,fun c0=>?_⟩
  ·have c0':k<s.length:=(by have h:(k:Int)<s.length:=pw c0;omega)
   have hsk:s[k]? = some s[k]:=pp c0'
   have hdr:s.drop k=s[k] :: s.drop (k+1):=l9 c0'
   rw [hdr] at hrest
   have hbk:je s (k:Int)=((s[k].toNat:Nat):Int):=by rw[yn];unfold bt;rw[hsk];rfl
   generalize s[k]=c at hsk hdr hrest hbk
   have hc:=c.toNat_lt
   have hk1:=w64s k (by omega)
   simp only [tcut] at hrest
   conv=>whnf
   refine⟨by omega,?_⟩
   conv=>whnf
   rw[hbk]
   by_cases h46:c=46
   ·subst h46
    rw [if_pos rfl] at hrest
    refine brT rfl ?_
    conv=>whnf
    by_cases hl0:l=[]
    ·subst hl0
     rw [if_pos rfl] at hrest
     rw[<-hrest]
     refine brT rfl ?_
     conv=>whnf
     repeat'(first|exact ⟨⟩|exact rfl|exact fun _=>Iff.rfl|exact fun _ _=>rfl|exact renM_ent rfl _|apply And.intro)
    try exact absurd (hql rfl) hl0
    all_goals
     rw [if_neg hl0] at hrest
     have hl1:1<=l.length:=d7.2 hl0
     refine brF (by rw[o9];omega) ?_
     conv=>whnf
     refine⟨fun i _=>⟨_,rfl⟩,?_⟩
     rw[qb8]
     conv=>whnf
     refine⟨by omega,?_⟩
     conv=>whnf
     refine⟨by omega,?_⟩
     conv=>whnf
     rw[hk1]
     refine⟨⟨k+1,[],ls++[l],m',some (l.length,jw l)⟩,[3,1],⟨c0',by show s.length<k+1+m';omega,by show 0+(ls++[l]).length<=k+1;rw[pv];show 0+(ls.length+1)<=_;omega,fun _=>rfl,hrest⟩,by show s.length - (k+1)<s.length - k;omega,?_⟩
     conv=>whnf
     repeat'(first|exact ⟨⟩|exact rfl|exact qa _|exact .inr rfl|exact fun _ _=>rfl|exact noI|apply And.intro)
     all_goals first
      |(show ls.length+1=(ls++[l]).length;simp)
      |exact vi ls l _ rfl
   have he46:(((c.toNat:Nat):Int) == 46)=false:=by rw[o9];intro h;exact h46 (UInt8.toNat_inj.1 (by show c.toNat=46;omega))
   rw [if_neg h46] at hrest
   refine brF he46 ?_
   conv=>whnf
   by_cases h92:c=92
   ·subst h92
    rw [if_pos rfl] at hrest
    refine brT rfl ?_
    conv=>whnf
    rw[hk1]
    refine⟨by omega,?_⟩
    conv=>whnf
    rw[qf5]
    generalize hdd:s.drop (k+1)=r at hrest
    have hrl:r.length=s.length - (k+1):=by rw[<-hdd,o6]
    refine oD (behind_ok r) rfl rfl ?_
    have hb2:(behB r).2<=r.length:=behB_le r
    generalize hbh:behB r=b at hrest hb2
    obtain⟨b1,b2⟩:=b
    conv=>whnf
    by_cases hb0:b2=0
    ·subst hb0
     rw [if_pos rfl] at hrest
     rw[<-hrest]
     refine brT rfl ?_
     conv=>whnf
     repeat'(first|exact ⟨⟩|exact rfl|exact fun _=>Iff.rfl|exact fun _ _=>rfl|exact renM_ent rfl _|apply And.intro)
    rw [if_neg hb0] at hrest
    refine brF (by rw[o9];show((b2:Nat):Int)≠0;omega) ?_
    conv=>whnf
    refine⟨by omega,?_⟩
    conv=>whnf
    have hw2:IntKind.i64.wrap ((k:Int)+IntKind.i64.wrap (((b2:Nat):Int)+1))=((k+1+b2:Nat):Int):=by rw[qd (((b2:Nat):Int)+1) (by omega),qd _ (by omega)];omega
    rw[hw2]
    have hr2:r.drop b2=s.drop (k+1+b2):=by rw[<-hdd,f6]
    replace hrest:tcut m' (s.drop (k+1+b2)) (l++[b1]) ls=tcut (s.length+1) s [] []:=by rw[<-hr2];exact hrest
    refine⟨⟨k+1+b2,l++[b1],ls,m',none⟩,[0,3],⟨by show k+1+b2<=s.length;have:b2<=r.length:=hb2;omega,by show s.length<k+1+b2+m';omega,by show(l++[b1]).length+ls.length<=k+1+b2;rw[pv];show l.length+1+ls.length<=_;omega,fun h=>(by cases h),hrest⟩,by show s.length - (k+1+b2)<s.length - k;omega,?_⟩
    conv=>whnf
    repeat'(first|exact ⟨⟩|exact rfl|exact qa _|exact .inr rfl|exact fun _ _=>rfl|exact noI|apply And.intro)
    all_goals first
     |(show l.length+1=(l++[b1]).length;simp)
     |exact(fun i hi=>qf0 l b1 i hi)
     |(show 0+1=(l++[b1]).length;rw[hql rfl];rfl)
     |(
      intro i hi;have:i=0:=by omega
      subst this;rw[show l=[] from hql rfl];rfl)
   have he92:(((c.toNat:Nat):Int) == 92)=false:=by rw[o9];intro h;exact h92 (UInt8.toNat_inj.1 (by show c.toNat=92;omega))
   rw [if_neg h92] at hrest
   refine brF he92 ?_
   conv=>whnf
   by_cases h33:33<=c.toNat/\c.toNat<=126
   ·rw [if_pos h33] at hrest
    refine brF (po (by omega)) ?_
    conv=>whnf
    refine brF (po (by omega)) ?_
    conv=>whnf
    repeat(first|(refine brF rfl ?_;conv=>whnf)|(refine brT rfl ?_;conv=>whnf))
    refine⟨by omega,?_⟩
    conv=>whnf
    rw[hk1]
    refine⟨⟨k+1,l++[c],ls,m',none⟩,[0,3],⟨c0',by show s.length<k+1+m';omega,by show(l++[c]).length+_<=k+1;rw[pv];show l.length+1+ls.length<=_;omega,fun h=>(by cases h),hrest⟩,by show s.length - (k+1)<s.length - k;omega,?_⟩
    conv=>whnf
    repeat'(first|exact ⟨⟩|exact rfl|exact qa _|exact .inr rfl|exact fun _ _=>rfl|exact noI|apply And.intro)
    all_goals first
     |(show l.length+1=(l++[c]).length;simp)
     |exact(fun i hi=>qf0 l c i hi)
     |(show 0+1=(l++[c]).length;rw[hql rfl];rfl)
     |(
      intro i hi;have:i=0:=by omega
      subst this;rw[show l=[] from hql rfl];rfl)
   ·rw [if_neg h33] at hrest
    rw[<-hrest]
    by_cases h33':c.toNat<33
    ·refine brT (pn (by omega)) ?_
     conv=>whnf
     repeat(first|(refine brF rfl ?_;conv=>whnf)|(refine brT rfl ?_;conv=>whnf))
     repeat'(first|exact ⟨⟩|exact rfl|exact fun _=>Iff.rfl|exact fun _ _=>rfl|exact renM_ent rfl _|apply And.intro)
    ·refine brF (po (by omega)) ?_
     conv=>whnf
     refine brT (pn (by omega)) ?_
     conv=>whnf
     repeat(first|(refine brF rfl ?_;conv=>whnf)|(refine brT rfl ?_;conv=>whnf))
     repeat'(first|exact ⟨⟩|exact rfl|exact fun _=>Iff.rfl|exact fun _ _=>rfl|exact renM_ent rfl _|apply And.intro)
  ·have c0':k=s.length:=(by have h:¬ (k:Int)<s.length:=px c0;omega)
   subst c0'
   rw [c7] at hrest
   simp only [tcut] at hrest
   conv=>whnf
   by_cases hl0:l=[]
   ·subst hl0
    rw [if_pos rfl] at hrest
    rw[<-hrest]
    refine brF rfl ?_
    conv=>whnf
    by_cases hls:ls=[]
    ·rw[if_pos hls]
     subst hls
     conv=>whnf
     repeat'(first|exact ⟨⟩|exact rfl|exact fun _=>Iff.rfl|exact fun _ _=>rfl|exact renM_ent rfl _|apply And.intro)
    ·rw[if_neg hls]
     have:=d7.2 hls
     conv=>whnf
     refine⟨⟨(by cases ls with
      |nil=>exact absurd rfl hls
      |cons a b=>rfl),rfl,.inr rfl,fun i hi=>rfl⟩,(show decide ((ls.length:Int) > 0)=true from pn (by omega)),True.intro⟩
   ·try exact absurd (hql rfl) hl0
    all_goals
     have hl1:1<=l.length:=d7.2 hl0
     rw [if_neg hl0] at hrest
     rw[<-hrest]
     refine brT (pn (by omega)) ?_
     conv=>whnf
     refine⟨fun i _=>⟨_,rfl⟩,?_⟩
     rw[qb8]
     conv=>whnf
     refine⟨by omega,?_⟩
     conv=>whnf
     refine⟨⟨rfl,(show ls.length+1=(ls++[l]).length by simp),.inr rfl,vi ls l _ rfl⟩,(show decide (((ls.length+1:Nat):Int) > 0)=true from pn (by omega)),True.intro⟩
theorem qt6:∀ (m:Nat) (r l:List UInt8) (ls k:List (List UInt8)),tcut m r l ls=some k->k≠[]/\k.length<=ls.length+r.length+1
 |0,_,_,_,_,h=>by cases h
 |m+1,[],l,ls,k,h=>by
  simp only [tcut] at h
  split at h
  ·split at h
   ·cases h
   ·rename_i h2
    cases h
    exact⟨h2,by omega⟩
  ·cases h
   exact⟨by simp,by simp⟩
 |m+1,c :: r,l,ls,k,h=>by
  simp only [tcut] at h
  split at h
  ·split at h
   ·cases h
   ·obtain⟨h1,h2⟩:=qt6 m _ _ _ _ h
    exact ⟨h1,by simp at h2 ⊢;omega⟩
  ·split at h
   ·split at h
    ·cases h
    ·obtain⟨h1,h2⟩:=qt6 m _ _ _ _ h
     exact ⟨h1,by simp at h2 ⊢;omega⟩
   ·split at h
    ·obtain⟨h1,h2⟩:=qt6 m _ _ _ _ h
     exact ⟨h1,by simp at h2 ⊢;omega⟩
    ·cases h
theorem labs_small{l:List (List UInt8)}(h:∀ x ∈ l,okL x):(labs l).length<=64 * l.length:=by
 induction l with
 |nil=>exact pr _
 |cons a l ih =>
  have h1:=h a (lq ..)
  have h2:=ih (fun x hx=>h x (lv _ hx))
  show(lab a++labs l).length<=64 * (l.length+1)
  rw[pv,kq]
  have:=h1.2
  omega
theorem ljoinb_ok(z:Bool)(l:List (List UInt8))(hl:l.length<=1000000)(hb:¬ (l.all okB=true/\(mk l).length<=255)):FnOk Tryz.prog 132 [.d (.str [0]),.d (.sl z l.length 1 (strs l))] (.tup [.d (.str []),.d (.int .i64 (if l.all okB=true then 7 else 2))]):=by
 refine qz (TT:=TT) (IN:=qi []) qk qm mixed 1000 Tryz.func132 rfl (qe Tryz.func132 (by kernel_rfl) rfl) rfl 53 (by kernel_rfl) ?_
 conv=>whnf
 refine oD (y7 [0]) rfl rfl ?_
 conv=>whnf
 refine⟨fun h=>absurd h (by decide),fun _=>?_⟩
 conv=>whnf
 have hml:(labs l).length+1=(mk l).length:=by rw[<-qp2,pv];rfl
 refine .inv Nat (fun i=>i<=l.length/\∀ x ∈ l.take i,okL x) (fun i=>[(6,.d (.int .i64 ((labs (l.take i)).length+1:Nat))),(19,.d (.int .i64 i))]) (fun _=>[]) (fun i=>l.length - i) ⟨0,[],⟨p6 _,fun x hx=>by simp at hx⟩,?_⟩ ?_
 ·conv=>whnf
  repeat'(first|exact ⟨⟩|exact rfl|exact fun _=>Iff.rfl|exact fun _ _=>rfl|exact renM_ent rfl _|apply And.intro)
 intro i hi
 obtain⟨hi,hok⟩:=hi
 conv=>whnf
 have htl:=labs_small hok
 rw [lu] at htl
 refine⟨fun c1=>?_,fun c1=>?_⟩
 ·have c1:(i:Int)<l.length:=pw c1
  have hil:i<l.length:=by omega
  obtain⟨q,hq⟩:∃ q,l[i]?.getD []=q:=⟨_,rfl⟩
  have hq2:l[i]? = some q:=by rw[<-hq,pp hil];rfl
  have htk:l.take (i+1)=l.take i++[q]:=by rw[m5,hq2];rfl
  have hw1:=w64s i (by omega)
  have hno:¬ okL q->(if l.all okB=true then (7:Int) else 2)=2:=fun hn=>if_neg (fun h=>hn (all_ok.1 h q (oy hq2)))
  conv=>whnf
  refine⟨by omega,?_⟩
  conv=>whnf
  rw[pz,hq]
  by_cases hq0:q.length=0
  ·rw[hno (fun h=>by have:=h.1;omega)]
   refine brT (by rw[m8];omega) ?_
   conv=>whnf
   repeat(first|(refine brF rfl ?_;conv=>whnf)|(refine brT rfl ?_;conv=>whnf))
   repeat'(first|exact ⟨⟩|exact rfl|exact fun _=>Iff.rfl|exact fun _ _=>rfl|exact renM_ent rfl _|apply And.intro)
  refine brF (by rw[o9];omega) ?_
  conv=>whnf
  by_cases hq1:q.length<=63
  case neg =>
   rw[hno (fun h=>by have:=h.2;omega)]
   refine brT (pn (by omega)) ?_
   conv=>whnf
   repeat(first|(refine brF rfl ?_;conv=>whnf)|(refine brT rfl ?_;conv=>whnf))
   repeat'(first|exact ⟨⟩|exact rfl|exact fun _=>Iff.rfl|exact fun _ _=>rfl|exact renM_ent rfl _|apply And.intro)
  refine brF (po (by omega)) ?_
  conv=>whnf
  refine⟨i+1,[],⟨hil,fun x hx=>?_⟩,by omega,?_⟩
  ·rw [htk] at hx
   rcases mn.1 hx with hx|hx
   ·exact hok x hx
   ·simp only [gw] at hx
    subst hx
    exact⟨by omega,hq1⟩
  conv=>whnf
  have hcat:labs (l.take (i+1))=labs (l.take i)++lab q:=by rw[htk,ja3]
  rw[hw1,hcat,pv,kq,qd (1+(q.length:Int)) (by omega),qd _ (by omega),show(((labs (l.take i)).length+1:Nat):Int)+(1+(q.length:Int))=(((labs (l.take i)).length+(1+q.length)+1:Nat):Int) by omega]
  repeat'(first|exact ⟨⟩|exact rfl|exact fun _=>Iff.rfl|exact fun _ _=>rfl|exact renM_ent rfl _|apply And.intro)
 ·have c1:¬ (i:Int)<l.length:=px c1
  rw [dx (by omega)] at hok
  rw[dx (by omega)]
  have hall:=all_ok.2 hok
  rw[if_pos hall]
  conv=>whnf
  refine brT (pn (by
   have:¬ (mk l).length<=255:=fun h=>hb ⟨hall,h⟩
   omega)) ?_
  conv=>whnf
  repeat'(first|exact ⟨⟩|exact rfl|exact fun _=>Iff.rfl|exact fun _ _=>rfl|exact renM_ent rfl _|apply And.intro)
theorem lparse_ok(s:List UInt8):FnOk Tryz.prog 98 [.d (.str s)] (.tup [.d (.str (jx s).1),.d (.int .i64 (jx s).2)]):=by
 refine qz (TT:=TT) (IN:=qi []) qk qm mixed 1000 Tryz.func98 rfl (qe Tryz.func98 (by kernel_rfl) rfl) rfl 27 (by kernel_rfl) ?_
 conv=>whnf
 refine⟨fun h1=>?_,fun h1=>?_⟩
 ·have h1:s.length > 2048:=by have:=pw h1;omega
  rw[show jx s=([],7) by unfold jx;rw[if_pos h1]]
  conv=>whnf
  repeat'(first|exact ⟨⟩|exact rfl|exact fun _=>Iff.rfl|exact fun _ _=>rfl|exact renM_ent rfl _|apply And.intro)
 have h1:¬ s.length > 2048:=by have:=px h1;omega
 conv=>whnf
 refine⟨fun h2=>?_,fun h2=>?_⟩
 ·have h2:s=[46]:=by simpa using h2
  rw[show jx s=([0],0) by unfold jx;rw[if_neg h1,if_pos h2]]
  conv=>whnf
  repeat'(first|exact ⟨⟩|exact rfl|exact fun _=>Iff.rfl|exact fun _ _=>rfl|exact renM_ent rfl _|apply And.intro)
 have h2:s≠[46]:=by simpa using h2
 have he:jx s=match tcut (s.length+1) s [] [] with
  |none=>([],6)
  |some ls=>if ls.all okB=true/\(mk ls).length<=255 then (mk ls,0) else ([],7):=by unfold jx;rw[if_neg h1,if_neg h2];try rfl
 rw[he]
 conv=>whnf
 refine .one (.data _ (lcut_ok s (by omega)) rfl (by cases tcut (s.length+1) s [] [] <;> rfl) ?_)
 have ho:=qt6 (s.length+1) s [] []
 cases htc:tcut (s.length+1) s [] [] with
 |none =>
  conv=>whnf
  repeat(first|(refine brF rfl ?_;conv=>whnf)|(refine brT rfl ?_;conv=>whnf))
  repeat'(first|exact ⟨⟩|exact rfl|exact fun _=>Iff.rfl|exact fun _ _=>rfl|exact renM_ent rfl _|apply And.intro)
 |some ls =>
  obtain⟨o1,o2⟩:=ho ls htc
  simp only [gt] at o2
  conv=>whnf
  repeat(first|(refine brF rfl ?_;conv=>whnf)|(refine brT rfl ?_;conv=>whnf))
  by_cases hb:ls.all okB=true/\(mk ls).length<=255
  ·refine oD (ljoin_ok false ls o1 (all_ok.1 hb.1) hb.2) rfl rfl ?_
   simp only[if_pos hb]
   conv=>whnf
   repeat(first|(refine brF rfl ?_;conv=>whnf)|(refine brT rfl ?_;conv=>whnf))
   repeat'(first|exact ⟨⟩|exact rfl|exact fun _=>Iff.rfl|exact fun _ _=>rfl|exact renM_ent rfl _|apply And.intro)
  ·refine oD (ljoinb_ok false ls (by omega) hb) rfl rfl ?_
   simp only[if_neg hb]
   by_cases ha:ls.all okB=true
   ·rw[if_pos ha]
    conv=>whnf
    repeat(first|(refine brF rfl ?_;conv=>whnf)|(refine brT rfl ?_;conv=>whnf))
    repeat'(first|exact ⟨⟩|exact rfl|exact fun _=>Iff.rfl|exact fun _ _=>rfl|exact renM_ent rfl _|apply And.intro)
   ·rw[if_neg ha]
    conv=>whnf
    repeat(first|(refine brF rfl ?_;conv=>whnf)|(refine brT rfl ?_;conv=>whnf))
    repeat'(first|exact ⟨⟩|exact rfl|exact fun _=>Iff.rfl|exact fun _ _=>rfl|exact renM_ent rfl _|apply And.intro)
theorem qc6{B:Nat}{w:List UInt8}{u:Nat}(h:yb B w=some u):u<=2 ^ B - 1:=by
 unfold yb at h
 split at h
 ·rename_i v hv
  cases h
  exact Lib.parseUintB_le hv
 ·cases h
theorem unhexV_eq(o:Option (List UInt8)):unhexV o = .tup [.d (.str (o.getD [])),.d (.bool o.isSome)]:=by cases o <;> rfl
theorem cutN_le:∀ (k:Nat) (s:List UInt8),∀ w ∈ cutN k s,w.length<=s.length
 |0,s,w,h=>by simp [cutN] at h;rw [h];exact pr _
 |k+1,s,w,h=>by
  simp only [cutN] at h
  split at h
  ·simp at h;rw [h];exact pr _
  ·rcases pu.1 h with rfl|h
   ·rw[lu];omega
   ·have:=cutN_le k _ w h
    rw [o6] at this
    omega
def parsePV(o:Option RR):SV:=match o with
 |some r=>.tup [r.V,.d (.int .i64 0)]
 |none=>.tup [(RR.mk [] 0 0 0 []).V,.d (.int .i64 6)]
theorem rparse_ok(s:List UInt8)(hs:s.length<=1000000):FnOk Tryz.prog 100 [.d (.str s)] (parsePV (yv s)):=by
 refine qz (TT:=TT) (IN:=qi []) qk qm mixed 1000 Tryz.func100 rfl (qe Tryz.func100 (by kernel_rfl) rfl) rfl 100 (by kernel_rfl) ?_
 conv=>whnf
 refine oD (splitn_ok s hs) rfl rfl ?_
 have hle:=cutN_le 5 s
 have hpr:yv s=match qb3 (cutN 5 s) with
  |some r=>if r.check=true/\r.line=s then some r else none
  |none=>none:=rfl
 generalize cutN 5 s=ws at hle hpr ⊢
 conv=>whnf
 by_cases h5:ws.length=5
 case neg =>
  have:qb3 ws=none:=by
   unfold qb3
   split
   ·simp at h5
   ·rfl
  rw [this] at hpr
  simp only at hpr
  rw[hpr]
  refine brT (by rw[bne_iff_ne];omega) ?_
  conv=>whnf
  repeat'(first|exact ⟨⟩|exact rfl|exact fun _=>Iff.rfl|exact fun _ _=>rfl|exact renM_ent rfl _|apply And.intro)
 refine brF (by rw[bne_eq_false_iff_eq];omega) ?_
 obtain⟨w0,w1,w2,w3,w4,rfl⟩:∃ a b c d e,ws=[a,b,c,d,e]:=by
  match ws,h5 with
  |[a,b,c,d,e],_=>exact⟨a,b,c,d,e,rfl⟩
 have l0:=hle w0 (by simp)
 have l1:=hle w1 (by simp)
 have l2:=hle w2 (by simp)
 have l3:=hle w3 (by simp)
 have l4:=hle w4 (by simp)
 clear hle
 simp only [qb3] at hpr
 conv=>whnf
 refine⟨by simp,?_⟩
 conv=>whnf
 refine oD (lparse_ok w0) rfl rfl ?_
 conv=>whnf
 refine⟨by simp,?_⟩
 conv=>whnf
 refine oD (jm3 w1 (by omega)) rfl rfl ?_
 conv=>whnf
 refine⟨by simp,?_⟩
 conv=>whnf
 refine oD (jm4 w2 (by omega)) rfl rfl ?_
 conv=>whnf
 refine⟨by simp,?_⟩
 conv=>whnf
 refine oD (jm4 w3 (by omega)) rfl rfl ?_
 conv=>whnf
 refine⟨by simp,?_⟩
 conv=>whnf
 have hu:=unhex_ok w4
 rw [unhexV_eq] at hu
 refine oD hu rfl rfl ?_
 conv=>whnf
 by_cases hp:(jx w0).2=0
 case neg =>
  have:yv s=none:=by
   rw[hpr]
   split
   ·rename_i r hr
    split at hr
    ·rw [if_neg hp] at hr;cases hr
    ·cases hr
   ·rfl
  rw[this]
  refine brT (by rw[bne_iff_ne];exact hp) ?_
  conv=>whnf
  repeat(first|(refine brF rfl ?_;conv=>whnf)|(refine brT rfl ?_;conv=>whnf))
  repeat'(first|exact ⟨⟩|exact rfl|exact fun _=>Iff.rfl|exact fun _ _=>rfl|exact renM_ent rfl _|apply And.intro)
 refine brF (by rw[bne_eq_false_iff_eq];exact hp) ?_
 conv=>whnf
 cases hw1:yb 32 w1 with
 |none =>
  have:yv s=none:=by
   rw[hpr,hw1]
  rw[this]
  refine brT rfl ?_
  conv=>whnf
  repeat(first|(refine brF rfl ?_;conv=>whnf)|(refine brT rfl ?_;conv=>whnf))
  repeat'(first|exact ⟨⟩|exact rfl|exact fun _=>Iff.rfl|exact fun _ _=>rfl|exact renM_ent rfl _|apply And.intro)
 |some t =>
 have hv1:=qt4 hw1
 have hl1:=qc6 hw1
 rw[hv1]
 refine brF rfl ?_
 conv=>whnf
 cases hw2:yb 16 w2 with
 |none =>
  have:yv s=none:=by
   rw[hpr,hw2]
   cases yb 32 w1 <;> rfl
  rw[this]
  refine brT rfl ?_
  conv=>whnf
  repeat(first|(refine brF rfl ?_;conv=>whnf)|(refine brT rfl ?_;conv=>whnf))
  repeat'(first|exact ⟨⟩|exact rfl|exact fun _=>Iff.rfl|exact fun _ _=>rfl|exact renM_ent rfl _|apply And.intro)
 |some c =>
 have hv2:=qt4 hw2
 have hl2:=qc6 hw2
 rw[hv2]
 refine brF rfl ?_
 conv=>whnf
 cases hw3:yb 16 w3 with
 |none =>
  have:yv s=none:=by
   rw[hpr,hw3]
   cases yb 32 w1 <;> cases yb 16 w2 <;> rfl
  rw[this]
  refine brT rfl ?_
  conv=>whnf
  repeat(first|(refine brF rfl ?_;conv=>whnf)|(refine brT rfl ?_;conv=>whnf))
  repeat'(first|exact ⟨⟩|exact rfl|exact fun _=>Iff.rfl|exact fun _ _=>rfl|exact renM_ent rfl _|apply And.intro)
 |some y =>
 have hv3:=qt4 hw3
 have hl3:=qc6 hw3
 rw[hv3]
 refine brF rfl ?_
 conv=>whnf
 cases hu4:qg6 w4 with
 |none =>
  have:yv s=none:=by
   rw[hpr,hw1,hw2,hw3,hu4]
  rw[this]
  refine brT rfl ?_
  conv=>whnf
  repeat(first|(refine brF rfl ?_;conv=>whnf)|(refine brT rfl ?_;conv=>whnf))
  repeat'(first|exact ⟨⟩|exact rfl|exact fun _=>Iff.rfl|exact fun _ _=>rfl|exact renM_ent rfl _|apply And.intro)
 |some d =>
 refine brF rfl ?_
 conv=>whnf
 have hl1:t<=4294967295:=hl1
 have hl2:c<=65535:=hl2
 have hl3:y<=65535:=hl3
 rw[show IntKind.u16.wrap (y:Int)=(y:Int) by rw[IntKind.wrap_u16];omega,show IntKind.u16.wrap (c:Int)=(c:Int) by rw[IntKind.wrap_u16];omega,show IntKind.u32.wrap (t:Int)=(t:Int) by rw[IntKind.wrap_u32'];omega]
 refine oD (line_ok ⟨(jx w0).1,y,c,t,d⟩ ⟨by constructor <;> simp <;> omega,by constructor <;> simp <;> omega,by constructor <;> simp <;> omega⟩) rfl rfl ?_
 rw [hw1,hw2,hw3,hu4] at hpr
 simp only [if_pos hp] at hpr
 have hV:(RR.mk (jx w0).1 y c t d).V = .agg [.d (.str (jx w0).1),.d (.int .u16 y),.d (.int .u16 c),.d (.int .u32 t),.d (.str d)]:=rfl
 cases hck:(RR.mk (jx w0).1 y c t d).check with
 |false =>
  have:yv s=none:=by rw[hpr,if_neg (by rw[hck];simp)]
  rw[this,show(RR.mk (jx w0).1 y c t d).lineV=([],2) by unfold RR.lineV;rw[hck];rfl]
  conv=>whnf
  repeat(first|(refine brF rfl ?_;conv=>whnf)|(refine brT rfl ?_;conv=>whnf))
  repeat'(first|exact ⟨⟩|exact rfl|exact fun _=>Iff.rfl|exact fun _ _=>rfl|exact renM_ent rfl _|apply And.intro)
 |true =>
  rw[show(RR.mk (jx w0).1 y c t d).lineV=((RR.mk (jx w0).1 y c t d).line,0) by unfold RR.lineV;rw[hck];rfl]
  by_cases hl:(RR.mk (jx w0).1 y c t d).line=s
  ·have:yv s=some ⟨(jx w0).1,y,c,t,d⟩:=by rw[hpr,if_pos ⟨hck,hl⟩]
   rw[this]
   conv=>whnf
   repeat(first|(refine brF rfl ?_;conv=>whnf)|(refine brT rfl ?_;conv=>whnf))
   refine brF (by simpa using hl) ?_
   conv=>whnf
   repeat'(first|exact ⟨⟩|exact rfl|exact fun _=>Iff.rfl|exact fun _ _=>rfl|exact renM_ent rfl _|apply And.intro)
  ·have:yv s=none:=by rw[hpr,if_neg (fun h=>hl h.2)]
   rw[this]
   conv=>whnf
   repeat(first|(refine brF rfl ?_;conv=>whnf)|(refine brT rfl ?_;conv=>whnf))
   refine brT (by simpa using hl) ?_
   conv=>whnf
   repeat'(first|exact ⟨⟩|exact rfl|exact fun _=>Iff.rfl|exact fun _ _=>rfl|exact renM_ent rfl _|apply And.intro)
theorem candR_in{ws:List (List UInt8)}{r:RR}(h:qb3 ws=some r):r.In:=by
 unfold qb3 at h
 split at h
 ·split at h
  ·rename_i t c y d e1 e2 e3 e4
   split at h
   ·cases h
    have b1:=qc6 e1
    have b2:=qc6 e2
    have b3:=qc6 e3
    exact⟨⟨Int.natCast_nonneg _,Int.ofNat_le.2 b3⟩,⟨Int.natCast_nonneg _,Int.ofNat_le.2 b2⟩,⟨Int.natCast_nonneg _,Int.ofNat_le.2 b1⟩⟩
   ·cases h
  ·cases h
 ·cases h
theorem parseR_in{s:List UInt8}{r:RR}(h:yv s=some r):r.In:=by
 unfold yv at h
 split at h
 ·rename_i q hq
  split at h
  ·cases h;exact candR_in hq
  ·cases h
 ·cases h
def rrF(l:List RR)(j:Nat):List DV:=(l.getD j default).enc
def rdB(F:Nat->List SV)(n m:Nat)(G:Nat->List DV):List KB:=[.cells 79 [.all 1,.all 2],.rows 58 2 (n+1) F,.row 32 2 m .iff G]
def recK(F:Nat->List SV)(n m:Nat)(G:Nat->List DV)(l:List RR)(s:List UInt8):SV × List KB :=
 if 0<m\/l.length=256 then (.d (.bool false),rdB F n m G++[.row 62 5 l.length .iff (rrF l)]) else match yv s with
  |none=>(.d (.bool false),rdB F n m G++[.row 62 5 l.length .iff (rrF l)])
  |some r=>(.d (.bool true),rdB (oneS n 1 [.all 4] F) n m G++[.gone,.row 62 5 (l++[r]).length .iff (rrF (l++[r]))])
theorem subV_data(x:DV):SubV (.d x) (.d x):=by cases x <;> exact rfl
theorem subL_data(ρ:List Nat):∀ ds:List DV,SubL (renL ρ (ds.map .d)) (ds.map .d)
 |[]=>True.intro
 |x :: l=>⟨subV_data x,subL_data ρ l⟩
def DatF(F:Nat->List SV)(n:Nat):Prop:=∀ i,i<n->∃ ds:List DV,F i=ds.map .d
theorem qo4{F F':Nat->List SV}{n:Nat}{ρ:List Nat}(hd:DatF F n)(he:∀ i,i<n->F' i=F i)(hn:SubL (renL ρ (F n)) (F' n)):∀ i,i<n+1->SubL ((fun i=>renL ρ (F i)) i) (F' i):=fun i hi=>by
 rcases ot i n with h|h
 ·obtain⟨ds,e⟩:=hd i h
  rw[he i h]
  show SubL (renL ρ (F i)) (F i)
  rw[e]
  exact subL_data ρ ds
 ·obtain rfl:i=n:=by omega
  exact hn
theorem oneS_at(F:Nat->List SV)(n:Nat)(x a b:SV)(h:F n=[a,b]):oneS n 1 [x] F n=[a,x]:=by
 unfold oneS
 rw[if_pos rfl,h]
 rfl
theorem qv7(F:Nat->List SV){n i:Nat}(vs:List SV)(h:i<n):oneS n 1 vs F i=F i:=by
 unfold oneS
 rw[if_neg (by omega)]
theorem rrF_cat(l:List RR)(r:RR)(i:Nat)(hi:i<l.length+1):catF l.length (rrF l) (qy r.enc 5) i=rrF (l++[r]) i:=by
 unfold catF rrF
 split
 ·rename_i h
  rw[List.getD,List.getD,oo h]
 ·rename_i h
  obtain rfl:i=l.length:=by omega
  rw[fq,List.getD,o4 (pr _),fq]
  rfl
theorem frec_ok(F:Nat->List SV)(n m:Nat)(G:Nat->List DV)(l:List RR)(apex s:List UInt8)(hF:F n=[.d (.str apex),.all 3])(hD:DatF F n)(hn:n<=1000)(hl:l.length<=1000)(hs:s.length<=1000000) :
 COk Tryz.prog 62 [.ptr 0 0,.d (.str s)] (rdB F n m G++[.row 62 5 l.length .iff (rrF l)]) (fun r k=>r=(recK F n m G l s).1/\k=(recK F n m G l s).2):=by
 refine yg (TT:=TT) (IN:=qi []) qk qm mixed 1000 Tryz.func62 rfl (qe Tryz.func62 (by kernel_rfl) rfl) 63 (by kernel_rfl) ?_
 conv=>whnf
 refine brF (po (by omega)) ?_
 conv=>whnf
 refine⟨fun h1=>?_,fun h1=>?_⟩
 ·have h1:0<m:=by have h:(m:Int) > 0:=pw h1;omega
  rw[show recK F n m G l s=(.d (.bool false),rdB F n m G++[.row 62 5 l.length .iff (rrF l)]) from if_pos (.inl h1)]
  conv=>whnf
  repeat(first|(refine brF rfl ?_;conv=>whnf)|(refine brT rfl ?_;conv=>whnf))
  refine⟨[0,1,2,3],_,_,rfl,rfl,?_,?_,rfl,rfl⟩
  ·exact rfl
  ·conv=>whnf
   repeat'(first|exact ⟨⟩|exact rfl|exact(fun _ _ _ _ h=>⟨jb _,h⟩)|exact fun _=>Iff.rfl|exact fun _ _=>rfl|apply And.intro)
   all_goals exact qo4 hD (fun _ _=>rfl) (by rw[hF];exact⟨rfl,rfl,True.intro⟩)
 have h1:¬ 0<m:=by have h:¬ (m:Int) > 0:=px h1;omega
 conv=>whnf
 have hw:IntKind.i64.wrap (((n+1:Nat):Int) - 1)=(n:Int):=by rw[qd _ (by omega)];omega
 rw[hw]
 refine⟨by omega,?_⟩
 conv=>whnf
 rw[pz,hF]
 conv=>whnf
 refine⟨fun h2=>?_,fun h2=>?_⟩
 ·have h2:l.length=256:=by simp at h2;omega
  rw[show recK F n m G l s=(.d (.bool false),rdB F n m G++[.row 62 5 l.length .iff (rrF l)]) from if_pos (.inr h2)]
  conv=>whnf
  repeat(first|(refine brF rfl ?_;conv=>whnf)|(refine brT rfl ?_;conv=>whnf))
  refine⟨[0,1,2,3],_,_,rfl,rfl,?_,?_,rfl,rfl⟩
  ·exact rfl
  ·conv=>whnf
   repeat'(first|exact ⟨⟩|exact rfl|exact(fun _ _ _ _ h=>⟨jb _,h⟩)|exact fun _=>Iff.rfl|exact fun _ _=>rfl|apply And.intro)
   all_goals exact qo4 hD (fun _ _=>rfl) (by rw[hF];exact⟨rfl,rfl,True.intro⟩)
 have h2:¬ l.length=256:=by simp at h2;omega
 have hrk:recK F n m G l s=match yv s with
  |none=>(.d (.bool false),rdB F n m G++[.row 62 5 l.length .iff (rrF l)])
  |some r=>(.d (.bool true),rdB (oneS n 1 [.all 4] F) n m G++[.gone,.row 62 5 (l++[r]).length .iff (rrF (l++[r]))]):=if_neg (by rintro (h|h);exact h1 h;exact h2 h)
 rw[hrk]
 conv=>whnf
 have hpr:=rparse_ok s hs
 cases hp:yv s with
 |none =>
  rw [hp] at hpr
  refine oD hpr rfl rfl ?_
  conv=>whnf
  repeat(first|(refine brF rfl ?_;conv=>whnf)|(refine brT rfl ?_;conv=>whnf))
  refine⟨[0,1,2,3],_,_,rfl,rfl,?_,?_,rfl,rfl⟩
  ·exact rfl
  ·conv=>whnf
   repeat'(first|exact ⟨⟩|exact rfl|exact(fun _ _ _ _ h=>⟨jb _,h⟩)|exact fun _=>Iff.rfl|exact fun _ _=>rfl|apply And.intro)
   all_goals exact qo4 hD (fun _ _=>rfl) (by rw[hF];exact⟨rfl,rfl,True.intro⟩)
 |some r =>
  rw [hp] at hpr
  refine oD hpr rfl rfl ?_
  conv=>whnf
  repeat(first|(refine brF rfl ?_;conv=>whnf)|(refine brT rfl ?_;conv=>whnf))
  rw[hw]
  refine⟨by omega,?_⟩
  conv=>whnf
  rw[pz,hF]
  conv=>whnf
  refine⟨by omega,?_⟩
  conv=>whnf
  refine⟨[0,1,2,3,6],_,_,rfl,rfl,?_,?_,rfl,rfl⟩
  ·exact rfl
  ·conv=>whnf
   repeat'(first|exact ⟨⟩|exact rfl|exact(fun _ _ _ _ h=>⟨jb _,h⟩)|exact fun _=>Iff.rfl|exact fun _ _=>rfl|apply And.intro)
   ·exact qo4 (F:=oneS n 1 [.all 6] F) (F':=oneS n 1 [.all 4] F) (fun i hi=>by rw[qv7 _ _ hi];exact hD i hi) (fun i hi=>by rw[qv7 _ _ hi,qv7 _ _ hi]) (by rw[oneS_at F n _ _ _ hF,oneS_at F n _ _ _ hF];exact⟨rfl,rfl,True.intro⟩)
   ·rw[pv];rfl
   ·exact rrF_cat l r
def rdD(z:Z)(N:Nat)(Y:Nat->List DV)(m:Nat)(G:Nat->List DV):List KB:=[.cells 79 [.all 1,.all 2],.row 58 2 N z Y,.row 32 2 m .iff G,.gone]
def zonK(z:Z)(N:Nat)(Y:Nat->List DV)(m:Nat)(G:Nat->List DV)(s:List UInt8):SV × List KB :=
 if 0<m\/N=64\/(jx s).2≠0 then (.d (.bool false),rdD z N Y m G) else
  (.d (.bool true),[.cells 79 [.all 4,.all 2],.gone,.row 32 2 m .iff G,.gone,.row 58 2 (N+1) z (catF N Y (qy [.str (jx s).1,.sl true 0 0 (fun _=>[])] 2))])
theorem qs1(n:Nat)(z:Z):SubZ n z z:=by cases z <;> first|exact ⟨⟩|exact rfl|simp[SubZ]
theorem fzon_ok(z:Z)(N:Nat)(Y:Nat->List DV)(m:Nat)(G:Nat->List DV)(s:List UInt8)(hN:N<=1000) :
 COk Tryz.prog 60 [.ptr 0 0,.d (.str s)] (rdD z N Y m G) (fun r k=>r=(zonK z N Y m G s).1/\k=(zonK z N Y m G s).2):=by
 refine yg (TT:=TT) (IN:=qi []) qk qm mixed 1000 Tryz.func60 rfl (qe Tryz.func60 (by kernel_rfl) rfl) 41 (by kernel_rfl) ?_
 conv=>whnf
 refine⟨fun h1=>?_,fun h1=>?_⟩
 ·have h1:0<m:=by have h:(m:Int) > 0:=pw h1;omega
  rw[show zonK z N Y m G s=(.d (.bool false),rdD z N Y m G) from if_pos (.inl h1)]
  conv=>whnf
  repeat(first|(refine brF rfl ?_;conv=>whnf)|(refine brT rfl ?_;conv=>whnf))
  refine⟨[0,1,2,3],_,_,rfl,rfl,?_,?_,rfl,rfl⟩
  ·exact rfl
  ·conv=>whnf
   repeat'(first|exact ⟨⟩|exact rfl|exact(fun _ _ _ _ h=>⟨jb _,h⟩)|exact fun _=>Iff.rfl|exact fun _ _=>rfl|apply And.intro)
   exact qs1 _ _
 have h1:¬ 0<m:=by have h:¬ (m:Int) > 0:=px h1;omega
 conv=>whnf
 refine⟨fun h2=>?_,fun h2=>?_⟩
 ·have h2:N=64:=by simp at h2;omega
  rw[show zonK z N Y m G s=(.d (.bool false),rdD z N Y m G) from if_pos (.inr (.inl h2))]
  conv=>whnf
  repeat(first|(refine brF rfl ?_;conv=>whnf)|(refine brT rfl ?_;conv=>whnf))
  refine⟨[0,1,2,3],_,_,rfl,rfl,?_,?_,rfl,rfl⟩
  ·exact rfl
  ·conv=>whnf
   repeat'(first|exact ⟨⟩|exact rfl|exact(fun _ _ _ _ h=>⟨jb _,h⟩)|exact fun _=>Iff.rfl|exact fun _ _=>rfl|apply And.intro)
   exact qs1 _ _
 have h2:¬ N=64:=by simp at h2;omega
 conv=>whnf
 refine oD (lparse_ok s) rfl rfl ?_
 conv=>whnf
 by_cases h3:(jx s).2=0
 ·rw[show zonK z N Y m G s=_ from if_neg (by rintro (h|h|h);exact h1 h;exact h2 h;exact h h3),h3]
  conv=>whnf
  repeat(first|(refine brF rfl ?_;conv=>whnf)|(refine brT rfl ?_;conv=>whnf))
  refine⟨by omega,?_⟩
  conv=>whnf
  refine⟨[0,1,2,3,5],_,_,rfl,rfl,?_,?_,rfl,rfl⟩
  ·exact rfl
  ·conv=>whnf
   repeat'(first|exact ⟨⟩|exact rfl|exact(fun _ _ _ _ h=>⟨jb _,h⟩)|exact fun _=>Iff.rfl|exact fun _ _=>rfl|apply And.intro)
   exact qs1 _ _
 ·rw[show zonK z N Y m G s=(.d (.bool false),rdD z N Y m G) from if_pos (.inr (.inr h3))]
  conv=>whnf
  refine brT (by simpa using h3) ?_
  conv=>whnf
  refine⟨[0,1,2,3],_,_,rfl,rfl,?_,?_,rfl,rfl⟩
  ·exact rfl
  ·conv=>whnf
   repeat'(first|exact ⟨⟩|exact rfl|exact(fun _ _ _ _ h=>⟨jb _,h⟩)|exact fun _=>Iff.rfl|exact fun _ _=>rfl|apply And.intro)
   exact qs1 _ _
theorem dig_num{n:Nat}(h1:100<=n)(h:n<10000000000):∃ k,2<=k/\k<=9/\10 ^ k<=n/\n<10 ^ (k+1):=by
 by_cases a3:n<1000
 ·exact⟨2,by decide,by decide,h1,a3⟩
 by_cases a4:n<10000
 ·exact⟨3,by decide,by decide,by omega,a4⟩
 by_cases a5:n<100000
 ·exact⟨4,by decide,by decide,by omega,a5⟩
 by_cases a6:n<1000000
 ·exact⟨5,by decide,by decide,by omega,a6⟩
 by_cases a7:n<10000000
 ·exact⟨6,by decide,by decide,by omega,a7⟩
 by_cases a8:n<100000000
 ·exact⟨7,by decide,by decide,by omega,a8⟩
 by_cases a9:n<1000000000
 ·exact⟨8,by decide,by decide,by omega,a9⟩
 ·exact⟨9,by decide,by decide,by omega,h⟩
theorem apU_ok(s:List UInt8)(n:Nat)(h:n<10000000000)(hs:s.length<=1099511627776):COk Tryz.prog 119 [.all 0,.d (.int .u64 n),.d (.int .i64 10)] [.row 5 1 s.length .no (jw s)] (fun r k=>r = .all 1/\k=[.gone,.row 5 1 (s++Lib.decDigits n).length .no (jw (s++Lib.decDigits n))]):=by
 refine yg (TT:=TT) (IN:=qi []) qk qm mixed 1000 Tryz.func119 rfl (qe Tryz.func119 (by kernel_rfl) rfl) 33 (by kernel_rfl) ?_
 conv=>whnf
 refine brT rfl ?_
 conv=>whnf
 refine⟨fun h1=>?_,fun h1=>?_⟩
 ·have h1':n<100:=by have:=pw h1;omega
  conv=>whnf
  rw[qd (n:Int) (by omega),dig_dec (by omega)]
  refine oD (small_ok n h1') rfl rfl ?_
  conv=>whnf
  have hd:(dig n).length<=3:=by unfold dig;split <;> (try split) <;> simp
  refine⟨by omega,?_⟩
  conv=>whnf
  refine⟨[0,1],_,_,rfl,rfl,?_,?_,rfl,rfl⟩
  ·exact rfl
  ·conv=>whnf
   repeat'(first|exact ⟨⟩|exact rfl|exact fun _=>Iff.rfl|exact fun _ _=>rfl|exact wx _ _|exact(pv ..).symm|exact k7 _ _|apply And.intro)
 have h1':100<=n:=by have:=px h1;omega
 conv=>whnf
 obtain⟨k,k2,k9,hk1,hk2⟩:=dig_num h1' h
 refine oD (jn6 n k hk1 hk2 (by omega)) rfl rfl ?_
 rw[digs_eq hk1 hk2]
 have hb:=baseK_ok n (k+1) (by omega) hk2 (by omega)
 have hks:k=2\/k=3\/k=4\/k=5\/k=6\/k=7\/k=8\/k=9:=by omega
 rcases hks with rfl|rfl|rfl|rfl|rfl|rfl|rfl|rfl
 all_goals
  conv=>whnf
  refine⟨by decide,?_⟩
  conv=>whnf
  refine .rel _ (COk.frameX hb [1] rfl rfl rfl) (fun x ks' hR=>?_)
  obtain⟨_,_,⟨rfl,rfl⟩,rfl,rfl⟩:=hR
  conv=>whnf
  refine⟨by decide,?_⟩
  conv=>whnf
  refine⟨by omega,?_⟩
  conv=>whnf
  refine⟨[0,2],_,_,rfl,rfl,?_,?_,rfl,rfl⟩
  ·exact rfl
  ·conv=>whnf
   repeat'(first|exact ⟨⟩|exact rfl|exact fun _=>Iff.rfl|exact fun _ _=>rfl|exact wx _ _|exact(pv ..).symm|exact k7 _ _|apply And.intro)
   ·rw[pv];rfl
   ·intro i hi
    refine Eq.trans ?_ (k7 s _ i hi)
    unfold catF
    split
    ·rfl
    ·have h3:i - s.length=0\/i - s.length=1\/i - s.length=2\/i - s.length=3\/i - s.length=4\/i - s.length=5\/i - s.length=6\/i - s.length=7\/i - s.length=8\/i - s.length=9:=by
      have hi:i<s.length+_:=hi
      omega
     have hi:i<s.length+_:=hi
     rcases h3 with e|e|e|e|e|e|e|e|e|e <;> first|(exfalso;omega)|(rw[e];rfl)
theorem apI_ok(s:List UInt8)(n:Nat)(h:n<10000000000)(hs:s.length<=1099511627776):COk Tryz.prog 87 [.all 0,.d (.int .i64 n),.d (.int .i64 10)] [.row 5 1 s.length .no (jw s)] (fun r k=>r = .all 1/\k=[.gone,.row 5 1 (s++Lib.decDigits n).length .no (jw (s++Lib.decDigits n))]):=by
 refine yg (TT:=TT) (IN:=qi [(120,Tryz.f120,3)]) qk (ju qm Tryz.func120 (by kernel_rfl) (by kernel_rfl)) mixed 1000 Tryz.func87 rfl (qe Tryz.func87 (by kernel_rfl) rfl) 8 (by kernel_rfl) ?_
 conv=>whnf
 refine brF (po (by omega)) ?_
 conv=>whnf
 rw[show IntKind.u64.wrap (n:Int)=n by rw[IntKind.wrap_u64];omega]
 refine .rel _ (apU_ok s n h hs) (fun x ks' hR=>?_)
 obtain⟨rfl,rfl⟩:=hR
 conv=>whnf
 refine⟨[0,1],_,_,rfl,rfl,?_,?_,rfl,rfl⟩
 ·exact rfl
 ·conv=>whnf
  repeat'(first|exact ⟨⟩|exact rfl|exact fun _=>Iff.rfl|exact fun _ _=>rfl|exact wx _ _|exact(pv ..).symm|exact k7 _ _|apply And.intro)
def go31:Nat->List UInt8->Except Int Nat
 |n,[]=>.ok n
 |n,c :: s=>if 48<=c.toNat/\c.toNat<=57 then (if 2147483647<10 * n+(c.toNat - 48) then .error 1 else go31 (10 * n+(c.toNat - 48)) s) else .error 2
def y6(s:List UInt8):Except Int Nat:=if s=[] then .error 2 else go31 0 s
def ifV(c:Int):SV:=.v (.iface 211 (.int .i64 c))
def res31:Except Int Nat->SV
 | .ok n=>.tup [.d (.int .u64 n),.v .nilIface]
 | .error c=>.tup [.d (.int .u64 (if c=1 then 2147483647 else 0)),ifV c]
theorem go31_le:∀ (s:List UInt8) (n m:Nat),n<=2147483647->go31 n s = .ok m->m<=2147483647
 |[],n,m,h,e=>by cases e;exact h
 |c :: s,n,m,h,e=>by
  unfold go31 at e
  split at e
  ·split at e
   ·cases e
   ·exact go31_le s _ _ (by omega) e
  ·cases e
structure St31 where
 n:Nat
 i:Nat
theorem in31_ok(s:List UInt8)(hs:s.length<=1099511627776):FnOk Tryz.prog 133 [.d (.str s),.d (.int .i64 10),.d (.int .i64 31)] (res31 (y6 s)):=by
 refine qz (TT:=TT) (IN:=qi [(163,Tryz.f163,1)]) qk (ju qm Tryz.func163 (by kernel_rfl) (by kernel_rfl)) mixed 1000 Tryz.func133 rfl (qe Tryz.func133 (by kernel_rfl) rfl) rfl 169 (by kernel_rfl) ?_
 conv=>whnf
 by_cases h0:s=[]
 ·subst h0
  refine brT rfl ?_
  conv=>whnf
  repeat'(first|exact ⟨⟩|exact rfl|exact fun _=>Iff.rfl|exact fun _ _=>rfl|exact renM_ent rfl _|apply And.intro)
  done
 rw[show y6 s=go31 0 s from if_neg h0]
 refine brF (by simpa using h0) ?_
 conv=>whnf
 repeat(first|(refine brF rfl ?_;conv=>whnf)|(refine brT rfl ?_;conv=>whnf))
 refine⟨by decide,?_⟩
 conv=>whnf
 rw[show IntKind.u64.wrap (IntKind.u64.wrap (1 * 2 ^ min (IntKind.u64.wrap 31).toNat IntKind.u64.bits) - 1)=2147483647 by decide]
 refine .inv St31 (fun x=>x.i<=s.length/\x.n<=2147483647/\go31 x.n (s.drop x.i)=go31 0 s) (fun x=>[(12,.d .ff),(13,.d (.int .u64 x.n)),(101,.d (.int .i64 x.i))]) (fun _=>[]) (fun x=>s.length - x.i) ⟨⟨0,0⟩,[0],⟨p6 _,p6 _,rfl⟩,?_⟩ ?_
 ·conv=>whnf
  repeat'(first|exact ⟨⟩|exact rfl|exact fun _=>Iff.rfl|exact fun _ _=>rfl|exact renM_ent rfl _|apply And.intro)
  done
 intro x hx
 obtain⟨hi,hn,hgo⟩:=hx
 conv=>whnf
 generalize x.n=n at hn hgo ⊢
 generalize x.i=i at hi hgo ⊢
 refine⟨fun c0=>?_,fun c0=>?_⟩
 ·have c0':i<s.length:=(by have h:(i:Int)<s.length:=pw c0;omega)
  obtain⟨c,hc⟩:∃ c,s[i]? = some c:=⟨_,pp c0'⟩
  have hb:je s (i:Int)=(c.toNat:Int):=by unfold je;rw[pz,hc];rfl
  have hdr:s.drop i=c :: s.drop (i+1):=by
   rw[l9 c0']
   rw [pp c0'] at hc
   cases hc
   rfl
  rw [hdr] at hgo
  have hlt:=c.toNat_lt
  have hw1:=w64s i (by omega)
  conv=>whnf
  refine⟨by omega,?_⟩
  conv=>whnf
  rw[pz,hb]
  by_cases hd:48<=c.toNat/\c.toNat<=57
  ·refine brF (by simp;omega) ?_
   conv=>whnf
   refine brT (pn (by omega)) ?_
   conv=>whnf
   refine brT (pn (by omega)) ?_
   conv=>whnf
   rw[show IntKind.u8.wrap ((c.toNat:Int) - 48)=((c.toNat - 48:Nat):Int) by rw[du];omega]
   refine brF (po (by rw[du];omega)) ?_
   conv=>whnf
   refine brF (po (by omega)) ?_
   conv=>whnf
   rw[show IntKind.u64.wrap ((n:Int) * IntKind.u64.wrap 10)=((10 * n:Nat):Int) by rw[show IntKind.u64.wrap 10=10 from rfl,IntKind.wrap_u64];omega]
   rw[show IntKind.u64.wrap (((10 * n:Nat):Int)+IntKind.u64.wrap ((c.toNat - 48:Nat):Int))=((10 * n+(c.toNat - 48):Nat):Int) by rw[IntKind.wrap_u64,IntKind.wrap_u64];omega]
   refine brF (po (by omega)) ?_
   conv=>whnf
   by_cases hm:2147483647<10 * n+(c.toNat - 48)
   ·have he:go31 0 s = .error 1:=by rw[<-hgo];unfold go31;rw[if_pos hd,if_pos hm]
    rw[he]
    refine brT (pn (by omega)) ?_
    conv=>whnf
    repeat'(first|exact ⟨⟩|exact rfl|exact fun _=>Iff.rfl|exact fun _ _=>rfl|exact renM_ent rfl _|apply And.intro)
    done
   ·refine brF (po (by omega)) ?_
    conv=>whnf
    refine⟨⟨10 * n+(c.toNat - 48),i+1⟩,[0],⟨c0',by show 10 * n+(c.toNat - 48)<=_;omega,?_⟩,by show s.length - (i+1)<s.length - _;omega,?_⟩
    ·rw[<-hgo]
     conv=>rhs;unfold go31
     rw[if_pos hd,if_neg hm]
    conv=>whnf
    rw[hw1]
    repeat'(first|exact ⟨⟩|exact rfl|exact fun _=>Iff.rfl|exact fun _ _=>rfl|exact renM_ent rfl _|apply And.intro)
    done
  ·have he:go31 0 s = .error 2:=by rw[<-hgo];unfold go31;rw[if_neg hd]
   rw[he]
   by_cases h95:c.toNat=95
   ·rw[h95]
    conv=>whnf
    repeat(first
     |(refine .once ?_;conv=>whnf)
     |(refine brT rfl ?_;conv=>whnf)
     |(refine brF rfl ?_;conv=>whnf)
     |(refine⟨_,rfl,?_⟩;conv=>whnf)
     |(refine⟨by decide,?_⟩;conv=>whnf))
    repeat'(first|exact ⟨⟩|exact rfl|exact fun _=>Iff.rfl|exact fun _ _=>rfl|exact renM_ent rfl _|apply And.intro)
    done
   refine brF (by simp;omega) ?_
   conv=>whnf
   by_cases a1:48<=c.toNat
   ·refine brT (pn (by omega)) ?_
    conv=>whnf
    refine brF (po (by omega)) ?_
    conv=>whnf
    by_cases b1:97<=bits BinOp.or IntKind.u8 (c.toNat:Int) 32
    ·refine brT (pn b1) ?_
     conv=>whnf
     by_cases b2:bits BinOp.or IntKind.u8 (c.toNat:Int) 32<=122
     ·refine brT (pn b2) ?_
      conv=>whnf
      refine brT (pn (by rw[du,du,show IntKind.u8.wrap 10=10 from rfl];omega)) ?_
      conv=>whnf
      repeat'(first|exact ⟨⟩|exact rfl|exact fun _=>Iff.rfl|exact fun _ _=>rfl|exact renM_ent rfl _|apply And.intro)
      done
     ·refine brF (po b2) ?_
      conv=>whnf
      repeat'(first|exact ⟨⟩|exact rfl|exact fun _=>Iff.rfl|exact fun _ _=>rfl|exact renM_ent rfl _|apply And.intro)
      done
    ·refine brF (po b1) ?_
     conv=>whnf
     repeat'(first|exact ⟨⟩|exact rfl|exact fun _=>Iff.rfl|exact fun _ _=>rfl|exact renM_ent rfl _|apply And.intro)
     done
   ·refine brF (po (by omega)) ?_
    conv=>whnf
    by_cases b1:97<=bits BinOp.or IntKind.u8 (c.toNat:Int) 32
    ·refine brT (pn b1) ?_
     conv=>whnf
     by_cases b2:bits BinOp.or IntKind.u8 (c.toNat:Int) 32<=122
     ·refine brT (pn b2) ?_
      conv=>whnf
      refine brT (pn (by rw[du,du,show IntKind.u8.wrap 10=10 from rfl];omega)) ?_
      conv=>whnf
      repeat'(first|exact ⟨⟩|exact rfl|exact fun _=>Iff.rfl|exact fun _ _=>rfl|exact renM_ent rfl _|apply And.intro)
      done
     ·refine brF (po b2) ?_
      conv=>whnf
      repeat'(first|exact ⟨⟩|exact rfl|exact fun _=>Iff.rfl|exact fun _ _=>rfl|exact renM_ent rfl _|apply And.intro)
      done
    ·refine brF (po b1) ?_
     conv=>whnf
     repeat'(first|exact ⟨⟩|exact rfl|exact fun _=>Iff.rfl|exact fun _ _=>rfl|exact renM_ent rfl _|apply And.intro)
     done
 ·have c0':i=s.length:=(by have h:¬ (i:Int)<s.length:=px c0;omega)
  subst c0'
  rw [c7] at hgo
  rw[<-hgo]
  conv=>whnf
  repeat(first|(refine brF rfl ?_;conv=>whnf)|(refine brT rfl ?_;conv=>whnf))
  repeat'(first|exact ⟨⟩|exact rfl|exact fun _=>Iff.rfl|exact fun _ _=>rfl|exact renM_ent rfl _|apply And.intro)
  done
theorem FnOk.read{P:Program}{f:FuncId}{al:List SV}{r r':SV}(h:FnOk P f al r)(hr:∀ (w:World) (M:Nat->Prop) (u:Value),Den w M noE r u->Den w M noE r' u):FnOk P f al r' :=
 ⟨h.1,fun M w vs hV hM hl hd=>(h.2 M w vs hV hM hl hd).mono fun _ _ ⟨v,h1,h2,h3⟩=>⟨v,h1,h2,hr _ _ _ h3⟩⟩
theorem tup_read{w:World}{M:Nat->Prop}{a b b':SV}{u:Value}(h:Den w M noE (.tup [a,b]) u)(hb:∀ v,Den w M noE b v->Den w M noE b' v):Den w M noE (.tup [a,b']) u:=by
 cases h with
 |tup _ vs h1 h2 =>
  match vs,h1 with
  |[x,y],_ =>
   exact .tup _ [x,y] rfl fun j s v hs hv=>match j with
    |0=>by cases hs;cases hv;exact h2 0 _ _ rfl rfl
    |1=>by cases hs;cases hv;exact hb _ (h2 1 _ _ rfl rfl)
    |j+2=>by simp at hs
def in31V:Except Int Nat->SV
 | .ok n=>.tup [.d (.int .u64 n),.err false]
 | .error c=>.tup [.d (.int .u64 (if c=1 then 2147483647 else 0)),ifV c]
theorem in31v_ok(s:List UInt8)(hs:s.length<=1099511627776):FnOk Tryz.prog 133 [.d (.str s),.d (.int .i64 10),.d (.int .i64 31)] (in31V (y6 s)):=by
 have h:=in31_ok s hs
 cases hn:y6 s with
 |ok n =>
  rw [hn] at h
  exact FnOk.read h fun w M u hu=>tup_read hu fun v hv=>by cases hv;exact .err _ _ (fun h=>by cases h) (fun _=>rfl)
 |error c=>rw [hn] at h;exact h
theorem num31_err{s:List UInt8}{c:Int}(h:y6 s = .error c):c=1\/c=2:=by
 have hg:∀ (s:List UInt8) (n:Nat),go31 n s = .error c->c=1\/c=2:=fun s=>by
  induction s with
  |nil=>intro n e;cases e
  |cons a s ih =>
   intro n e
   unfold go31 at e
   split at e
   ·split at e
    ·cases e;exact .inl rfl
    ·exact ih _ e
   ·cases e;exact .inr rfl
 unfold y6 at h
 split at h
 ·cases h;exact .inr rfl
 ·exact hg s 0 h
theorem toerr_ok(fn s:List UInt8)(hs:s.length<=1099511627776)(c:Int)(hc:c=1\/c=2):FnOk Tryz.prog 134 [.d (.str fn),.d (.str s),.d (.int .i64 10),.d (.int .i64 31),ifV c] (.err true):=by
 refine⟨qe Tryz.func134 (by kernel_rfl) rfl,fun M w vs hV hM hl hd=>?_⟩
 match vs,hl with
 |[v0,v1,v2,v3,v4],_ =>
  have h0:=yu (hd 0 _ v0 rfl rfl)
  have h1:=yu (hd 1 _ v1 rfl rfl)
  have h2:=jc (hd 2 _ v2 rfl rfl)
  have h3:=jc (hd 3 _ v3 rfl rfl)
  have h4:=hd 4 _ v4 rfl rfl
  subst h0 h1 h2 h3
  have hsz:(⟨s.toArray⟩:ByteArray).size=s.length:=rfl
  rcases hc with rfl|rfl
  ·obtain⟨t,x,hcl⟩:=qk8 hV 3 (.inr rfl)
   cases h4
   refine(AnyPu.strconv_toError_range { Try.laysPu14 with } ⟨fn.toArray⟩ ⟨s.toArray⟩ 10 31 _ w (by rw[hsz];omega) hcl (.inr ⟨t,x,rfl⟩)).mono ?_
   rintro e w' ⟨N,rfl,_,_,hb⟩
   exact⟨_,rfl,Step.of_below _ hb,.err _ _ (fun _=>⟨_,_,rfl⟩) (fun h=>by cases h)⟩
  ·obtain⟨t,x,hcl⟩:=qk8 hV 2 (.inl rfl)
   cases h4
   refine(AnyPu.strconv_toError_syntax { Try.laysPu14 with } ⟨fn.toArray⟩ ⟨s.toArray⟩ 10 31 _ w (by rw[hsz];omega) hcl (.inr ⟨t,x,rfl⟩)).mono ?_
   rintro e w' ⟨N,rfl,_,_,hb⟩
   exact⟨_,rfl,Step.of_below _ hb,.err _ _ (fun _=>⟨_,_,rfl⟩) (fun h=>by cases h)⟩
def val31(s:List UInt8):Nat:=match y6 s with
 | .ok n=>n
 | .error c=>if c=1 then 2147483647 else 0
def bad31(s:List UInt8):Bool:=match y6 s with
 | .ok _=>false
 | .error _=>true
def p31V:Except Int Nat->SV
 | .ok n=>.tup [.d (.int .u64 n),.v .nilIface]
 | .error c=>.tup [.d (.int .u64 (if c=1 then 2147483647 else 0)),.err true]
theorem p31_ok(s:List UInt8)(hs:s.length<=1099511627776):FnOk Tryz.prog 99 [.d (.str s),.d (.int .i64 10),.d (.int .i64 31)] (p31V (y6 s)):=by
 refine qz (TT:=TT) (IN:=qi []) qk qm mixed 1000 Tryz.func99 rfl (qe Tryz.func99 (by kernel_rfl) rfl) rfl 23 (by kernel_rfl) ?_
 have h:=in31v_ok s hs
 cases hn:y6 s with
 |ok n =>
  rw [hn] at h
  conv=>whnf
  refine oD h rfl rfl ?_
  conv=>whnf
  repeat(first|(refine brF rfl ?_;conv=>whnf)|(refine brT rfl ?_;conv=>whnf))
  repeat'(first|exact ⟨⟩|exact rfl|exact fun _=>Iff.rfl|exact fun _ _=>rfl|exact renM_ent rfl _|apply And.intro)
  done
 |error c =>
  have hc:=num31_err hn
  rw [hn] at h
  conv=>whnf
  refine oD h rfl rfl ?_
  conv=>whnf
  repeat(first|(refine brF rfl ?_;conv=>whnf)|(refine brT rfl ?_;conv=>whnf))
  refine oD (toerr_ok _ s hs c hc) rfl rfl ?_
  conv=>whnf
  repeat'(first|exact ⟨⟩|exact rfl|exact fun _=>Iff.rfl|exact fun _ _=>rfl|exact renM_ent rfl _|apply And.intro)
  done
theorem parse31_ok(s:List UInt8)(hs:s.length<=1099511627776):FnOk Tryz.prog 99 [.d (.str s),.d (.int .i64 10),.d (.int .i64 31)] (.tup [.d (.int .u64 (val31 s:Nat)),.err (bad31 s)]):=by
 have h:=p31_ok s hs
 unfold val31 bad31
 cases hn:y6 s with
 |ok n =>
  rw [hn] at h
  exact FnOk.read h fun w M u hu=>tup_read hu fun v hv=>by cases hv;exact .err _ _ (fun h=>by cases h) (fun _=>rfl)
 |error c =>
  rw [hn] at h
  rcases num31_err hn with rfl|rfl
  ·exact h
  ·exact h
theorem sindex_ok(s:List UInt8)(c:UInt8):FnOk Tryz.prog 97 [.d (.str s),.d (.str [c])] (.d (.int .i64 (Lib.indexByte s c))):=by
 refine⟨qe Tryz.func97 (by kernel_rfl) rfl,fun M w vs hV hM hl hd=>?_⟩
 match vs,hl with
 |[v0,v1],_ =>
  have h0:=yu (hd 0 _ v0 rfl rfl)
  have h1:=yu (hd 1 _ v1 rfl rfl)
  subst h0 h1
  refine(Any.stringslite_Index_one { Try.lays143 with } ⟨s.toArray⟩ c w).mono ?_
  rintro e w' ⟨rfl,rfl⟩
  exact⟨_,rfl,Step.refl _ _,.d (.int _ _)⟩
def cutB(s:List UInt8)(c:UInt8):List UInt8 × List UInt8 × Bool :=
 if Lib.indexByte s c<0 then (s,[],false) else (s.take (Lib.indexByte s c).toNat,s.drop ((Lib.indexByte s c).toNat+1),true)
theorem qx2:∀ (s:List UInt8) (c:UInt8),Lib.indexByte s c<s.length
 |[],_=>by show(-1:Int)<0;omega
 |b :: s,c=>by
  have h1:=qx2 s c
  have h2:=Lib.indexByte_ge s c
  simp only[Lib.indexByte,ou]
  split
  ·omega
  ·split <;> omega
theorem qw4(s:List UInt8)(c:UInt8)(hs:s.length<=1099511627776):FnOk Tryz.prog 27 [.d (.str s),.d (.str [c])] (.tup [.d (.str (cutB s c).1),.d (.str (cutB s c).2.1),.d (.bool (cutB s c).2.2)]):=by
 refine qz (TT:=TT) (IN:=qi [(59,Tryz.f59,2)]) qk (ju qm Tryz.func59 (by kernel_rfl) (by kernel_rfl)) mixed 1000 Tryz.func27 rfl (qe Tryz.func27 (by kernel_rfl) rfl) rfl 11 (by kernel_rfl) ?_
 conv=>whnf
 refine oD (sindex_ok s c) rfl rfl ?_
 have hlt:=qx2 s c
 unfold cutB
 conv=>whnf
 by_cases h:Lib.indexByte s c<0
 ·refine brF (po (by omega)) ?_
  rw[if_pos h]
  conv=>whnf
  exact⟨rfl,rfl,rfl,trivial⟩
 ·rw[if_neg h]
  refine brT (pn (by omega)) ?_
  generalize Lib.indexByte s c=i at h hlt ⊢
  obtain⟨i,rfl⟩:=Int.eq_ofNat_of_zero_le (by omega:0<=i)
  conv=>whnf
  refine⟨by omega,?_⟩
  conv=>whnf
  have e1:IntKind.i64.wrap ((i:Int)+(([c]:List UInt8).length:Nat))=((i+1:Nat):Int):=by rw[qd _ (by simp only[ou,gt];omega)];simp only[ou,gt];omega
  rw[e1]
  refine⟨by omega,?_⟩
  conv=>whnf
  have e2:sub s 0 (i:Int)=s.take i:=by simp[sub]
  have e3:sub s ((i+1:Nat):Int) (s.length:Int)=s.drop (i+1):=by
   unfold sub
   rw[pz,pz,<-o6,lx]
  rw[e2,e3]
  exact⟨rfl,rfl,rfl,trivial⟩
def atsR:Nat->List UInt8->Bool->List Int->Option (List Int)
 |0,_,_,l=>some l
 |n+1,r,b,l=>bif b then (match y6 (cutB r 32).1 with
  | .ok k=>atsR n (cutB r 32).2.1 (cutB r 32).2.2 (l++[(k:Int)])
  | .error _=>none) else some l
def vx(s:List UInt8):Option (Int × Bool × List Int):=match yb 32 (cutB s 32).1 with
 |none=>none
 |some a=>match atsR (s.length+1) (cutB s 32).2.1 (cutB s 32).2.2 [] with
  |none=>none
  |some l=>some ((a:Int),Nat.beq l.length 0,l)
theorem qi6(s:List UInt8)(c:UInt8):(cutB s c).1.length<=s.length/\(cutB s c).2.1.length<=s.length/\((cutB s c).2.2=true->(cutB s c).2.1.length<s.length):=by
 have hl:=qx2 s c
 unfold cutB
 split
 ·exact⟨pr _,p6 _,fun h=>by cases h⟩
 ·refine⟨by simp[lu];omega,by simp[o6],fun _=>?_⟩
  simp only[o6]
  omega
structure StH where
 n:Nat
 r:List UInt8
 b:Bool
 l:List Int
def intF(l:List Int)(j:Nat):List DV:=[.int .i64 (l.getD j 0)]
def hosM(B1 B3:KB)(m:Nat)(G:Nat->List DV):Option (Int × Bool × List Int)->SV × List KB
 |none=>(.d (.bool false),[.cells 79 [.all 1,.all 2],B1,.row 32 2 m .iff G,B3])
 |some h=>(.d (.bool true),[.cells 79 [.all 1,.all 4],B1,.gone,B3,.row 32 2 (m+1) .iff (catF m G (qy (hostE h) 2))])
def hosK(B1 B3:KB)(m:Nat)(G:Nat->List DV)(s:List UInt8):SV × List KB:=hosM B1 B3 m G (if m=64 then none else vx s)
def hosA(a:Int):Option (List Int)->Option (Int × Bool × List Int)
 |none=>none
 |some l=>some (a,Nat.beq l.length 0,l)
theorem jc9{s:List UInt8}{a:Nat}(h:yb 32 (cutB s 32).1=some a):vx s=hosA a (atsR (s.length+1) (cutB s 32).2.1 (cutB s 32).2.2 []):=by
 unfold vx
 rw[h]
 show(match atsR (s.length+1) (cutB s 32).2.1 (cutB s 32).2.2 [] with|none=>none|some l=>some ((a:Int),Nat.beq l.length 0,l))=_
 cases atsR (s.length+1) (cutB s 32).2.1 (cutB s 32).2.2 [] <;> rfl
theorem atsR_ok{n k:Nat}{r:List UInt8}{l:List Int}(h:y6 (cutB r 32).1 = .ok k):atsR (n+1) r true l=atsR n (cutB r 32).2.1 (cutB r 32).2.2 (l++[(k:Int)]):=by
 rw[atsR,h];rfl
theorem atsR_err{n:Nat}{c:Int}{r:List UInt8}{l:List Int}(h:y6 (cutB r 32).1 = .error c):atsR (n+1) r true l=none:=by
 rw[atsR,h];rfl
theorem jd8(n:Nat)(r:List UInt8)(l:List Int):atsR n r false l=some l:=by cases n <;> rfl
theorem num31_le{s:List UInt8}{k:Nat}(h:y6 s = .ok k):k<=2147483647:=by
 unfold y6 at h
 split at h
 ·cases h
 ·exact go31_le s 0 k (by omega) h
theorem intF_cat(l:List Int)(k:Int)(i:Nat)(hi:i<l.length+1):catF l.length (intF l) (qy [.int .i64 k] 1) i=intF (l++[k]) i:=by
 unfold catF intF
 split
 ·rename_i h
  rw[List.getD,List.getD,oo h]
 ·rename_i h
  obtain rfl:i=l.length:=by omega
  rw[fq,List.getD,o4 (pr _),fq]
  rfl
def ZonB(B1 B3:KB):Prop:=(∃ F n l apex,B1 = .rows 58 2 (n+1) F/\B3 = .row 62 5 (List.length l) .iff (rrF l)/\F n=[.d (.str apex),.all 3]/\DatF F n)\/(∃ Y,B1 = .row 58 2 0 .iff Y/\B3 = .gone)
theorem fhos_ok(B1 B3:KB)(hB:ZonB B1 B3)(m:Nat)(G:Nat->List DV)(s:List UInt8)(hm:m<=1000)(hs:s.length<=1000000) :
 COk Tryz.prog 61 [.ptr 0 0,.d (.str s)] [.cells 79 [.all 1,.all 2],B1,.row 32 2 m .iff G,B3]
  (fun r k=>r=(hosK B1 B3 m G s).1/\k=(hosK B1 B3 m G s).2):=by
 have hfin:∀ F n l apex,B1 = .rows 58 2 (n+1) F->B3 = .row 62 5 (List.length l) .iff (rrF l)->F n=[.d (.str apex),.all 3]->DatF F n->∀ ρ:List Nat,posN 3 ρ 0=some 3->∀ i,i<n+1->SubL ((fun i=>renL ρ (F i)) i) (F i):=by
  refine fun F n l apex _ _ hF hD ρ h3=>qo4 hD (fun _ _=>rfl) ?_
  rw[hF]
  refine⟨rfl,?_,True.intro⟩
  show SubV (match posN 3 ρ 0 with|some p=>SV.all p|none=>.any) _
  rw[h3];exact rfl
 refine yg (TT:=TT) (IN:=qi []) qk qm mixed 1000 Tryz.func61 rfl (qe Tryz.func61 (by kernel_rfl) rfl) 67 (by kernel_rfl) ?_
 generalize hK:hosK B1 B3 m G s=K
 rcases hB with⟨F,n,l,apex,rfl,rfl,hF,hD⟩|⟨Y,rfl,rfl⟩
 all_goals
  conv=>whnf
  refine⟨fun h1=>?_,fun h1=>?_⟩
  ·have h1:m=64:=by simp at h1;omega
   rw [hosK,if_pos h1] at hK
   subst hK
   conv=>whnf
   refine⟨[0,1,2,3],_,_,rfl,rfl,?_,?_,rfl,rfl⟩
   ·exact rfl
   ·conv=>whnf
    repeat'(first|exact ⟨⟩|exact rfl|exact(fun _ _ _ _ h=>⟨jb _,h⟩)|exact fun _=>Iff.rfl|exact fun _ _=>rfl|apply And.intro)
    all_goals exact hfin _ _ _ _ rfl rfl hF hD _ (by rfl)
  have h1:¬ m=64:=by simp at h1;omega
  rw [hosK,if_neg h1] at hK
  conv=>whnf
  refine oD (qw4 s 32 (by omega)) rfl rfl ?_
  obtain⟨q1,q2,q3⟩:=qi6 s 32
  conv=>whnf
  refine oD (jm3 (cutB s 32).1 (by omega)) rfl rfl ?_
  conv=>whnf
  refine⟨fun h2=>?_,fun h2=>?_⟩
  ·have h2:yb 32 (cutB s 32).1=none:=Option.isNone_iff_eq_none.1 h2
   rw [show vx s=none by unfold vx;rw [h2]] at hK
   subst hK
   conv=>whnf
   refine⟨[0,1,2,3],_,_,rfl,rfl,?_,?_,rfl,rfl⟩
   ·exact rfl
   ·conv=>whnf
    repeat'(first|exact ⟨⟩|exact rfl|exact(fun _ _ _ _ h=>⟨jb _,h⟩)|exact fun _=>Iff.rfl|exact fun _ _=>rfl|apply And.intro)
    all_goals exact hfin _ _ _ _ rfl rfl hF hD _ (by rfl)
  obtain⟨a,ha⟩:∃ a,yb 32 (cutB s 32).1=some a:=by
   cases h:yb 32 (cutB s 32).1 with
   |none=>rw [h] at h2;cases h2
   |some a=>exact⟨a,rfl⟩
  have ha2:=qc6 ha
  have ha2:a<=4294967295:=ha2
  obtain⟨A,hA⟩:∃ A,A=atsR (s.length+1) (cutB s 32).2.1 (cutB s 32).2.2 []:=⟨_,rfl⟩
  rw [jc9 ha,<-hA] at hK
  rw[show wordV 32 (cutB s 32).1=a from qt4 ha]
  conv=>whnf
  have hwa:IntKind.u32.wrap (a:Int)=(a:Int):=by rw[IntKind.wrap_u32];omega
  rw[hwa]
  refine .nilC 4 1 3 1 (fun _=>[]) _ _ _ _ rfl rfl ?_
  conv=>whnf
  refine .inv StH (fun x=>atsR x.n x.r x.b x.l=A/\(x.b=true->x.r.length<x.n)/\x.r.length<=1000000/\x.l.length+x.n<=s.length+1) (fun x=>[(5,.any),(6,.d (.str x.r)),(7,.d (.bool x.b))]) (fun x=>[(5,.row 3 1 x.l.length .iff (intF x.l))]) (fun x=>x.n) ⟨⟨s.length+1,(cutB s 32).2.1,(cutB s 32).2.2,[]⟩,[0,1,2,3,4,5],⟨hA.symm,fun h=>by have h2:=q3 h;exact Nat.lt_succ_of_lt h2,by show(cutB s 32).2.1.length<=_;omega,by simp⟩,?_⟩ ?_
  ·conv=>whnf
   repeat'(first|exact ⟨⟩|exact rfl|exact(fun _ _ _ _ h=>⟨jb _,h⟩)|exact fun _=>Iff.rfl|exact fun _ _=>rfl|apply And.intro)
   all_goals first|exact hfin _ _ _ _ rfl rfl hF hD _ (by rfl)|exact noI
  rintro ⟨fu,r,b,q⟩ ⟨i1,i2,i3,i4⟩
  replace i1:atsR fu r b q=A:=i1
  replace i2:b=true->r.length<fu:=i2
  replace i3:r.length<=1000000:=i3
  replace i4:q.length+fu<=s.length+1:=i4
  conv=>whnf
  cases b with
  |false =>
   refine brF rfl ?_
   have hA2:A=some q:=by rw[<-i1,jd8]
   rw [hA2] at hK
   subst hK
   conv=>whnf
   refine⟨by omega,?_⟩
   conv=>whnf
   refine⟨[0,1,2,3,7],_,_,rfl,rfl,?_,?_,rfl,rfl⟩
   ·exact rfl
   ·conv=>whnf
    repeat'(first|exact ⟨⟩|exact rfl|exact(fun _ _ _ _ h=>⟨jb _,h⟩)|exact fun _=>Iff.rfl|exact fun _ _=>rfl|apply And.intro)
    all_goals first|exact hfin _ _ _ _ rfl rfl hF hD _ (by rfl)|exact noI
  |true =>
   refine brT rfl ?_
   obtain⟨fu,rfl⟩:∃ k,fu=k+1:=⟨fu - 1,by have h:r.length<fu:=i2 rfl;omega⟩
   have i2:r.length<fu+1:=i2 rfl
   conv=>whnf
   refine oD (qw4 r 32 (by omega)) rfl rfl ?_
   obtain⟨p1,p2,p3⟩:=qi6 r 32
   conv=>whnf
   refine oD (parse31_ok (cutB r 32).1 (by omega)) rfl rfl ?_
   cases hn:y6 (cutB r 32).1 with
   |error c =>
    rw [atsR_err hn] at i1
    rw[show bad31 (cutB r 32).1=true by unfold bad31;rw[hn]]
    rw [<-i1] at hK
    conv=>whnf
    repeat(first|(refine brF rfl ?_;conv=>whnf)|(refine brT rfl ?_;conv=>whnf))
    subst hK
    refine⟨[0,1,2,3],_,_,rfl,rfl,?_,?_,rfl,rfl⟩
    ·exact rfl
    ·conv=>whnf
     repeat'(first|exact ⟨⟩|exact rfl|exact(fun _ _ _ _ h=>⟨jb _,h⟩)|exact fun _=>Iff.rfl|exact fun _ _=>rfl|apply And.intro)
     all_goals exact hfin _ _ _ _ rfl rfl hF hD _ (by rfl)
   |ok k =>
    rw [atsR_ok hn] at i1
    have hk:=num31_le hn
    rw[show bad31 (cutB r 32).1=false by unfold bad31;rw[hn],show val31 (cutB r 32).1=k by unfold val31;rw[hn]]
    conv=>whnf
    repeat(first|(refine brF rfl ?_;conv=>whnf)|(refine brT rfl ?_;conv=>whnf))
    rw[show IntKind.i64.wrap (k:Int)=(k:Int) from qd _ (by omega)]
    refine⟨(by omega:(q.length+1) * 8<=70368744177664),?_⟩
    conv=>whnf
    refine⟨⟨fu,(cutB r 32).2.1,(cutB r 32).2.2,q++[(k:Int)]⟩,[0,1,2,3,4,7],⟨i1,fun h=>by have:=p3 h;show(cutB r 32).2.1.length<fu;omega,by show(cutB r 32).2.1.length<=_;omega,by show(q++[(k:Int)]).length+fu<=_;rw[pv];simp;omega⟩,l6 _,?_⟩
    conv=>whnf
    repeat'(first|exact ⟨⟩|exact rfl|exact(fun _ _ _ _ h=>⟨jb _,h⟩)|exact fun _=>Iff.rfl|exact fun _ _=>rfl|apply And.intro)
    all_goals first|exact hfin _ _ _ _ rfl rfl hF hD _ (by rfl)|exact(by rw[pv];rfl:q.length+1=(q++[(k:Int)]).length)|exact fun j hj=>intF_cat q k j hj
def hostW:List UInt8:=[104,111,115,116,32]
theorem papU_ok(s:List UInt8)(n:Nat)(h:n<10000000000)(hs:s.length<=1099511627776):COk Tryz.prog 86 [.all 0,.d (.int .u64 n),.d (.int .i64 10)] [.row 5 1 s.length .no (jw s)] (fun r k=>r = .all 1/\k=[.gone,.row 5 1 (s++Lib.decDigits n).length .no (jw (s++Lib.decDigits n))]):=by
 refine yg (TT:=TT) (IN:=qi []) qk qm mixed 1000 Tryz.func86 rfl (qe Tryz.func86 (by kernel_rfl) rfl) 8 (by kernel_rfl) ?_
 conv=>whnf
 refine .rel _ (apU_ok s n h hs) (fun x ks' hR=>?_)
 obtain⟨rfl,rfl⟩:=hR
 conv=>whnf
 refine⟨[0,1],_,_,rfl,rfl,?_,?_,rfl,rfl⟩
 ·exact rfl
 ·conv=>whnf
  repeat'(first|exact ⟨⟩|exact rfl|exact fun _=>Iff.rfl|exact fun _ _=>rfl|exact wx _ _|exact(pv ..).symm|exact k7 _ _|apply And.intro)
theorem host_row:∀ x,x<5->qy ([104,111,115,116,32].map (DV.int .u8)) 1 x=jw hostW x
 |0,_=>rfl
 |1,_=>rfl
 |2,_=>rfl
 |3,_=>rfl
 |4,_=>rfl
 |x+5,h=>absurd h (by omega)
theorem papH_ok(n:Nat)(h:n<10000000000):COk Tryz.prog 86 [.all 0,.d (.int .u64 n),.d (.int .i64 10)] [.row 5 1 5 .no (qy ([104,111,115,116,32].map (DV.int .u8)) 1)] (fun r k=>r = .all 1/\k=[.gone,.row 5 1 (hostW++Lib.decDigits n).length .no (jw (hostW++Lib.decDigits n))]) :=
 COk.rowPre (q:=0) rfl host_row (papU_ok hostW n h (by decide))
def atsT(l:List Int):List UInt8:=l.flatMap fun a=>32 :: Lib.decDigits a.toNat
def ym(h:Int × Bool × List Int):List UInt8:=hostW++Lib.decDigits h.1.toNat++atsT h.2.2
def hostV(h:Int × Bool × List Int):SV:=.agg ((hostE h).map .d)
theorem qu7{l:List Int}(h:∀ a ∈ l,0<=a/\a<10000000000):(atsT l).length<=11 * l.length:=by
 induction l with
 |nil=>exact pr _
 |cons a l ih =>
  have h1:=ih fun b hb=>h b (.tail _ hb)
  have h2:=h a (.head _)
  have h3:=qd7 a.toNat (by omega)
  show(32 :: Lib.decDigits a.toNat++atsT l).length<=_
  simp only[pv,ou]
  omega
theorem apSp_ok(b:List UInt8)(n:Nat)(h:n<10000000000)(hb:b.length<=549755813888):COk Tryz.prog 87 [.all 0,.d (.int .i64 n),.d (.int .i64 10)] [.row 5 1 (b.length+1) .no (catF b.length (jw b) (qy [DV.int .u8 32] 1))]
 (fun r k=>r = .all 1/\k=[.gone,.row 5 1 (b++32 :: Lib.decDigits n).length .no (jw (b++32 :: Lib.decDigits n))]):=by
 have e:(b++[32]).length=b.length+1:=by simp
 have h1:=apI_ok (b++[32]) n h (by omega)
 rw [e] at h1
 have h2:=COk.rowPre (k0:=[.row 5 1 (b.length+1) .no (catF b.length (jw b) (qy [DV.int .u8 32] 1))]) (q:=0) (g:=catF b.length (jw b) (qy [DV.int .u8 32] 1)) rfl (fun x hx=>qf0 b 32 x hx) h1
 exact h2.imp fun r k ⟨a,b⟩=>⟨a,by rw[b,m6];rfl⟩
theorem atsT_snoc(l:List Int)(a:Int):atsT (l++[a])=atsT l++32 :: Lib.decDigits a.toNat:=by unfold atsT;simp
theorem hostLine_ok(h:Int × Bool × List Int)(ha:0<=h.1/\h.1<=4294967295)(hz:∀ a ∈ h.2.2,0<=a/\a<10000000000)(hl:h.2.2.length<=4294967296):FnOk Tryz.prog 50 [hostV h] (.d (.str (ym h))):=by
 obtain⟨a,z,l⟩:=h
 refine qz (TT:=TT) (IN:=qi []) qk qm mixed 1000 Tryz.func50 rfl (qe Tryz.func50 (by kernel_rfl) rfl) rfl 27 (by kernel_rfl) ?_
 obtain⟨n,rfl⟩:∃ n:Nat,a=n:=⟨a.toNat,by have:=ha.1;show a=(a.toNat:Int);omega⟩
 have hn:n<10000000000:=by have h:(n:Int)<=4294967295:=ha.2;omega
 have hpl:(hostW++Lib.decDigits n).length<=15:=by have:=qd7 n hn;rw[pv];show 5+_<=_;omega
 conv=>whnf
 rw[show IntKind.u64.wrap (n:Int)=n by rw[IntKind.wrap_u64];omega]
 refine .rel _ (COk.frameX (papH_ok n hn) [2] rfl rfl rfl) (fun x ks' hR=>?_)
 obtain⟨_,_,⟨rfl,rfl⟩,rfl,rfl⟩:=hR
 conv=>whnf
 have e0:hostW++Lib.decDigits n++atsT (l.take 0)=hostW++Lib.decDigits n:=by simp[atsT]
 refine .inv Nat (fun i=>i<=l.length) (fun i=>[(3,.all 3),(11,.any),(15,.d (.int .i64 i))]) (fun i=>[(3,.row 5 1 (hostW++Lib.decDigits n++atsT (l.take i)).length .no (jw (hostW++Lib.decDigits n++atsT (l.take i))))]) (fun i=>l.length - i) ⟨0,[0,1,2,3],p6 _,?_⟩ ?_
 ·conv=>whnf
  repeat'(first|exact ⟨⟩|exact rfl|exact fun _=>Iff.rfl|exact fun _ _=>rfl|exact wx _ _|exact(pv ..).symm|exact k7 _ _|apply And.intro)
  all_goals first|exact(congrArg List.length e0).symm|(intro i _;rw[e0])
 intro i hi
 have hB:(hostW++Lib.decDigits n++atsT (l.take i)).length<=549755813888:=by
  have:=qu7 (l:=l.take i) fun a ha=>hz a (gp ha)
  have h2:(l.take i).length<=l.length:=by rw[lu];omega
  have h3:l.length<=4294967296:=hl
  rw[pv]
  omega
 obtain⟨B,hBd⟩:∃ B,B=hostW++Lib.decDigits n++atsT (l.take i):=⟨_,rfl⟩
 rw [<-hBd] at hB ⊢
 conv=>whnf
 refine⟨fun c0=>?_,fun c0=>?_⟩
 ·have c0':i<l.length:=(by have h:(i:Int)<l.length:=pw c0;omega)
  obtain⟨a,hq⟩:∃ a,l.getD i 0=a:=⟨_,rfl⟩
  have hq2:l[i]? = some a:=by rw[<-hq,List.getD,pp c0'];rfl
  have hza:=hz a (oy hq2)
  obtain⟨m,rfl⟩:∃ m:Nat,a=m:=⟨a.toNat,by omega⟩
  have htk:hostW++Lib.decDigits n++atsT (l.take (i+1))=B++32 :: Lib.decDigits m:=by
   rw[m5,hq2,hBd]
   show hostW++Lib.decDigits n++atsT (l.take i++[(m:Int)])=_
   rw[atsT_snoc,m6,m6,m6]
   rfl
  conv=>whnf
  refine⟨by show 0<=(i:Int)/\(i:Int)<(l.length:Int);omega,?_⟩
  conv=>whnf
  refine⟨by omega,?_⟩
  conv=>whnf
  rw[pz]
  have hg:((↑n,z,l):Int × Bool × List Int).2.2.getD i 0=(m:Int):=hq
  rw[hg]
  refine .rel _ (COk.frameX (apSp_ok B m (by omega) hB) [5] rfl rfl rfl) (fun x ks' hR=>?_)
  obtain⟨_,_,⟨rfl,rfl⟩,rfl,rfl⟩:=hR
  conv=>whnf
  have hw1:IntKind.i64.wrap ((i:Int)+1)=((i+1:Nat):Int):=by rw[qd _ (by have:=hl;show _<=(i:Int)+1/\_;have h3:l.length<=4294967296:=hl;omega)];omega
  refine⟨i+1,[0,1,2,6],c0',by omega,?_⟩
  rw[htk]
  conv=>whnf
  rw[hw1]
  repeat'(first|exact ⟨⟩|exact rfl|exact fun _=>Iff.rfl|exact fun _ _=>rfl|exact wx _ _|exact(pv ..).symm|exact k7 _ _|apply And.intro)
 ·have c0':i=l.length:=(by have h:¬ (i:Int)<l.length:=px c0;omega)
  subst c0'
  rw [lx] at hBd
  have hfin:ym ((n:Int),z,l)=B:=by rw[hBd];rfl
  rw[hfin]
  conv=>whnf
  refine⟨fun i _=>⟨_,rfl⟩,?_⟩
  rw[qb8]
  conv=>whnf
  try exact rfl
def ke(z:Zo):List UInt8:=[122,111,110,101,32]++txtN z.apex
def yk(l:List RR):List UInt8:=l.flatMap fun r=>r.line++[10]
def zText(z:Zo):List UInt8:=ke z++[10]++yk z.rrs
def yr(l:List Zo):List UInt8:=l.flatMap zText
def yt(l:List (Int × Bool × List Int)):List UInt8:=l.flatMap fun h=>ym h++[10]
def Fo.text(f:Fo):List UInt8:=yr f.zones++yt f.hosts
def jp(f:Fo):List UInt8 × Int:=if f.ok then (f.text,0) else ([],2)
structure Fo.In(f:Fo):Prop where
 rr:∀ z ∈ f.zones,∀ r ∈ z.rrs,r.In
 addr:∀ h ∈ f.hosts,0<=h.1/\h.1<=4294967295
 len:∀ h ∈ f.hosts,h.2.2.length<=4294967296
theorem Fo.In.Len{f:Fo}(h:f.In):f.Len:=fun a ha=>by have:=h.len a ha;omega
theorem rLines_snoc(l:List RR)(r:RR):yk (l++[r])=yk l++r.line++[10]:=by unfold yk;simp
theorem zTexts_snoc(l:List Zo)(z:Zo):yr (l++[z])=yr l++zText z:=by unfold yr;simp
theorem hTexts_snoc(l:List (Int × Bool × List Int))(h:Int × Bool × List Int):yt (l++[h])=yt l++ym h++[10]:=by unfold yt;simp
theorem jl8{l:List RR}(h:∀ r ∈ l,r.line.length<=9300):(yk l).length<=9301 * l.length:=by
 induction l with
 |nil=>exact pr _
 |cons a l ih =>
  have h1:=ih fun b hb=>h b (.tail _ hb)
  have h2:=h a (.head _)
  show((a.line++[10])++yk l).length<=_
  simp only[pv,ou,gt]
  omega
theorem Zo.ok_rr{z:Zo}(h:z.ok=true):∀ r ∈ z.rrs,r.check=true:=fun r hr=>by
 unfold Zo.ok at h
 simp only [oq,ly] at h
 have:=lw.1 h.2.2.1 r hr
 unfold zy at this
 simp only [oq] at this
 exact this.2.2.2.1
theorem zText_len{z:Zo}(h:z.ok=true)(hi:∀ r ∈ z.rrs,r.In):(zText z).length<=2400000:=by
 have h1:=Zo.ok_len h
 have h2:=qt5 (Zo.ok_name h)
 have h3:=jl8 (l:=z.rrs) fun r hr=>qn6 (Zo.ok_rr h r hr) (hi r hr)
 unfold zText ke
 simp only[pv,ou,gt]
 omega
structure Fo.Okf(f:Fo):Prop where
 one:1<=f.zones.length
 nz:f.zones.length<=64
 nh:f.hosts.length<=64
 zone:∀ z ∈ f.zones,z.ok=true
 host:∀ h ∈ f.hosts,∀ a ∈ h.2.2,0<=a/\a<64
abbrev Ho:=Int × Bool × List Int
def jy(zs:List Zo):Zo:=zs.getD (zs.length - 1) default
def zF(zs:List Zo)(q i:Nat):List SV:=if i+1=zs.length then [.d (.str (zs.getD i default).apex),.all q] else (Zo.enc (zs.getD i default)).map .d
def zE(zs:List Zo)(i:Nat):List DV:=(zs.getD i default).enc
def hF(hs:List Ho)(i:Nat):List DV:=hostE (hs.getD i default)
def zB(q:Nat):List Zo->KB
 |[]=>.row 58 2 0 .iff (zE [])
 |a :: l=>.rows 58 2 (l.length+1) (zF (a :: l) q)
def rB:List Zo->KB
 |[]=>.gone
 |a :: l=>.row 62 5 (jy (a :: l)).rrs.length .iff (rrF (jy (a :: l)).rrs)
def hB(hs:List Ho):KB:=.row 32 2 hs.length .iff (hF hs)
def rdK(zs:List Zo)(hs:List Ho):List KB:=[.cells 79 [.all 1,.all 2],zB 3 zs,hB hs,rB zs]
def v6:List KB:=[.gone,.gone,.gone,.gone]
def kx(zs:List Zo)(hs:List Ho)(s:List UInt8):Option (List Zo):=if 0<hs.length\/zs.length=64\/(jx s).2≠0 then none else some (zs++[⟨(jx s).1,true,[]⟩])
def recP(zs:List Zo)(hs:List Ho)(s:List UInt8):Option (List Zo):=if zs=[]\/0<hs.length\/(jy zs).rrs.length=256 then none else match yv s with
 |none=>none
 |some r=>some (zs.set (zs.length - 1) ⟨(jy zs).apex,false,(jy zs).rrs++[r]⟩)
def hosP(hs:List Ho)(s:List UInt8):Option (List Ho):=if hs.length=64 then none else match vx s with
 |none=>none
 |some h=>some (hs++[h])
theorem zF_dat(a:Zo)(l:List Zo)(q:Nat):DatF (zF (a :: l) q) l.length:=fun i hi=>⟨((a :: l).getD i default).enc,by unfold zF;rw[if_neg (by simp only[ou];omega)]⟩
theorem zF_last(a:Zo)(l:List Zo)(q:Nat):zF (a :: l) q l.length=[.d (.str (jy (a :: l)).apex),.all q]:=if_pos rfl
def Nz(zs:List Zo):Prop:=∀ z ∈ zs,z.z=Nat.beq z.rrs.length 0
theorem qj3(k:List KB)(hk:k.length=4)(X:Nat->Prop)(w:World)(β:Env)(fp:Nat->Nat->Prop)(hM:Mem X w β fp k):∃ β' fp',Went X w β fp w β' fp' v6:=by
 match k,hk with
 |[a,b,c,d],_=>exact⟨_,_,hM.gone [0,1,2,3]⟩
def zoneK(zs:List Zo)(hs:List Ho):List KB:=[.cells 79 [.all 4,.all 2],.gone,hB hs,.gone,.rows 58 2 zs.length (zF zs 5),.row 62 5 0 .iff (rrF [])]
theorem zoneD(z:Z)(zs:List Zo)(hs:List Ho)(s:List UInt8)(hN:zs.length<=1000) :
 COk Tryz.prog 60 [.ptr 0 0,.d (.str s)] (rdD z zs.length (zE zs) hs.length (hF hs)) (fun r k=>(kx zs hs s=none/\r = .d (.bool false)/\k=v6)\/∃ zs',kx zs hs s=some zs'/\r = .d (.bool true)/\k=zoneK zs' hs):=by
 refine(fzon_ok z zs.length (zE zs) hs.length (hF hs) s hN).behind fun r k ⟨h1,h2⟩=>.inr ?_
 unfold zonK at h1 h2
 unfold kx
 split at h1
 ·rename_i h
  rw [if_pos h] at h2 ⊢
  exact⟨v6,.inl ⟨rfl,h1,rfl⟩,fun X w β fp hM=>qj3 k (by rw[h2];rfl) X w β fp hM⟩
 ·rename_i h
  rw [if_neg h] at h2 ⊢
  refine⟨_,.inr ⟨_,rfl,h1,rfl⟩,fun X w β fp hM=>?_⟩
  rw [h2] at hM
  have hl:(zs++[(⟨(jx s).1,true,[]⟩:Zo)]).length=zs.length+1:=by rw[pv];rfl
  have:=hM.thawNil (i:=4) (p:=zs.length) (c:=1) (e2:=62) (sz2:=5) (g:=rrF []) (sz1:=0) (g1:=fun _=>[]) (F':=zF (zs++[⟨(jx s).1,true,[]⟩]) 5) rfl (l6 _) ?_ ?_ ?_
  ·unfold zoneK
   rw[hl]
   exact this
  ·intro k hk
   unfold catF
   split
   ·rfl
   ·obtain rfl:k=zs.length:=by omega
    rw[fq];rfl
  ·unfold catF
   rw[if_neg (cw _),fq];rfl
  ·intro k hk
   unfold zF
   rw[hl]
   by_cases hkn:k=zs.length
   ·subst hkn
    rw[if_pos rfl,if_pos rfl]
    unfold catF
    rw[if_neg (cw _),fq,List.getD,o4 (pr _),fq]
    rfl
   ·rw[if_neg (by omega),if_neg hkn]
    unfold catF
    rw[if_pos (by omega),List.getD,oo (by omega)]
    rfl
theorem freezeR(a:Zo)(l:List Zo)(hs:List Ho)(hz:Nz (a :: l)){X:Nat->Prop}{w:World}{β:Env}{fp:Nat->Nat->Prop}(hM:Mem X w β fp (rdK (a :: l) hs)):∃ β' fp',Went X w β fp w β' fp' (rdD .no (a :: l).length (zE (a :: l)) hs.length (hF hs)):=by
 refine hM.freeze (i:=1) (q:=3) (F:=zF (a :: l) 3) (G:=zE (a :: l)) (n:=l.length+1) rfl rfl (by decide) (fun k _=>rfl) ?_
 intro k j d hk hd
 by_cases hkl:k=l.length
 ·subst hkl
  have hzz:=hz (jy (a :: l)) (by
   unfold jy
   rw[List.getD,pp (by simp)]
   exact gv _)
  rw[zF_last]
  match j,hd with
  |0,hd=>cases hd;exact .inl rfl
  |1,hd =>
   cases hd
   refine .inr ⟨rfl,?_⟩
   show rrsD (jy (a :: l)).z (jy (a :: l)).rrs=_
   rw[hzz];rfl
  |j+2,hd=>cases hd
 ·refine .inl ?_
  unfold zF
  rw[if_neg (by simp only[ou];omega),o5]
  show Option.map _ ((zE (a :: l) k)[j]?)=_
  rw[hd];rfl
theorem zone_ok(zs:List Zo)(hs:List Ho)(s:List UInt8)(hN:zs.length<=1000)(hz:Nz zs) :
 COk Tryz.prog 60 [.ptr 0 0,.d (.str s)] (rdK zs hs) (fun r k=>(kx zs hs s=none/\r = .d (.bool false)/\k=v6)\/∃ zs',kx zs hs s=some zs'/\r = .d (.bool true)/\k=zoneK zs' hs):=by
 cases zs with
 |nil=>exact zoneD .iff [] hs s hN
 |cons a l=>exact(zoneD .no (a :: l) hs s hN).ahead fun X w β fp hM=>freezeR a l hs hz hM
def hostK(zs:List Zo)(hs:List Ho)(G:Nat->List DV):List KB:=[.cells 79 [.all 1,.all 4],zB 3 zs,.gone,rB zs,.row 32 2 hs.length .iff G]
theorem zonB(zs:List Zo):ZonB (zB 3 zs) (rB zs):=by
 cases zs with
 |nil=>exact .inr ⟨_,rfl,rfl⟩
 |cons a l=>exact .inl ⟨_,_,_,_,rfl,rfl,zF_last a l 3,zF_dat a l 3⟩
theorem host_ok(zs:List Zo)(hs:List Ho)(s:List UInt8)(hm:hs.length<=1000)(hsl:s.length<=1000000) :
 COk Tryz.prog 61 [.ptr 0 0,.d (.str s)] (rdK zs hs) (fun r k=>(hosP hs s=none/\r = .d (.bool false)/\k=v6)\/∃ hs' G,hosP hs s=some hs'/\r = .d (.bool true)/\k=hostK zs hs' G/\∀ i,i<hs'.length->G i=hF hs' i):=by
 refine(fhos_ok (zB 3 zs) (rB zs) (zonB zs) hs.length (hF hs) s hm hsl).behind fun r k ⟨h1,h2⟩=>?_
 unfold hosK at h1 h2
 unfold hosP
 by_cases h:hs.length=64
 ·rw [if_pos h] at h1 h2 ⊢
  exact .inr ⟨v6,.inl ⟨rfl,h1,rfl⟩,fun X w β fp hM=>qj3 k (by rw[h2];rfl) X w β fp hM⟩
 ·rw [if_neg h] at h1 h2 ⊢
  cases hp:vx s with
  |none =>
   rw [hp] at h1 h2
   exact .inr ⟨v6,.inl ⟨rfl,h1,rfl⟩,fun X w β fp hM=>qj3 k (by rw[h2];rfl) X w β fp hM⟩
  |some x =>
   rw [hp] at h1 h2
   refine .inl (.inr ⟨_,catF hs.length (hF hs) (qy (hostE x) 2),rfl,h1,?_,?_⟩)
   ·rw[h2];unfold hostK;rw[pv];rfl
   ·intro i hi
    rw [pv] at hi
    have hi:i<hs.length+1:=hi
    unfold catF hF
    split
    ·rename_i h
     rw[List.getD,List.getD,oo h]
    ·rename_i h
     obtain rfl:i=hs.length:=by omega
     rw[fq,List.getD,o4 (pr _),fq]
     rfl
def recdK(zs:List Zo)(hs:List Ho)(F:Nat->List SV):List KB:=[.cells 79 [.all 1,.all 2],.rows 58 2 zs.length F,hB hs,.gone,.row 62 5 (jy zs).rrs.length .iff (rrF (jy zs).rrs)]
theorem frec0_ok(hs:List Ho)(s:List UInt8):COk Tryz.prog 62 [.ptr 0 0,.d (.str s)] (rdK [] hs) (fun r k=>r = .d (.bool false)/\k=rdK [] hs):=by
 refine yg (TT:=TT) (IN:=qi []) qk qm mixed 1000 Tryz.func62 rfl (qe Tryz.func62 (by kernel_rfl) rfl) 63 (by kernel_rfl) ?_
 conv=>whnf
 repeat(first|(refine brF rfl ?_;conv=>whnf)|(refine brT rfl ?_;conv=>whnf))
 refine⟨[0,1,2,3],_,_,rfl,rfl,?_,?_,rfl,rfl⟩
 ·exact rfl
 ·conv=>whnf
  repeat'(first|exact ⟨⟩|exact rfl|exact(fun _ _ _ _ h=>⟨jb _,h⟩)|exact fun _=>Iff.rfl|exact fun _ _=>rfl|apply And.intro)
theorem rec_ok(zs:List Zo)(hs:List Ho)(s:List UInt8)(hN:zs.length<=1000)(hl:(jy zs).rrs.length<=1000)(hsl:s.length<=1000000) :
 COk Tryz.prog 62 [.ptr 0 0,.d (.str s)] (rdK zs hs) (fun r k=>(recP zs hs s=none/\r = .d (.bool false)/\k=v6)\/∃ zs' F,recP zs hs s=some zs'/\r = .d (.bool true)/\k=recdK zs' hs F/\zs'.length=zs.length/\∀ i,i<zs'.length->F i=zF zs' 4 i):=by
 cases zs with
 |nil =>
  refine(frec0_ok hs s).behind fun r k ⟨h1,h2⟩=>?_
  exact .inr ⟨v6,.inl ⟨by unfold recP;rw[if_pos (.inl rfl)],h1,rfl⟩,fun X w β fp hM=>qj3 k (by rw[h2];rfl) X w β fp hM⟩
 |cons a l =>
  have hlast:=zF_last a l 3
  have hN':l.length+1<=1000:=hN
  refine(frec_ok (zF (a :: l) 3) l.length hs.length (hF hs) (jy (a :: l)).rrs (jy (a :: l)).apex s hlast (zF_dat a l 3) (by omega) hl hsl).behind fun r k ⟨h1,h2⟩=>?_
  unfold recK at h1 h2
  unfold recP
  by_cases h:0<hs.length\/(jy (a :: l)).rrs.length=256
  ·rw [if_pos h] at h1 h2
   rw[if_pos (.inr h)]
   exact .inr ⟨v6,.inl ⟨rfl,h1,rfl⟩,fun X w β fp hM=>qj3 k (by rw[h2];rfl) X w β fp hM⟩
  ·rw [if_neg h] at h1 h2
   rw[if_neg (by rintro (h'|h');exact absurd h' (by simp);exact h h')]
   cases hp:yv s with
   |none =>
    rw [hp] at h1 h2
    exact .inr ⟨v6,.inl ⟨rfl,h1,rfl⟩,fun X w β fp hM=>qj3 k (by rw[h2];rfl) X w β fp hM⟩
   |some x =>
    rw [hp] at h1 h2
    have hset:jy ((a :: l).set ((a :: l).length - 1) ⟨(jy (a :: l)).apex,false,(jy (a :: l)).rrs++[x]⟩)=⟨(jy (a :: l)).apex,false,(jy (a :: l)).rrs++[x]⟩:=by
     conv=>lhs;unfold jy
     rw[lz,List.getD,p9,if_pos rfl,if_pos (by simp)]
     rfl
    refine .inl (.inr ⟨_,oneS l.length 1 [.all 4] (zF (a :: l) 3),rfl,h1,?_,lz,?_⟩)
    ·rw[h2]
     unfold recdK
     rw[hset,lz]
     rfl
    ·intro i hi
     rw [lz] at hi
     have hi:i<l.length+1:=hi
     by_cases hil:i=l.length
     ·subst hil
      rw[oneS_at _ _ _ _ _ hlast]
      unfold zF
      rw[lz,if_pos (show l.length+1=(a :: l).length from rfl),List.getD,p9,if_pos (show(a :: l).length - 1=l.length from rfl),if_pos (by simp)]
      rfl
     ·rw[qv7 _ _ (by omega)]
      unfold zF
      rw[lz,if_neg (by simp only[ou];omega),if_neg (by simp only[ou];omega),List.getD,List.getD,p9,if_neg (by simp only[ou];omega)]
theorem Fo.ok_f{f:Fo}(h:f.ok=true):f.Okf:=by
 unfold Fo.ok at h
 simp only [oq,ly] at h
 obtain⟨h1,h2,h3,h4,_,_,_,h5⟩:=h
 refine⟨h1,h2,h3,lw.1 h4,fun a ha b hb=>?_⟩
 unfold y9 at h5
 simp only [oq] at h5
 have:=lw.1 (lw.1 h5.2 a ha) b hb
 simp only [oq,ly] at this
 omega
theorem wsK(b s:List UInt8)(hs:b.length+s.length<=70368744177664):COk Tryz.prog 20 [.ptr 0 0,.d (.str s)] [bK b] (fun r k=>r = .tup [.d (.int .i64 s.length),.v .nilIface]/\k=[pk (Bst.fl (.live (b++s)))]):=by
 cases b with
 |nil =>
  refine(packIn (bw0_ok s (by simpa using hs))).imp fun r k ⟨b1,h1,h2,h3⟩=>?_
  subst h1 h3
  exact⟨h2,rfl⟩
 |cons c r =>
  refine(COk.thing Bst.fl (bw1_ok (c :: r) s hs) [] [] _ rfl rfl).imp fun r k ⟨s0,a1,⟨h1,h2⟩,h3,h4⟩=>?_
  subst h1 h2
  exact⟨by rw[h3];rfl,by rw[h4];rfl⟩
theorem wsL(b s:List UInt8)(hs:b.length+s.length<=70368744177664):COk Tryz.prog 20 [.ptr 0 0,.d (.str s)] [pk (Bst.fl (.live b))] (fun r k=>r = .tup [.d (.int .i64 s.length),.v .nilIface]/\k=[pk (Bst.fl (.live (b++s)))]):=by
 refine(COk.thing Bst.fl (bw1_ok b s hs) [] [] _ rfl rfl).imp fun r k ⟨s0,a1,⟨h1,h2⟩,h3,h4⟩=>?_
 subst h1 h2
 exact⟨by rw[h3];rfl,by rw[h4];rfl⟩
theorem wbL(b:List UInt8)(hs:b.length+1<=70368744177664):COk Tryz.prog 21 [.ptr 0 0,.d (.int .u8 10)] [pk (Bst.fl (.live b))] (fun r k=>r = .v .nilIface/\k=[pk (Bst.fl (.live (b++[10])))]):=by
 refine(COk.thing Bst.fl (yj b 10 hs) [] [] _ rfl rfl).imp fun r k ⟨s0,a1,⟨h1,h2⟩,h3,h4⟩=>?_
 subst h1 h2
 exact⟨by rw[h3];rfl,by rw[h4];rfl⟩
theorem jk7{l:List Zo}(h:∀ z ∈ l,z.ok=true/\∀ r ∈ z.rrs,r.In):(yr l).length<=2400000 * l.length:=by
 induction l with
 |nil=>exact pr _
 |cons a l ih =>
  have h1:=ih fun b hb=>h b (.tail _ hb)
  have h2:=zText_len (h a (.head _)).1 (h a (.head _)).2
  show(zText a++yr l).length<=_
  simp only[pv,ou]
  omega
theorem zTexts_ne{l:List Zo}(h:1<=l.length):yr l≠[]:=by
 cases l with
 |nil=>exact absurd h (by simp)
 |cons a l=>show(122 :: _)≠[];simp
theorem ja4{h:Int × Bool × List Int}(ha:0<=h.1/\h.1<=4294967295)(hz:∀ a ∈ h.2.2,0<=a/\a<10000000000)(hl:h.2.2.length<=4294967296):(ym h).length<=47244640300:=by
 have h1:=qd7 h.1.toNat (by omega)
 have h2:=qu7 hz
 unfold ym
 simp only[pv]
 show 5+_+_<=_
 omega
theorem jn0{l:List (Int × Bool × List Int)}(h:∀ a ∈ l,(ym a).length<=47244640300):(yt l).length<=47244640301 * l.length:=by
 induction l with
 |nil=>exact pr _
 |cons a l ih =>
  have h1:=ih fun b hb=>h b (.tail _ hb)
  have h2:=h a (.head _)
  show(ym a++[10]++yt l).length<=_
  simp only[pv,ou,gt]
  omega
theorem u3(f:Fo)(hf:f.Fit)(hi:f.In):FnOk Tryz.prog 8 [f.V] (.tup [.d (.str (jp f).1),.d (.int .i64 (jp f).2)]):=by
 refine qz (TT:=TT) (IN:=qi [(19,Tryz.f19,1),(47,Tryz.f47,2)]) qk (ju (ju qm Tryz.func47 (by kernel_rfl) (by kernel_rfl)) Tryz.func19 (by kernel_rfl) (by kernel_rfl)) mixed 1000 Tryz.func8 rfl (qe Tryz.func8 (by kernel_rfl) rfl) rfl 22 (by kernel_rfl) ?_
 conv=>whnf
 refine oD (qs8 f hf hi.Len) rfl rfl ?_
 cases hok:f.ok with
 |false =>
  rw[show jp f=([],2) by unfold jp;rw[hok];rfl,if_neg (by decide)]
  conv=>whnf
  repeat(first|(refine brF rfl ?_;conv=>whnf)|(refine brT rfl ?_;conv=>whnf))
  repeat'(first|exact ⟨⟩|exact rfl|exact fun _=>Iff.rfl|exact fun _ _=>rfl|exact renM_ent rfl _|apply And.intro)
 |true =>
  have hk:=Fo.ok_f hok
  rw[show jp f=(f.text,0) by unfold jp;rw[hok];rfl,if_pos rfl]
  conv=>whnf
  repeat(first|(refine brF rfl ?_;conv=>whnf)|(refine brT rfl ?_;conv=>whnf))
  refine .inv Nat (fun i=>i<=f.zones.length) (fun i=>[(14,.d (.int .i64 i))]) (fun i=>[(3,bK (yr (f.zones.take i)))]) (fun i=>f.zones.length - i) ⟨0,[0,1,2,3,4,5],p6 _,?_⟩ ?_
  ·conv=>whnf
   repeat'(first|exact ⟨⟩|exact rfl|exact(fun _ _ _ _ h=>⟨jb _,h⟩)|exact fun _=>Iff.rfl|exact fun _ _=>rfl|apply And.intro)
  intro i hil
  have hTl:=jk7 (l:=f.zones.take i) fun z hz=>⟨hk.zone z (gp hz),hi.rr z (gp hz)⟩
  have hTk:(f.zones.take i).length<=64:=by have:=hk.nz;rw[lu];omega
  obtain⟨T,hT⟩:∃ T,T=yr (f.zones.take i):=⟨_,rfl⟩
  rw [<-hT] at hTl ⊢
  rcases T with _|⟨c1,T⟩
  all_goals
   conv=>whnf
   refine⟨fun c0=>?_,fun c0=>?_⟩
   ·have c0':i<f.zones.length:=(by have h:(i:Int)<f.zones.length:=pw c0;omega)
    obtain⟨z,hz⟩:∃ z,f.zones.getD i default=z:=⟨_,rfl⟩
    have hz2:f.zones[i]? = some z:=by rw[<-hz,List.getD,pp c0'];rfl
    have hzm:=oy hz2
    have hzo:=hk.zone z hzm
    have hzi:=hi.rr z hzm
    have hn:=Zo.ok_name hzo
    have hnl:=qt5 hn
    have hzl:(ke z).length<=1100:=by unfold ke;rw[pv];show 5+_<=_;omega
    have hrl:=Zo.ok_len hzo
    conv=>whnf
    refine⟨by omega,?_⟩
    conv=>whnf
    rw[pz,hz]
    refine oD (print_ok z.apex) rfl rfl ?_
    rw[show qk4 z.apex=(txtN z.apex,0) from if_pos hn]
    conv=>whnf
    refine⟨by show 5+(txtN z.apex).length<=_;omega,?_⟩
    conv=>whnf
    repeat(first|(refine brF rfl ?_;conv=>whnf)|(refine brT rfl ?_;conv=>whnf))
    first
     |refine .rel _ (COk.frameX (wsK (c1 :: T) (ke z) (by simp only [ou] at hTl ⊢;omega)) [3] rfl rfl rfl) (fun x ks' hR=>?_)
     |refine .rel _ (COk.frameX (wsK [] (ke z) (by simp only[gt];omega)) [3] rfl rfl rfl) (fun x ks' hR=>?_)
    obtain⟨_,_,⟨rfl,rfl⟩,rfl,rfl⟩:=hR
    conv=>whnf
    refine .rel _ (COk.frameX (wbL _ (by simp only [pv,ou,gt] at hTl ⊢;omega)) [3] rfl rfl rfl) (fun x ks' hR=>?_)
    obtain⟨_,_,⟨rfl,rfl⟩,rfl,rfl⟩:=hR
    conv=>whnf
    repeat(first|(refine brF rfl ?_;conv=>whnf)|(refine brT rfl ?_;conv=>whnf))
    obtain⟨B,hB⟩:∃ B,B=yr (f.zones.take i)++ke z++[10]:=⟨_,rfl⟩
    have hBl:B.length<=2400000 * 64+1101:=by rw [hB,<-hT];simp only [pv,ou,gt] at hTl ⊢;omega
    have hB0:=hB
    rw [<-hT] at hB
    rw[<-hB]
    refine .inv Nat (fun j=>j<=z.rrs.length) (fun j=>[(33,.d (.int .i64 j))]) (fun j=>[(3,pk (Bst.fl (.live (B++yk (z.rrs.take j)))))]) (fun j=>z.rrs.length - j) ⟨0,[0,1,2,3,4,5,6],p6 _,?_⟩ ?_
    ·rw[show B++yk (z.rrs.take 0)=B by simp[yk]]
     conv=>whnf
     repeat'(first|exact ⟨⟩|exact rfl|exact(fun _ _ _ _ h=>⟨jb _,h⟩)|exact fun _=>Iff.rfl|exact fun _ _=>rfl|apply And.intro)
    intro j hj
    have hDl:=jl8 (l:=z.rrs.take j) fun r hr=>qn6 (Zo.ok_rr hzo r (gp hr)) (hzi r (gp hr))
    have hDk:(z.rrs.take j).length<=256:=by rw[lu];omega
    obtain⟨D,hD⟩:∃ D,D=B++yk (z.rrs.take j):=⟨_,rfl⟩
    have hDD:D.length<=B.length+2400000:=by rw[hD,pv];omega
    rw[<-hD]
    conv=>whnf
    refine⟨fun c1=>?_,fun c1=>?_⟩
    ·have c1':j<z.rrs.length:=(by have h:(j:Int)<z.rrs.length:=pw c1;omega)
     obtain⟨r,hr⟩:∃ r,z.rrs.getD j default=r:=⟨_,rfl⟩
     have hr2:z.rrs[j]? = some r:=by rw[<-hr,List.getD,pp c1'];rfl
     have hrm:=oy hr2
     have hrc:=Zo.ok_rr hzo r hrm
     have hri:=hzi r hrm
     have hrl:=qn6 hrc hri
     have htk:B++yk (z.rrs.take (j+1))=D++r.line++[10]:=by rw[m5,hr2,hD];show B++yk (z.rrs.take j++[r])=_;rw[rLines_snoc];simp
     have hw1:=w64s j (by omega)
     conv=>whnf
     refine⟨by omega,?_⟩
     conv=>whnf
     rw[pz,hr]
     refine oD (line_ok r hri) rfl rfl ?_
     rw[show r.lineV=(r.line,0) by unfold RR.lineV;rw[hrc];rfl]
     conv=>whnf
     repeat(first|(refine brF rfl ?_;conv=>whnf)|(refine brT rfl ?_;conv=>whnf))
     refine .rel _ (COk.frameX (wsL D r.line (by omega)) [3] rfl rfl rfl) (fun x ks' hR=>?_)
     obtain⟨_,_,⟨rfl,rfl⟩,rfl,rfl⟩:=hR
     conv=>whnf
     refine .rel _ (COk.frameX (wbL (D++r.line) (by rw[pv];omega)) [3] rfl rfl rfl) (fun x ks' hR=>?_)
     obtain⟨_,_,⟨rfl,rfl⟩,rfl,rfl⟩:=hR
     conv=>whnf
     repeat(first|(refine brF rfl ?_;conv=>whnf)|(refine brT rfl ?_;conv=>whnf))
     refine⟨j+1,[0,1,2,3,4,5,6],c1',by omega,?_⟩
     rw[htk]
     conv=>whnf
     rw[hw1]
     repeat'(first|exact ⟨⟩|exact rfl|exact(fun _ _ _ _ h=>⟨jb _,h⟩)|exact fun _=>Iff.rfl|exact fun _ _=>rfl|apply And.intro)
     done
    ·have c1':j=z.rrs.length:=(by have h:¬ (j:Int)<z.rrs.length:=px c1;omega)
     subst c1'
     rw [lx] at hD
     have htk:yr (f.zones.take (i+1))=D:=by rw[m5,hz2,hD,hB0];show yr (f.zones.take i++[z])=_;rw[zTexts_snoc];unfold zText;simp
     have hDb:bK D=pk (Bst.fl (.live D)):=qj7 (by rw[hD,hB];simp)
     have hw1:IntKind.i64.wrap ((i:Int)+1)=((i+1:Nat):Int):=by have:=hk.nz;rw[qd _ (by omega)];omega
     conv=>whnf
     refine⟨i+1,[0,1,2,3,4,5],c0',by omega,?_⟩
     rw[htk,hDb]
     conv=>whnf
     rw[hw1]
     repeat'(first|exact ⟨⟩|exact rfl|exact(fun _ _ _ _ h=>⟨jb _,h⟩)|exact fun _=>Iff.rfl|exact fun _ _=>rfl|apply And.intro)
     done
   ·have c0':i=f.zones.length:=(by have h:¬ (i:Int)<f.zones.length:=px c0;omega)
    subst c0'
    rw [lx] at hT hTl
    have hne:=zTexts_ne hk.one
    try exact absurd hT.symm hne
    all_goals
     obtain⟨P,hP⟩:∃ P,P=c1 :: T:=⟨_,rfl⟩
     have hPl:P.length<=2400000 * 64:=by rw[hP];have:=hk.nz;omega
     have hPT:P=yr f.zones:=by rw[hP,hT]
     have hPb:bK (c1 :: T)=pk (Bst.fl (.live P)):=by rw[hP];rfl
     conv=>whnf
     refine .inv Nat (fun j=>j<=f.hosts.length) (fun j=>[(49,.d (.int .i64 j))]) (fun j=>[(3,pk (Bst.fl (.live (P++yt (f.hosts.take j)))))]) (fun j=>f.hosts.length - j) ⟨0,[0,1,2,3,4,5],p6 _,?_⟩ ?_
     ·rw[show P++yt (f.hosts.take 0)=P by simp[yt],hP]
      conv=>whnf
      repeat'(first|exact ⟨⟩|exact rfl|exact(fun _ _ _ _ h=>⟨jb _,h⟩)|exact fun _=>Iff.rfl|exact fun _ _=>rfl|apply And.intro)
     intro j hj
     have hDl:=jn0 (l:=f.hosts.take j) fun a ha=>ja4 (hi.addr a (gp ha)) (fun b hb=>by have:=hk.host a (gp ha) b hb;omega) (hi.len a (gp ha))
     have hDk:(f.hosts.take j).length<=64:=by have:=hk.nh;rw[lu];omega
     obtain⟨D,hD⟩:∃ D,D=P++yt (f.hosts.take j):=⟨_,rfl⟩
     have hDD:D.length<=P.length+47244640301 * 64:=by rw[hD,pv];omega
     rw[<-hD]
     conv=>whnf
     refine⟨fun c1=>?_,fun c1=>?_⟩
     ·have c1':j<f.hosts.length:=(by have h:(j:Int)<f.hosts.length:=pw c1;omega)
      obtain⟨r,hr⟩:∃ r,f.hosts.getD j default=r:=⟨_,rfl⟩
      have hr2:f.hosts[j]? = some r:=by rw[<-hr,List.getD,pp c1'];rfl
      have hrm:=oy hr2
      have hz64:∀ b ∈ r.2.2,0<=b/\b<10000000000:=fun b hb=>by have:=hk.host r hrm b hb;omega
      have hrl:=ja4 (hi.addr r hrm) hz64 (hi.len r hrm)
      have htk:P++yt (f.hosts.take (j+1))=D++ym r++[10]:=by rw[m5,hr2,hD];show P++yt (f.hosts.take j++[r])=_;rw[hTexts_snoc];simp
      have hw1:IntKind.i64.wrap ((j:Int)+1)=((j+1:Nat):Int):=by have:=hk.nh;rw[qd _ (by omega)];omega
      conv=>whnf
      refine⟨by omega,?_⟩
      conv=>whnf
      rw[pz,hr]
      refine oD (hostLine_ok r (hi.addr r hrm) hz64 (hi.len r hrm)) rfl rfl ?_
      conv=>whnf
      repeat(first|(refine brF rfl ?_;conv=>whnf)|(refine brT rfl ?_;conv=>whnf))
      refine .rel _ (COk.frameX (wsL D (ym r) (by omega)) [3] rfl rfl rfl) (fun x ks' hR=>?_)
      obtain⟨_,_,⟨rfl,rfl⟩,rfl,rfl⟩:=hR
      conv=>whnf
      refine .rel _ (COk.frameX (wbL (D++ym r) (by rw[pv];omega)) [3] rfl rfl rfl) (fun x ks' hR=>?_)
      obtain⟨_,_,⟨rfl,rfl⟩,rfl,rfl⟩:=hR
      conv=>whnf
      repeat(first|(refine brF rfl ?_;conv=>whnf)|(refine brT rfl ?_;conv=>whnf))
      refine⟨j+1,[0,1,2,3,4,5],c1',by omega,?_⟩
      rw[htk]
      conv=>whnf
      rw[hw1]
      repeat'(first|exact ⟨⟩|exact rfl|exact(fun _ _ _ _ h=>⟨jb _,h⟩)|exact fun _=>Iff.rfl|exact fun _ _=>rfl|apply And.intro)
      done
     ·have c1':j=f.hosts.length:=(by have h:¬ (j:Int)<f.hosts.length:=px c1;omega)
      subst c1'
      rw [lx] at hD
      have hfin:f.text=D:=by rw[hD,hPT];rfl
      rw[hfin]
      conv=>whnf
      refine .rel _ (COk.frameX ((COk.thing Bst.fl (bs_ok D (by omega)) [] [] _ rfl rfl).imp (R':=fun r k=>r = .d (.str D)/\k=[pk (Bst.fl .dead)]) fun r k ⟨s0,a1,⟨h1,h2⟩,h3,h4⟩=>by subst h1 h2;exact⟨by rw[h3];rfl,by rw[h4];rfl⟩) [3] rfl rfl rfl) (fun x ks' hR=>?_)
      obtain⟨_,_,⟨rfl,rfl⟩,rfl,rfl⟩:=hR
      conv=>whnf
      repeat'(first|exact ⟨⟩|exact rfl|exact(fun _ _ _ _ h=>⟨jb _,h⟩)|exact fun _=>Iff.rfl|exact fun _ _=>rfl|apply And.intro)
      done
def zd(zs:List Zo)(hs:List Ho)(s:List UInt8):Option (List Zo × List Ho) :=
 if (cutB s 32).1=[122,111,110,101]/\(cutB s 32).2.2=true then (kx zs hs (cutB s 32).2.1).map fun z=>(z,hs)
 else if (cutB s 32).1=[104,111,115,116]/\(cutB s 32).2.2=true then (hosP hs (cutB s 32).2.1).map fun h=>(zs,h)
 else (recP zs hs s).map fun z=>(z,hs)
def yx:Nat->List Zo->List Ho->List UInt8->Option (List Zo × List Ho)
 |0,_,_,_=>none
 |n+1,zs,hs,t=>if t=[] then some (zs,hs) else if (cutB t 10).2.2=true then (match zd zs hs (cutB t 10).1 with
  |some p=>yx n p.1 p.2 (cutB t 10).2.1
  |none=>none) else none
def mkF(zs:List Zo)(hs:List Ho):Fo:=⟨Nat.beq zs.length 0,zs,Nat.beq hs.length 0,hs⟩
def nilF:Fo:=⟨true,[],true,[]⟩
def zw(s:List UInt8):Fo × Int:=match yx (s.length+1) [] [] s with
 |none=>(nilF,6)
 |some p=>if jp (mkF p.1 p.2)=(s,0) then (mkF p.1 p.2,0) else (nilF,6)
structure RdOk(zs:List Zo)(hs:List Ho):Prop where
 nz:Nz zs
 nh:∀ h ∈ hs,h.2.1=Nat.beq h.2.2.length 0
 n64:zs.length<=64
 h64:hs.length<=64
 zl:∀ z ∈ zs,z.apex.length<=255/\z.rrs.length<=256/\∀ r ∈ z.rrs,r.check=true/\r.In
 hl:∀ h ∈ hs,0<=h.1/\h.1<=4294967295/\h.2.2.length<=1000001
theorem RdOk.init:RdOk [] []:=⟨fun _ h=>(by cases h),fun _ h=>(by cases h),by decide,by decide,fun _ h=>(by cases h),fun _ h=>(by cases h)⟩
theorem parseT_len(s:List UInt8):(jx s).1.length<=255:=by
 unfold jx
 split
 ·exact p6 _
 ·split
  ·decide
  ·split
   ·exact p6 _
   ·split
    ·rename_i h;exact h.2
    ·exact p6 _
theorem lastZ_mem{zs:List Zo}(h:zs≠[]):jy zs ∈ zs:=by
 unfold jy
 have:0<zs.length:=d7.2 h
 rw[List.getD,pp (by omega)]
 exact gv _
theorem RdOk.zone{zs zs':List Zo}{hs:List Ho}{s:List UInt8}(h:RdOk zs hs)(e:kx zs hs s=some zs'):RdOk zs' hs:=by
 unfold kx at e
 split at e
 ·cases e
 ·rename_i hc
  cases e
  have:=h.n64
  refine⟨fun z hz=>?_,h.nh,?_,h.h64,fun z hz=>?_,h.hl⟩
  ·rcases mn.1 hz with hz|hz
   ·exact h.nz z hz
   ·cases gw.1 hz;rfl
  ·rw[pv]
   have:zs.length≠64:=fun e=>hc (.inr (.inl e))
   simp;omega
  ·rcases mn.1 hz with hz|hz
   ·exact h.zl z hz
   ·cases gw.1 hz
    exact⟨parseT_len s,p6 _,fun r hr=>(by cases hr)⟩
theorem RdOk.recd{zs zs':List Zo}{hs:List Ho}{s:List UInt8}(h:RdOk zs hs)(e:recP zs hs s=some zs'):RdOk zs' hs:=by
 unfold recP at e
 split at e
 ·cases e
 ·rename_i hc
  have hne:zs≠[]:=fun e=>hc (.inl e)
  cases hp:yv s with
  |none=>rw [hp] at e;cases e
  |some r =>
   rw [hp] at e
   cases e
   obtain⟨q1,q2⟩:=parseR_some hp
   have q3:=parseR_in hp
   obtain⟨z1,z2,z3⟩:=h.zl _ (lastZ_mem hne)
   have z4:(jy zs).rrs.length≠256:=fun e=>hc (.inr (.inr e))
   refine⟨fun z hz=>?_,h.nh,by rw[lz];exact h.n64,h.h64,fun z hz=>?_,h.hl⟩
   ·rcases List.mem_or_eq_of_mem_set hz with hz|rfl
    ·exact h.nz z hz
    ·show false=Nat.beq ((jy zs).rrs++[r]).length 0
     rw[pv];rfl
   ·rcases List.mem_or_eq_of_mem_set hz with hz|rfl
    ·exact h.zl z hz
    ·refine⟨z1,?_,fun x hx=>?_⟩
     ·show((jy zs).rrs++[r]).length<=256
      rw[pv];simp;omega
     ·rcases mn.1 hx with hx|hx
      ·exact z3 x hx
      ·cases gw.1 hx;exact⟨q1,q3⟩
theorem atsR_len:∀ (n:Nat) (r:List UInt8) (b:Bool) (l q:List Int),atsR n r b l=some q->q.length<=l.length+n
 |0,_,_,l,q,h=>by cases h;exact pr _
 |n+1,r,false,l,q,h=>by cases h;omega
 |n+1,r,true,l,q,h=>by
  cases hn:y6 (cutB r 32).1 with
  |error c=>rw [atsR_err hn] at h;cases h
  |ok k =>
   rw [atsR_ok hn] at h
   have:=atsR_len n _ _ _ _ h
   rw [pv] at this
   simp at this
   omega
theorem hostP_in{s:List UInt8}{h:Ho}(hs:s.length<=1000000)(e:vx s=some h):h.2.1=Nat.beq h.2.2.length 0/\0<=h.1/\h.1<=4294967295/\h.2.2.length<=1000001:=by
 cases hw:yb 32 (cutB s 32).1 with
 |none=>unfold vx at e;rw [hw] at e;cases e
 |some a =>
  rw [jc9 hw] at e
  have ha:a<=4294967295:=qc6 hw
  cases hq:atsR (s.length+1) (cutB s 32).2.1 (cutB s 32).2.2 [] with
  |none=>rw [hq] at e;cases e
  |some q =>
   rw [hq] at e
   cases e
   have:=atsR_len _ _ _ _ _ hq
   refine⟨rfl,by show(0:Int)<=a;omega,by show(a:Int)<=_;omega,?_⟩
   show q.length<=_
   simp at this
   omega
theorem RdOk.host{zs:List Zo}{hs hs':List Ho}{s:List UInt8}(h:RdOk zs hs)(hl:s.length<=1000000)(e:hosP hs s=some hs'):RdOk zs hs':=by
 unfold hosP at e
 split at e
 ·cases e
 ·rename_i hc
  cases hp:vx s with
  |none=>rw [hp] at e;cases e
  |some r =>
   rw [hp] at e
   cases e
   have q:=hostP_in hl hp
   have:=h.h64
   refine⟨h.nz,fun z hz=>?_,h.n64,by rw[pv];simp;omega,h.zl,fun z hz=>?_⟩
   ·rcases mn.1 hz with hz|hz
    ·exact h.nh z hz
    ·cases gw.1 hz;exact q.1
   ·rcases mn.1 hz with hz|hz
    ·exact h.hl z hz
    ·cases gw.1 hz;exact q.2
theorem RdOk.line{zs zs':List Zo}{hs hs':List Ho}{s:List UInt8}(h:RdOk zs hs)(hl:s.length<=1000000)(e:zd zs hs s=some (zs',hs')):RdOk zs' hs':=by
 have hl2:=(qi6 s 32).2.1
 unfold zd at e
 split at e
 ·rw [l8] at e
  obtain⟨z,e1,e2⟩:=e
  cases e2
  exact h.zone e1
 ·split at e
  ·rw [l8] at e
   obtain⟨z,e1,e2⟩:=e
   cases e2
   exact h.host (by omega) e1
  ·rw [l8] at e
   obtain⟨z,e1,e2⟩:=e
   cases e2
   exact h.recd e1
theorem RdOk.fit{zs:List Zo}{hs:List Ho}(h:RdOk zs hs):(mkF zs hs).Fit:=fun z hz=>by
 obtain⟨h1,h2,h3⟩:=h.zl z hz
 refine⟨by omega,fun r hr=>?_⟩
 obtain⟨q1,q2⟩:=h3 r hr
 have:=(qm6 q1).2.1
 have:=qt3 q1
 omega
theorem RdOk.in{zs:List Zo}{hs:List Ho}(h:RdOk zs hs):(mkF zs hs).In:=⟨fun z hz r hr=>((h.zl z hz).2.2 r hr).2,fun x hx=>⟨(h.hl x hx).1,(h.hl x hx).2.1⟩,fun x hx=>by have:=(h.hl x hx).2.2;omega⟩
theorem cOk_view{P:Program}{TT:Nat->Option TI}(hTT:TTok P TT){f:FuncId}{al al':List SV}{tl:List TypeId}{ks:List KB}{r:SV}{fr:List Nat}(hok:FnOk P f al' r)(hview:w8 TT ks al tl (fun l t=>l=al'/\t=fr))(hcl:xh al'=true)(hsc:scalar r=true):COk P f al ks (fun s k=>s=r/\k=ks) :=
 ⟨hok.1,fun X w β fp vs hM hl hd=>by
  obtain⟨l',fr',⟨rfl,rfl⟩,e1,e2,e3⟩:=qe5 hTT hM.toMem0 _ _ _ _ hview hl hd
  refine(qe9 hok hM.vo.no (fun b hb=>hM.mlt b (hM.goneM fr' b hb)) (by omega) (e3 fr' (fun _ h=>h)) hcl).mono ?_
  rintro e w' ⟨v,rfl,hst,hden⟩
  exact⟨v,_,_,β,fp,rfl,⟨rfl,rfl⟩,hM.quiet hst,hden.scalar hsc _ _ _⟩⟩
theorem textD(z:Z)(zs:List Zo)(hs:List Ho)(h:RdOk zs hs)(hz:z = .iff/\zs=[]\/z = .no/\zs≠[]):COk Tryz.prog 8 [.agg [.all 1,.all 2]] [.cells 79 [.all 1,.all 2],.row 58 2 zs.length z (zE zs),hB hs,.gone]
 (fun r k=>r = .tup [.d (.str (jp (mkF zs hs)).1),.d (.int .i64 (jp (mkF zs hs)).2)]/\k=[.cells 79 [.all 1,.all 2],.row 58 2 zs.length z (zE zs),hB hs,.gone]):=by
 rcases hz with⟨rfl,rfl⟩|⟨rfl,hz⟩
 ·exact cOk_view (TT:=TT) qk (tl:=[25]) (u3 _ h.fit h.in) ⟨rfl,rfl⟩ rfl rfl
 ·obtain⟨a,l,rfl⟩:∃ a l,zs=a :: l:=by cases zs with|nil=>exact absurd rfl hz|cons a l=>exact⟨a,l,rfl⟩
  exact cOk_view (TT:=TT) qk (tl:=[25]) (u3 _ h.fit h.in) ⟨rfl,rfl⟩ rfl rfl
def zk(zs:List Zo):Z:=if zs=[] then .iff else .no
theorem textR(zs:List Zo)(hs:List Ho)(h:RdOk zs hs):COk Tryz.prog 8 [.agg [.all 1,.all 2]] (rdK zs hs)
 (fun r k=>r = .tup [.d (.str (jp (mkF zs hs)).1),.d (.int .i64 (jp (mkF zs hs)).2)]/\k=[.cells 79 [.all 1,.all 2],.row 58 2 zs.length (zk zs) (zE zs),hB hs,.gone]):=by
 cases zs with
 |nil=>exact textD .iff [] hs h (.inl ⟨rfl,rfl⟩)
 |cons a l=>exact(textD .no (a :: l) hs h (.inr ⟨rfl,by simp⟩)).ahead fun X w β fp hM=>freezeR a l hs h.nz hM
theorem readF_end{m:Nat}{zs:List Zo}{hs:List Ho}:yx (m+1) zs hs []=some (zs,hs):=rfl
theorem qs2{m:Nat}{zs:List Zo}{hs:List Ho}{t:List UInt8}(h:t≠[])(h1:(cutB t 10).2.2=false):yx (m+1) zs hs t=none:=by
 unfold yx
 rw[if_neg h,if_neg (by rw[h1];decide)]
theorem qh0{m:Nat}{zs:List Zo}{hs:List Ho}{t:List UInt8}(h:t≠[])(h1:(cutB t 10).2.2=true)(h2:zd zs hs (cutB t 10).1=none):yx (m+1) zs hs t=none:=by
 unfold yx
 rw[if_neg h,if_pos h1,h2]
theorem qe8{m:Nat}{zs:List Zo}{hs:List Ho}{t:List UInt8}{p:List Zo × List Ho}(h:t≠[])(h1:(cutB t 10).2.2=true)(h2:zd zs hs (cutB t 10).1=some p):yx (m+1) zs hs t=yx m p.1 p.2 (cutB t 10).2.1:=by
 conv=>lhs;unfold yx
 rw[if_neg h,if_pos h1,h2]
inductive Short:List UInt8->Prop
 |last (l:List UInt8):(10:UInt8) ∉ l->l.length<=1000000->Short l
 |cons (l r:List UInt8):(10:UInt8) ∉ l->l.length<=1000000->Short r->Short (l++10 :: r)
theorem ne_of_no{c:UInt8}{l:List UInt8}(h:c ∉ l):∀ b ∈ l,b≠c:=fun b hb e=>h (e ▸ hb)
theorem qi7{c:UInt8}(l r:List UInt8)(h:c ∉ l):cutB (l++c :: r) c=(l,r,true):=by
 unfold cutB
 rw[idx_cat c l r (ne_of_no h),if_neg (by omega)]
 simp
theorem cutB_no{c:UInt8}(l:List UInt8)(h:c ∉ l):cutB l c=(l,[],false):=by
 unfold cutB
 rw[jc8 c l (ne_of_no h),if_pos (by decide)]
theorem Short.cut{t:List UInt8}(h:Short t):(cutB t 10).1.length<=1000000/\Short (cutB t 10).2.1:=by
 cases h with
 |last _ h1 h2=>rw[cutB_no t h1];exact⟨h2,.last _ (by simp) (by simp)⟩
 |cons l r h1 h2 h3=>rw[qi7 l r h1];exact⟨h2,h3⟩
theorem Short.of:∀ (n:Nat) (t:List UInt8),t.length<=n->n<=1000000->Short t
 |0,t,h,_=>.last t (by rw[fy (Nat.le_zero.1 h)];simp) (by omega)
 |n+1,t,h,hn=>by
  by_cases hm:(10:UInt8) ∈ t
  ·obtain⟨l,r,rfl,h1⟩:=List.eq_append_cons_of_mem hm
   rw [pv,ou] at h
   exact .cons l r h1 (by omega) (Short.of n r (by omega) (by omega))
  ·exact .last t hm (by omega)
theorem recP_nil(hs:List Ho)(s:List UInt8):recP [] hs s=none:=if_pos (.inl rfl)
theorem zoneP_ne{zs zs':List Zo}{hs:List Ho}{s:List UInt8}(e:kx zs hs s=some zs'):∃ a l,zs'=a :: l:=by
 unfold kx at e
 split at e
 ·cases e
 ·cases e
  cases zs with
  |nil=>exact⟨_,_,rfl⟩
  |cons a l=>exact⟨_,_,rfl⟩
theorem zoneP_rrs{zs zs':List Zo}{hs:List Ho}{s:List UInt8}(e:kx zs hs s=some zs'):(jy zs').rrs=[]:=by
 unfold kx at e
 split at e
 ·cases e
 ·cases e
  unfold jy
  rw[pv,List.getD,o4 (by simp)]
  simp
theorem jm8{zs:List Zo}{hs:List Ho}{c:List UInt8}(h1:((cutB c 32).1 == [122,111,110,101])=true)(h2:(cutB c 32).2.2=true):zd zs hs c=(kx zs hs (cutB c 32).2.1).map fun z=>(z,hs):=if_pos ⟨by simpa using h1,h2⟩
theorem jm9{zs:List Zo}{hs:List Ho}{c:List UInt8}(h1:((cutB c 32).1 == [122,111,110,101])=false)(h2:((cutB c 32).1 == [104,111,115,116])=true)(h3:(cutB c 32).2.2=true):zd zs hs c=(hosP hs (cutB c 32).2.1).map fun z=>(zs,z):=by
 unfold zd
 rw [if_neg (by rintro ⟨h,_⟩;rw [h] at h1;cases h1),if_pos ⟨by simpa using h2,h3⟩]
theorem line_case(zs:List Zo)(hs:List Ho)(c:List UInt8):(((cutB c 32).1 == [122,111,110,101])=true/\(cutB c 32).2.2=true)\/(((cutB c 32).1 == [122,111,110,101])=false/\((cutB c 32).1 == [104,111,115,116])=true/\(cutB c 32).2.2=true)\/(zd zs hs c=(recP zs hs c).map (fun z=>(z,hs))/\((((cutB c 32).1 == [122,111,110,101])=false/\((cutB c 32).1 == [104,111,115,116])=false)\/(((cutB c 32).1 == [122,111,110,101])=true/\((cutB c 32).1 == [104,111,115,116])=false/\(cutB c 32).2.2=false)\/(((cutB c 32).1 == [122,111,110,101])=false/\((cutB c 32).1 == [104,111,115,116])=true/\(cutB c 32).2.2=false))):=by
 unfold zd
 cases hz:((cutB c 32).1 == [122,111,110,101]) <;> cases hh:((cutB c 32).1 == [104,111,115,116]) <;> cases hm:(cutB c 32).2.2
 ·refine .inr (.inr ⟨?_,.inl ⟨rfl,rfl⟩⟩);rw[if_neg (by simp),if_neg (by simp)]
 ·refine .inr (.inr ⟨?_,.inl ⟨rfl,rfl⟩⟩);rw [if_neg (by rintro ⟨h,_⟩;rw [h] at hz;cases hz),if_neg (by rintro ⟨h,_⟩;rw [h] at hh;cases hh)]
 ·refine .inr (.inr ⟨?_,.inr (.inr ⟨rfl,rfl,rfl⟩)⟩);rw[if_neg (by simp),if_neg (by simp)]
 ·exact .inr (.inl ⟨rfl,rfl,rfl⟩)
 ·refine .inr (.inr ⟨?_,.inr (.inl ⟨rfl,rfl,rfl⟩)⟩);rw[if_neg (by simp),if_neg (by simp)]
 ·exact .inl ⟨rfl,rfl⟩
 ·have h1:=(m8).1 hz
  have h2:=(m8).1 hh
  rw [h1] at h2;exact absurd h2 (by decide)
 ·exact .inl ⟨rfl,rfl⟩
theorem rd_map(zs:List Zo)(hs:List Ho):[.cells 79 [.all 2,.all 3],zB 4 zs,hB hs,rB zs]=mapB (sig [1,2,3,4] 5) (rdK zs hs):=by
 cases zs with
 |nil=>rfl
 |cons a l =>
  have:(fun i=>mapL (sig [1,2,3,4] 5) (zF (a :: l) 3 i))=zF (a :: l) 4:=by
   funext i
   unfold zF
   split
   ·rfl
   ·rfl
  show[KB.cells _ _,.rows 58 2 (l.length+1) (zF (a :: l) 4),hB hs,rB (a :: l)]=_
  rw[<-this]
  rfl
theorem subZF{F:Nat->List SV}{zs:List Zo}{q:Nat}{ρ:List Nat}{σ:Nat->Nat}(hF:∀ i,i<zs.length->F i=zF zs q i)(hp:posN (σ q) ρ 0=some 4)(i:Nat)(hi:i<zs.length):SubL (renL ρ (mapL σ (F i))) (zF zs 4 i):=by
 rw[hF i hi]
 unfold zF
 split
 ·refine⟨rfl,?_,True.intro⟩
  show SubV (match posN (σ q) ρ 0 with|some p=>SV.all p|none=>.any) _
  rw[hp]
  exact rfl
 ·exact⟨rfl,subV_data _,True.intro⟩
structure StP where
 n:Nat
 t:List UInt8
 zs:List Zo
 hs:List Ho
theorem qm8(s:List UInt8)(hs:s.length<=1099511627776)(hS:Short s):FnOk Tryz.prog 10 [.d (.str s)] (.tup [(zw s).1.V,.d (.int .i64 (zw s).2)]):=by
 refine qz (TT:=TT) (IN:=qi [(28,Tryz.f28,2)]) qk (ju qm Tryz.func28 (by kernel_rfl) (by kernel_rfl)) mixed 1000 Tryz.func10 rfl (qe Tryz.func10 (by kernel_rfl) rfl) rfl 44 (by kernel_rfl) ?_
 generalize hK:zw s=K
 conv=>whnf
 refine .nilC 1 0 58 2 (zE []) _ _ _ _ rfl rfl ?_
 conv=>whnf
 refine .nilC 1 1 32 2 (hF []) _ _ _ _ rfl rfl ?_
 conv=>whnf
 refine .pad ?_
 conv=>whnf
 obtain⟨A,hA⟩:∃ A,A=yx (s.length+1) [] [] s:=⟨_,rfl⟩
 unfold zw at hK
 rw [<-hA] at hK
 refine .inv StP (fun x=>yx x.n x.zs x.hs x.t=A/\x.t.length<x.n/\x.t.length<=1099511627776/\Short x.t/\RdOk x.zs x.hs) (fun x=>[(5,.d (.str x.t)),(6,.any),(7,.any),(8,.any)]) (fun x=>[(2,zB 4 x.zs),(3,hB x.hs),(4,rB x.zs)]) (fun x=>x.n) ⟨⟨s.length+1,s,[],[]⟩,[0,1,2,3,4],⟨hA.symm,l6 _,hs,hS,.init⟩,?_⟩ ?_
 ·conv=>whnf
  repeat'(first|exact ⟨⟩|exact rfl|exact(fun _ _ _ _ h=>⟨jb _,h⟩)|exact fun _=>Iff.rfl|exact fun _ _=>rfl|apply And.intro)
  done
 rintro ⟨n,t,zs,hs⟩ ⟨i1,i2,i3,iS,i4⟩
 replace i1:yx n zs hs t=A:=i1
 replace i2:t.length<n:=i2
 replace i3:t.length<=1099511627776:=i3
 replace iS:Short t:=iS
 replace i4:RdOk zs hs:=i4
 obtain⟨m,rfl⟩:∃ m,n=m+1:=⟨n - 1,by omega⟩
 obtain⟨c1,c2,c3⟩:=qi6 t 10
 obtain⟨c,hc⟩:∃ c,c=(cutB t 10).1:=⟨_,rfl⟩
 obtain⟨d1,d2,d3⟩:=qi6 c 32
 obtain⟨iS1,iS2⟩:=iS.cut
 rw [<-hc] at c1 iS1
 have hN:=i4.n64
 have hmap:=rd_map zs hs
 have hzone:∀ s:List UInt8,_:=fun s=>zone_ok zs hs s (by omega) i4.nz
 have hhost:∀ s:List UInt8,s.length<=1000000->_:=fun s h=>host_ok zs hs s (by have:=i4.h64;omega) h
 have hrec:∀ s:List UInt8,s.length<=1000000->_:=fun s h=>rec_ok zs hs s (by omega) (by
  cases zs with
  |nil=>exact p6 _
  |cons a l=>have:=(i4.zl _ (lastZ_mem (zs:=a :: l) (by simp))).2.1;omega) h
 have htext:=textR zs hs i4
 obtain⟨T,hT⟩:∃ T,T=jp (mkF zs hs):=⟨_,rfl⟩
 rw [<-hT] at htext
 have hcase:=line_case zs hs c
 rcases zs with _|⟨a,l⟩
 all_goals
  conv=>whnf
  refine⟨fun h0=>?_,fun h0=>?_⟩
  ·have h0:t≠[]:=by rintro rfl;cases h0
   conv=>whnf
   refine oD (qw4 t 10 (by omega)) rfl rfl ?_
   rw[<-hc]
   conv=>whnf
   refine⟨fun h1=>?_,fun h1=>?_⟩
   ·have h1:(cutB t 10).2.2=false:=by simpa using h1
    rw [qs2 h0 h1] at i1
    rw [<-i1] at hK
    subst hK
    conv=>whnf
    repeat'(first|exact ⟨⟩|exact rfl|exact fun _=>Iff.rfl|exact fun _ _=>rfl|exact renM_ent rfl _|apply And.intro)
    all_goals first|exact .inl rfl|exact noI
   have h1:(cutB t 10).2.2=true:=by simpa using h1
   conv=>whnf
   refine oD (qw4 c 32 (by omega)) rfl rfl ?_
   conv=>whnf
   rcases hcase with⟨hz,hm⟩|⟨hz,hh,hm⟩|⟨hr,hcase⟩
   ·repeat(first|refine brT hz ?_|refine brT hm ?_;conv=>whnf)
    refine .rel _ (COk.frameX (hzone (cutB c 32).2.1) [1,2,3,4] rfl rfl hmap) (fun x ks' hR=>?_)
    obtain⟨s0,k0,hR,rfl,rfl⟩:=hR
    rcases hR with⟨e,rfl,rfl⟩|⟨zs',e,rfl,rfl⟩
    ·rw [qh0 h0 h1 (by rw [<-hc,jm8 hz hm,e];rfl)] at i1
     rw [<-i1] at hK
     subst hK
     conv=>whnf
     repeat(first|(refine brF rfl ?_;conv=>whnf)|(refine brT rfl ?_;conv=>whnf))
     repeat'(first|exact ⟨⟩|exact rfl|exact fun _=>Iff.rfl|exact fun _ _=>rfl|exact renM_ent rfl _|apply And.intro)
     all_goals first|exact .inl rfl|exact noI
    ·rw [qe8 h0 h1 (by rw [<-hc,jm8 hz hm,e];rfl)] at i1
     have i5:=i4.zone e
     obtain⟨a',l',rfl⟩:=zoneP_ne e
     have hrr:=zoneP_rrs e
     conv=>whnf
     repeat(first|(refine brF rfl ?_;conv=>whnf)|(refine brT rfl ?_;conv=>whnf))
     refine⟨⟨m,(cutB t 10).2.1,a' :: l',hs⟩,[0,1,5,3,6],⟨i1,by have:=c3 h1;show(cutB t 10).2.1.length<m;omega,by show(cutB t 10).2.1.length<=_;omega,iS2,i5⟩,l6 _,?_⟩
     conv=>whnf
     repeat'(first|exact ⟨⟩|exact rfl|exact(fun _ _ _ _ h=>⟨jb _,h⟩)|exact fun _=>Iff.rfl|exact fun _ _=>rfl|apply And.intro)
     all_goals first|exact fun i hi=>subZF (q:=5) (fun _ _=>rfl) (by rfl) i hi|(rw[hrr];rfl)|exact noI
   ·repeat(first|refine brF hz ?_|refine brT hh ?_|refine brT hm ?_;conv=>whnf)
    refine .rel _ (COk.frameX (hhost (cutB c 32).2.1 (by omega)) [1,2,3,4] rfl rfl hmap) (fun x ks' hR=>?_)
    obtain⟨s0,k0,hR,rfl,rfl⟩:=hR
    rcases hR with⟨e,rfl,rfl⟩|⟨hs',G,e,rfl,rfl,hG⟩
    ·rw [qh0 h0 h1 (by rw [<-hc,jm9 hz hh hm,e];rfl)] at i1
     rw [<-i1] at hK
     subst hK
     conv=>whnf
     repeat(first|(refine brF rfl ?_;conv=>whnf)|(refine brT rfl ?_;conv=>whnf))
     repeat'(first|exact ⟨⟩|exact rfl|exact fun _=>Iff.rfl|exact fun _ _=>rfl|exact renM_ent rfl _|apply And.intro)
     all_goals first|exact .inl rfl|exact noI
    ·rw [qe8 h0 h1 (by rw [<-hc,jm9 hz hh hm,e];rfl)] at i1
     have i5:=i4.host (by omega) e
     conv=>whnf
     repeat(first|(refine brF rfl ?_;conv=>whnf)|(refine brT rfl ?_;conv=>whnf))
     refine⟨⟨m,(cutB t 10).2.1,_,hs'⟩,[0,1,2,5,4],⟨i1,by have:=c3 h1;show(cutB t 10).2.1.length<m;omega,by show(cutB t 10).2.1.length<=_;omega,iS2,i5⟩,l6 _,?_⟩
     conv=>whnf
     repeat'(first|exact ⟨⟩|exact rfl|exact(fun _ _ _ _ h=>⟨jb _,h⟩)|exact fun _=>Iff.rfl|exact fun _ _=>rfl|apply And.intro)
     all_goals first|exact fun i hi=>subZF (q:=3) (fun _ _=>rfl) (by rfl) i hi|exact hG
   ·rcases hcase with⟨hz,hh⟩|⟨hz,hh,hm⟩|⟨hz,hh,hm⟩
    all_goals
     repeat(first|refine brF hz ?_|refine brT hz ?_|refine brF hh ?_|refine brT hh ?_|refine brF hm ?_;conv=>whnf)
     refine .rel _ (COk.frameX (hrec c (by omega)) [1,2,3,4] rfl rfl hmap) (fun x ks' hR=>?_)
     obtain⟨s0,k0,hR,rfl,rfl⟩:=hR
     rcases hR with⟨e,rfl,rfl⟩|⟨zs',F,e,rfl,rfl,hzl,hF⟩
     ·rw [qh0 h0 h1 (by rw [<-hc,hr,e];rfl)] at i1
      rw [<-i1] at hK
      subst hK
      conv=>whnf
      repeat(first|(refine brF rfl ?_;conv=>whnf)|(refine brT rfl ?_;conv=>whnf))
      repeat'(first|exact ⟨⟩|exact rfl|exact fun _=>Iff.rfl|exact fun _ _=>rfl|exact renM_ent rfl _|apply And.intro)
      all_goals first|exact .inl rfl|exact noI
     ·first
       |(rw [recP_nil] at e;cases e;done)
       |(
        rw [qe8 h0 h1 (by rw [<-hc,hr,e];rfl)] at i1
        have i5:=i4.recd e
        obtain⟨a',l',rfl⟩:∃ a' l',zs'=a' :: l':=by
         cases zs' with
         |nil=>cases hzl
         |cons a' l'=>exact⟨_,_,rfl⟩
        conv=>whnf
        repeat(first|(refine brF rfl ?_;conv=>whnf)|(refine brT rfl ?_;conv=>whnf))
        refine⟨⟨m,(cutB t 10).2.1,a' :: l',hs⟩,[0,1,2,3,5],⟨i1,by have:=c3 h1;show(cutB t 10).2.1.length<m;omega,by show(cutB t 10).2.1.length<=_;omega,iS2,i5⟩,l6 _,?_⟩
        conv=>whnf
        repeat'(first|exact ⟨⟩|exact rfl|exact(fun _ _ _ _ h=>⟨jb _,h⟩)|exact fun _=>Iff.rfl|exact fun _ _=>rfl|apply And.intro)
        all_goals exact fun i hi=>subZF (q:=4) hF (by rfl) i hi)
  ·obtain rfl:t=[]:=by
    cases t with
    |nil=>rfl
    |cons x t=>cases h0
   rw [readF_end] at i1
   rw [<-i1] at hK
   replace hK:(if jp (mkF _ hs)=(s,0) then (mkF _ hs,0) else (nilF,6))=K:=hK
   rw [<-hT] at hK
   conv=>whnf
   refine .rel _ (COk.frameX htext [1,2,3,4] rfl rfl hmap) (fun x ks' hR=>?_)
   obtain⟨s0,k0,⟨rfl,rfl⟩,rfl,rfl⟩:=hR
   conv=>whnf
   by_cases g1:T.2=0
   ·refine brF (by rw[g1];rfl) ?_
    conv=>whnf
    by_cases g2:T.1=s
    ·rw [if_pos (Prod.ext g2 g1)] at hK
     refine brF (by rw[g2];simp) ?_
     subst hK
     conv=>whnf
     repeat(first|(refine brF rfl ?_;conv=>whnf)|(refine brT rfl ?_;conv=>whnf))
     repeat'(first|exact ⟨⟩|exact rfl|exact fun _=>Iff.rfl|exact fun _ _=>rfl|exact renM_ent rfl _|apply And.intro)
     all_goals exact .inr rfl
    ·rw [if_neg (fun h=>g2 (congrArg Prod.fst h))] at hK
     refine brT (by simpa using g2) ?_
     subst hK
     conv=>whnf
     repeat(first|(refine brF rfl ?_;conv=>whnf)|(refine brT rfl ?_;conv=>whnf))
     repeat'(first|exact ⟨⟩|exact rfl|exact fun _=>Iff.rfl|exact fun _ _=>rfl|exact renM_ent rfl _|apply And.intro)
     all_goals first|exact .inl rfl|exact noI
   ·rw [if_neg (fun h=>g1 (congrArg Prod.snd h))] at hK
    refine brT (by simpa using g1) ?_
    subst hK
    conv=>whnf
    repeat(first|(refine brF rfl ?_;conv=>whnf)|(refine brT rfl ?_;conv=>whnf))
    repeat'(first|exact ⟨⟩|exact rfl|exact fun _=>Iff.rfl|exact fun _ _=>rfl|exact renM_ent rfl _|apply And.intro)
    all_goals first|exact .inl rfl|exact noI
section
section
variable{α:Type}[Inhabited α]
def eqTo(e:α->α->Bool)(l m:List α)(i:Nat):Bool:=(List.range i).all fun j=>e (l.getD j default) (m.getD j default)
def eqL(e:α->α->Bool)(l m:List α):Bool:=l.length == m.length && eqTo e l m l.length
theorem qt1(e:α->α->Bool)(l m:List α)(i:Nat):eqTo e l m (i+1)=(eqTo e l m i && e (l.getD i default) (m.getD i default)):=by
 unfold eqTo
 rw[List.range_succ,c9]
 simp
theorem qu4{e:α->α->Bool}{l m:List α}{i:Nat}(hi:i<l.length)(h:e (l.getD i default) (m.getD i default)=false):eqTo e l m l.length=false:=by
 unfold eqTo
 rw[ao]
 exact⟨i,m7.2 hi,by rw[h];decide⟩
theorem eqL_refl{e:α->α->Bool}(he:∀ a,e a a=true)(l:List α):eqL e l l=true:=by
 unfold eqL eqTo
 rw[beq_self_eq_true,my,lw]
 exact fun j _=>he _
end
def sameR(a b:RR):Bool:=a.nm == b.nm && (a.ty == b.ty && (a.cl == b.cl && (a.ttl == b.ttl && a.d == b.d)))
def sameZ(a b:Zo):Bool:=a.apex == b.apex && eqL sameR a.rrs b.rrs
def sameI(a b:Int):Bool:=a == b
def sameH(a b:Ho):Bool:=a.1 == b.1 && eqL sameI a.2.2 b.2.2
def qk0(f g:Fo):Bool:=eqL sameZ f.zones g.zones && eqL sameH f.hosts g.hosts
theorem eqrr_ok(y z:Bool)(l m:List RR)(hl:l.length<=4611686018427387904):FnOk Tryz.prog 36 [.d (rrsD y l),.d (rrsD z m)] (.d (.bool (eqL sameR l m))):=by
 refine qz (TT:=TT) (IN:=qi []) qk qm mixed 1000 Tryz.func36 rfl (qe Tryz.func36 (by kernel_rfl) rfl) rfl 24 (by kernel_rfl) ?_
 obtain⟨E,hEE⟩:∃ E,E=sameR:=⟨_,rfl⟩
 rw[<-hEE]
 have hE:∀ a b:RR,(a.nm == b.nm && (a.ty == b.ty && (a.cl == b.cl && (a.ttl == b.ttl && (a.d == b.d && true)))))=E a b:=fun a b=>by rw[hEE];unfold sameR;rw[Bool.and_true]
 unfold eqL
 conv=>whnf
 by_cases hlen:l.length=m.length
 case neg =>
  rw[show(l.length == m.length)=false by simpa using hlen,f8]
  refine brT (by rw[bne_iff_ne];omega) ?_
  conv=>whnf
  all_goals exact rfl
 rw[show(l.length == m.length)=true by simpa using hlen,my]
 refine brF (by rw[bne_eq_false_iff_eq];omega) ?_
 conv=>whnf
 refine .inv Nat (fun i=>i<=l.length/\eqTo E l m i=true) (fun i=>[(13,iV i)]) (fun _=>[]) (fun i=>l.length - i) ⟨0,[],⟨p6 _,rfl⟩,?_⟩ ?_
 ·conv=>whnf
  repeat'(first|exact ⟨⟩|exact rfl|exact qa _|exact .inr rfl|exact fun _ _=>rfl|exact noI|apply And.intro)
 intro i hi
 obtain⟨hi,hti⟩:=hi
 conv=>whnf
 refine⟨fun h1=>?_,fun h1=>?_⟩
 ·have h1:i<l.length:=by
   have h:(i:Int)<l.length:=pw h1
   omega
  have hw1:=w64s i (by omega)
  have hnx:=qt1 E l m i
  rw [hti,my] at hnx
  have hbad:=qu4 (e:=E) (m:=m) h1
  have hal:l.getD i default ∈ l:=by rw[List.getD,pp h1];exact gv _
  have hbl:m.getD i default ∈ m:=by rw[List.getD,pp (by omega)];exact gv _
  conv=>whnf
  refine⟨by omega,?_⟩
  conv=>whnf
  refine⟨by omega,?_⟩
  conv=>whnf
  rw[pz]
  generalize l.getD i default=a at hnx hbad hal ⊢
  generalize m.getD i default=b at hnx hbad hbl ⊢
  rw[hE a b]
  cases hs:E a b with
  |false =>
   rw[hbad hs]
   conv=>whnf
   refine brT rfl ?_
   conv=>whnf
   all_goals exact rfl
  |true =>
   conv=>whnf
   refine brF rfl ?_
   conv=>whnf
   rw[hw1]
   refine⟨i+1,[],⟨h1,by rw[hnx,hs]⟩,by omega,?_⟩
   conv=>whnf
   repeat'(first|exact ⟨⟩|exact rfl|exact qa _|exact .inr rfl|exact fun _ _=>rfl|exact noI|apply And.intro)
 ·have h1:i=l.length:=by
   have h:¬ (i:Int)<l.length:=px h1
   omega
  subst h1
  conv=>whnf
  rw[hti]
  all_goals exact rfl
theorem eqint_ok(y z:Bool)(l m:List Int)(hl:l.length<=4611686018427387904):FnOk Tryz.prog 39 [.d (.sl y l.length 1 (fun j=>[.int .i64 (l.getD j 0)])),.d (.sl z m.length 1 (fun j=>[.int .i64 (m.getD j 0)]))] (.d (.bool (eqL sameI l m))):=by
 show FnOk Tryz.prog 39 [.d (.sl y l.length 1 (fun j=>[.int .i64 (l.getD j default)])),.d (.sl z m.length 1 (fun j=>[.int .i64 (m.getD j default)]))] (.d (.bool (eqL sameI l m)))
 refine qz (TT:=TT) (IN:=qi []) qk qm mixed 1000 Tryz.func39 rfl (qe Tryz.func39 (by kernel_rfl) rfl) rfl 24 (by kernel_rfl) ?_
 obtain⟨E,hEE⟩:∃ E,E=sameI:=⟨_,rfl⟩
 rw[<-hEE]
 have hE:∀ a b:Int,(a != b) = !E a b:=fun a b=>by rw[hEE];rfl
 unfold eqL
 conv=>whnf
 by_cases hlen:l.length=m.length
 case neg =>
  rw[show(l.length == m.length)=false by simpa using hlen,f8]
  refine brT (by rw[bne_iff_ne];omega) ?_
  conv=>whnf
  all_goals exact rfl
 rw[show(l.length == m.length)=true by simpa using hlen,my]
 refine brF (by rw[bne_eq_false_iff_eq];omega) ?_
 conv=>whnf
 refine .inv Nat (fun i=>i<=l.length/\eqTo E l m i=true) (fun i=>[(13,iV i)]) (fun _=>[]) (fun i=>l.length - i) ⟨0,[],⟨p6 _,rfl⟩,?_⟩ ?_
 ·conv=>whnf
  repeat'(first|exact ⟨⟩|exact rfl|exact qa _|exact .inr rfl|exact fun _ _=>rfl|exact noI|apply And.intro)
 intro i hi
 obtain⟨hi,hti⟩:=hi
 conv=>whnf
 refine⟨fun h1=>?_,fun h1=>?_⟩
 ·have h1:i<l.length:=by
   have h:(i:Int)<l.length:=pw h1
   omega
  have hw1:=w64s i (by omega)
  have hnx:=qt1 E l m i
  rw [hti,my] at hnx
  have hbad:=qu4 (e:=E) (m:=m) h1
  have hal:l.getD i default ∈ l:=by rw[List.getD,pp h1];exact gv _
  have hbl:m.getD i default ∈ m:=by rw[List.getD,pp (by omega)];exact gv _
  conv=>whnf
  refine⟨by omega,?_⟩
  conv=>whnf
  refine⟨by omega,?_⟩
  conv=>whnf
  rw[pz]
  generalize l.getD i default=a at hnx hbad hal ⊢
  generalize m.getD i default=b at hnx hbad hbl ⊢
  rw[hE a b]
  cases hs:E a b with
  |false =>
   rw[hbad hs]
   conv=>whnf
   refine brT rfl ?_
   conv=>whnf
   all_goals exact rfl
  |true =>
   conv=>whnf
   refine brF rfl ?_
   conv=>whnf
   rw[hw1]
   refine⟨i+1,[],⟨h1,by rw[hnx,hs]⟩,by omega,?_⟩
   conv=>whnf
   repeat'(first|exact ⟨⟩|exact rfl|exact qa _|exact .inr rfl|exact fun _ _=>rfl|exact noI|apply And.intro)
 ·have h1:i=l.length:=by
   have h:¬ (i:Int)<l.length:=px h1
   omega
  subst h1
  conv=>whnf
  rw[hti]
  all_goals exact rfl
theorem same1_ok(a b:Zo)(hl:a.rrs.length<=4611686018427387904):FnOk Tryz.prog 35 [.agg [.d (.str a.apex),.d (rrsD a.z a.rrs)],.agg [.d (.str b.apex),.d (rrsD b.z b.rrs)]] (.d (.bool (sameZ a b))):=by
 refine qz (TT:=TT) (IN:=qi []) qk qm mixed 1000 Tryz.func35 rfl (qe Tryz.func35 (by kernel_rfl) rfl) rfl 15 (by kernel_rfl) ?_
 unfold sameZ
 conv=>whnf
 cases h:a.apex == b.apex with
 |false =>
  refine brF rfl ?_
  conv=>whnf
  all_goals exact rfl
 |true =>
  refine brT rfl ?_
  conv=>whnf
  refine oD (eqrr_ok a.z b.z a.rrs b.rrs hl) rfl rfl ?_
  conv=>whnf
  all_goals exact rfl
theorem same2_ok(a b:Ho)(hl:a.2.2.length<=4611686018427387904):FnOk Tryz.prog 38 [.agg [.d (.int .u32 a.1),.d (.sl a.2.1 a.2.2.length 1 (fun j=>[.int .i64 (a.2.2.getD j 0)]))],.agg [.d (.int .u32 b.1),.d (.sl b.2.1 b.2.2.length 1 (fun j=>[.int .i64 (b.2.2.getD j 0)]))]] (.d (.bool (sameH a b))):=by
 refine qz (TT:=TT) (IN:=qi []) qk qm mixed 1000 Tryz.func38 rfl (qe Tryz.func38 (by kernel_rfl) rfl) rfl 15 (by kernel_rfl) ?_
 unfold sameH
 conv=>whnf
 cases h:a.1 == b.1 with
 |false =>
  refine brF rfl ?_
  conv=>whnf
  all_goals exact rfl
 |true =>
  refine brT rfl ?_
  conv=>whnf
  refine oD (eqint_ok a.2.1 b.2.1 a.2.2 b.2.2 hl) rfl rfl ?_
  conv=>whnf
  all_goals exact rfl
theorem eqzo_ok(y z:Bool)(l m:List Zo)(hl:l.length<=4611686018427387904)(hr:∀ a ∈ l,a.rrs.length<=4611686018427387904):FnOk Tryz.prog 34 [.d (zonesD y l),.d (zonesD z m),.fn 35 []] (.d (.bool (eqL sameZ l m))):=by
 refine qz (TT:=TT) (IN:=qi []) qk qm mixed 1000 Tryz.func34 rfl (qe Tryz.func34 (by kernel_rfl) rfl) rfl 29 (by kernel_rfl) ?_
 obtain⟨E,hEE⟩:∃ E,E=sameZ:=⟨_,rfl⟩
 have hcall:=fun a b (h:a ∈ l) (_:b ∈ m)=>same1_ok a b (hr a h)
 rw [<-hEE] at hcall ⊢
 unfold eqL
 conv=>whnf
 by_cases hlen:l.length=m.length
 case neg =>
  rw[show(l.length == m.length)=false by simpa using hlen,f8]
  refine brT (by rw[bne_iff_ne];omega) ?_
  conv=>whnf
  all_goals exact rfl
 rw[show(l.length == m.length)=true by simpa using hlen,my]
 refine brF (by rw[bne_eq_false_iff_eq];omega) ?_
 conv=>whnf
 refine .inv Nat (fun i=>i<=l.length/\eqTo E l m i=true) (fun i=>[(17,iV i)]) (fun _=>[]) (fun i=>l.length - i) ⟨0,[],⟨p6 _,rfl⟩,?_⟩ ?_
 ·conv=>whnf
  repeat'(first|exact ⟨⟩|exact rfl|exact qa _|exact .inr rfl|exact fun _ _=>rfl|exact noI|apply And.intro)
 intro i hi
 obtain⟨hi,hti⟩:=hi
 conv=>whnf
 refine⟨fun h1=>?_,fun h1=>?_⟩
 ·have h1:i<l.length:=by
   have h:(i:Int)<l.length:=pw h1
   omega
  have hw1:=w64s i (by omega)
  have hnx:=qt1 E l m i
  rw [hti,my] at hnx
  have hbad:=qu4 (e:=E) (m:=m) h1
  have hal:l.getD i default ∈ l:=by rw[List.getD,pp h1];exact gv _
  have hbl:m.getD i default ∈ m:=by rw[List.getD,pp (by omega)];exact gv _
  conv=>whnf
  refine⟨by omega,?_⟩
  conv=>whnf
  refine⟨by omega,?_⟩
  conv=>whnf
  rw[pz]
  generalize l.getD i default=a at hnx hbad hal ⊢
  generalize m.getD i default=b at hnx hbad hbl ⊢
  refine oD (hcall a b hal hbl) rfl rfl ?_
  cases hs:E a b with
  |false =>
   rw[hbad hs]
   conv=>whnf
   refine brT rfl ?_
   conv=>whnf
   all_goals exact rfl
  |true =>
   conv=>whnf
   refine brF rfl ?_
   conv=>whnf
   rw[hw1]
   refine⟨i+1,[],⟨h1,by rw[hnx,hs]⟩,by omega,?_⟩
   conv=>whnf
   repeat'(first|exact ⟨⟩|exact rfl|exact qa _|exact .inr rfl|exact fun _ _=>rfl|exact noI|apply And.intro)
 ·have h1:i=l.length:=by
   have h:¬ (i:Int)<l.length:=px h1
   omega
  subst h1
  conv=>whnf
  rw[hti]
  all_goals exact rfl
theorem eqho_ok(y z:Bool)(l m:List Ho)(hl:l.length<=4611686018427387904)(hr:∀ a ∈ l,a.2.2.length<=4611686018427387904):FnOk Tryz.prog 37 [.d (hostsD y l),.d (hostsD z m),.fn 38 []] (.d (.bool (eqL sameH l m))):=by
 refine qz (TT:=TT) (IN:=qi []) qk qm mixed 1000 Tryz.func37 rfl (qe Tryz.func37 (by kernel_rfl) rfl) rfl 29 (by kernel_rfl) ?_
 obtain⟨E,hEE⟩:∃ E,E=sameH:=⟨_,rfl⟩
 have hcall:=fun a b (h:a ∈ l) (_:b ∈ m)=>same2_ok a b (hr a h)
 rw [<-hEE] at hcall ⊢
 unfold eqL
 conv=>whnf
 by_cases hlen:l.length=m.length
 case neg =>
  rw[show(l.length == m.length)=false by simpa using hlen,f8]
  refine brT (by rw[bne_iff_ne];omega) ?_
  conv=>whnf
  all_goals exact rfl
 rw[show(l.length == m.length)=true by simpa using hlen,my]
 refine brF (by rw[bne_eq_false_iff_eq];omega) ?_
 conv=>whnf
 refine .inv Nat (fun i=>i<=l.length/\eqTo E l m i=true) (fun i=>[(17,iV i)]) (fun _=>[]) (fun i=>l.length - i) ⟨0,[],⟨p6 _,rfl⟩,?_⟩ ?_
 ·conv=>whnf
  repeat'(first|exact ⟨⟩|exact rfl|exact qa _|exact .inr rfl|exact fun _ _=>rfl|exact noI|apply And.intro)
 intro i hi
 obtain⟨hi,hti⟩:=hi
 conv=>whnf
 refine⟨fun h1=>?_,fun h1=>?_⟩
 ·have h1:i<l.length:=by
   have h:(i:Int)<l.length:=pw h1
   omega
  have hw1:=w64s i (by omega)
  have hnx:=qt1 E l m i
  rw [hti,my] at hnx
  have hbad:=qu4 (e:=E) (m:=m) h1
  have hal:l.getD i default ∈ l:=by rw[List.getD,pp h1];exact gv _
  have hbl:m.getD i default ∈ m:=by rw[List.getD,pp (by omega)];exact gv _
  conv=>whnf
  refine⟨by omega,?_⟩
  conv=>whnf
  refine⟨by omega,?_⟩
  conv=>whnf
  rw[pz]
  generalize l.getD i default=a at hnx hbad hal ⊢
  generalize m.getD i default=b at hnx hbad hbl ⊢
  refine oD (hcall a b hal hbl) rfl rfl ?_
  cases hs:E a b with
  |false =>
   rw[hbad hs]
   conv=>whnf
   refine brT rfl ?_
   conv=>whnf
   all_goals exact rfl
  |true =>
   conv=>whnf
   refine brF rfl ?_
   conv=>whnf
   rw[hw1]
   refine⟨i+1,[],⟨h1,by rw[hnx,hs]⟩,by omega,?_⟩
   conv=>whnf
   repeat'(first|exact ⟨⟩|exact rfl|exact qa _|exact .inr rfl|exact fun _ _=>rfl|exact noI|apply And.intro)
 ·have h1:i=l.length:=by
   have h:¬ (i:Int)<l.length:=px h1
   omega
  subst h1
  conv=>whnf
  rw[hti]
  all_goals exact rfl
structure Fo.Sm(f:Fo):Prop where
 z:f.zones.length<=4611686018427387904
 r:∀ a ∈ f.zones,a.rrs.length<=4611686018427387904
 h:f.hosts.length<=4611686018427387904
 a:∀ a ∈ f.hosts,a.2.2.length<=4611686018427387904
theorem jd1(f g:Fo)(hf:f.Sm):FnOk Tryz.prog 13 [f.V,g.V] (.d (.bool (qk0 f g))):=by
 refine qz (TT:=TT) (IN:=qi []) qk qm mixed 1000 Tryz.func13 rfl (qe Tryz.func13 (by kernel_rfl) rfl) rfl 15 (by kernel_rfl) ?_
 unfold qk0
 conv=>whnf
 refine oD (eqzo_ok f.zz g.zz f.zones g.zones hf.z hf.r) rfl rfl ?_
 cases h:eqL sameZ f.zones g.zones with
 |false =>
  conv=>whnf
  refine brF rfl ?_
  conv=>whnf
  all_goals exact rfl
 |true =>
  conv=>whnf
  refine brT rfl ?_
  conv=>whnf
  refine oD (eqho_ok f.hz g.hz f.hosts g.hosts hf.h hf.a) rfl rfl ?_
  conv=>whnf
  all_goals exact rfl
end
theorem dec_no10(n:Nat):∀ b ∈ Lib.decDigits n,b≠10:=fun b hb e=>by
 have:=dec_all n b hb
 rw [e] at this
 exact absurd this.1 (by decide)
theorem escB_no10(c:UInt8):∀ b ∈ escB c,b≠10:=by
 have hd:=jd7 c.toNat c.toNat_lt
 have hn:∀ x:UInt8,zf x=true->x≠10:=fun x hx e=>by rw [e] at hx;exact absurd hx (by decide)
 unfold escB
 split
 ·rename_i h
  intro b hb
  simp only [pu,List.mem_nil_iff,or_false] at hb
  rcases hb with rfl|rfl
  ·decide
  ·rcases h with rfl|rfl <;> decide
 ·split
  ·rename_i h
   intro b hb
   simp only [gw] at hb
   subst hb
   rintro rfl
   exact absurd h.1 (by decide)
  ·intro b hb
   simp only [pu,List.mem_nil_iff,or_false] at hb
   rcases hb with rfl|rfl|rfl|rfl
   ·decide
   ·exact hn _ hd.1
   ·exact hn _ hd.2.1
   ·exact hn _ hd.2.2.1
theorem escL_no10:∀ l:List UInt8,∀ b ∈ escL l,b≠10
 |[],b,h=>by cases h
 |c :: l,b,h=>by
  simp only [escL,mn] at h
  exact h.elim (escB_no10 c b) (escL_no10 l b)
theorem txtL_no10:∀ ls:List (List UInt8),∀ b ∈ txtL ls,b≠10
 |[],b,h=>by cases h
 |l :: ls,b,h=>by
  simp only [txtL,mn,pu] at h
  rcases h with h|rfl|h
  ·exact escL_no10 l b h
  ·decide
  ·exact txtL_no10 ls b h
theorem txtN_no10(n:List UInt8):∀ b ∈ txtN n,b≠10:=by
 unfold txtN
 split
 ·intro b hb;simp at hb;rw [hb];decide
 ·exact txtL_no10 _
theorem hexC_no10:∀ n,n<16->hexC n≠10:=by decide +kernel
theorem hexL_no10:∀ s:List UInt8,∀ b ∈ hexL s,b≠10
 |[],b,h=>by cases h
 |c :: s,b,h=>by
  simp only [hexL,pu] at h
  rcases h with rfl|rfl|h
  ·exact hexC_no10 _ (by have:=c.toNat_lt;omega)
  ·exact hexC_no10 _ (by omega)
  ·exact hexL_no10 s b h
theorem hexT_no10(s:List UInt8):∀ b ∈ hexT s,b≠10:=by
 unfold hexT
 split
 ·intro b hb;simp at hb;rw [hb];decide
 ·exact hexL_no10 s
end Go.Proofs.YtoefgnnkajhmiaaGreatDoor
