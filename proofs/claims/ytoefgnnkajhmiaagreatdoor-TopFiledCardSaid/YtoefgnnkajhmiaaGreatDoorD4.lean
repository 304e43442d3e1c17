/-
  Part of the proof: lemmas about the functions that the row calls, and about the steps of a run. Conditions: those ahead of each lemma.
-/
import Derived.Test.YtoefgnnkajhmiaaGreatDoorD3
import Derived.Test.YtoefgnnkajhmiaaGreatDoorD2
set_option linter.unusedVariables false
set_option linter.unusedSimpArgs false
set_option maxRecDepth 100000
set_option maxHeartbeats 64000000
namespace Go.Proofs.YtoefgnnkajhmiaaGreatDoor
open Go Go.Eng
theorem yq7:∀ (s t:List UInt8) (n m:Nat),go31 n s = .ok m->go31 n (s++t)=go31 m t
 |[],t,n,m,h=>by cases h;rfl
 |c :: s,t,n,m,h=>by
  rw[gw];conv=>lhs;unfold go31
  unfold go31 at h;split at h
  ·rename_i h1;rw[if_pos h1];split at h
   ·cases h
   ·rename_i h2;rw[if_neg h2];exact yq7 s t _ m h
  ·cases h
theorem yq6(n d:Nat)(hd:d<10)(h:10 * n+d<=2147483647):go31 n [UInt8.ofNat (48+d)] = .ok (10 * n+d):=by
 have e:(UInt8.ofNat (48+d)).toNat=48+d:=by rw[UInt8.toNat_ofNat'];omega
 unfold go31;rw[e,if_pos (by omega),if_neg (by omega)];unfold go31;rw[show 48+d - 48=d by omega]
theorem xh7(n:Nat):n<=2147483647->go31 0 (Lib.decDigits n) = .ok n:=by
 induction n using Nat.strongRecOn with
 |ind n ih =>
  intro h;by_cases hn:n<10
  ·rw[Lib.decDigits_one hn];have:=yq6 0 n hn (by omega)
   rwa [show 10 * 0+n=n by omega] at this
  ·rw[Lib.decDigits,dif_neg hn,yq7 _ _ 0 (n / 10) (ih (n / 10) (by omega) (by omega)),yq6 _ _ (by omega) (by omega)];rw[show 10 * (n / 10)+n % 10=n by omega]
theorem zx1{n:Nat}(h:n<=2147483647):zh (Lib.decDigits n) = .ok n:=by
 unfold zh;rw[if_neg (yz2 n),xh7 n h]
theorem yr1(n:Nat):(32:UInt8) ∉ Lib.decDigits n:=fun h=>jf1 n 32 h rfl
theorem jm8(x:Int)(l:List Int):atsT (x :: l)=32 :: (Lib.decDigits x.toNat++atsT l):=rfl
def aftH:List Int->List UInt8
 |[]=>[]
 |x :: l=>Lib.decDigits x.toNat++atsT l
theorem je0(n:Nat)(l:List Int):cutB (Lib.decDigits n++atsT l) 32=(Lib.decDigits n,aftH l,!l.isEmpty):=by
 cases l with
 |nil=>rw[show atsT []=[] from rfl,m6,yw9 _ (yr1 n)];rfl
 |cons x l=>rw[jm8,qm2 _ _ (yr1 n)];rfl
theorem ym1:∀ (l:List Int) (n:Nat) (acc:List Int) (x:Int),l.length<n->(0<=x/\x<=2147483647)->(∀ a ∈ l,0<=a/\a<=2147483647)->atsR n (Lib.decDigits x.toNat++atsT l) true acc=some (acc++x :: l)
 |l,0,_,_,h,_,_=>absurd h (gy _)
 |l,n+1,acc,x,h,hx,hl=>by
  have hnum:zh (cutB (Lib.decDigits x.toNat++atsT l) 32).1 = .ok x.toNat:=by rw[je0];exact zx1 (by omega)
  rw[jr6 hnum,je0];have hxx:((x.toNat:Nat):Int)=x:=by omega
  rw[hxx];cases l with
  |nil=>exact jp4 _ _ _
  |cons y l =>
   have:=ym1 l n (acc++[x]) y (by simp only [ou] at h;omega) (hl y (.head _)) (fun a ha=>hl a (.tail _ ha));rw [m9] at this;exact this
theorem xq1(l:List Int):l.length<=(atsT l).length:=by
 induction l with
 |nil=>exact pr _
 |cons x l ih=>rw[jm8];simp only[ou,py];omega
theorem zq2(a:Nat)(l:List Int)(ha:a<=4294967295)(hl:∀ a ∈ l,0<=a/\a<=2147483647):ua (Lib.decDigits a++atsT l)=some ((a:Int),Nat.beq l.length 0,l):=by
 have hw:yd 32 (cutB (Lib.decDigits a++atsT l) 32).1=some a:=by rw[je0];exact qz5 (by decide) (by omega)
 rw[jo5 hw,je0];have hg:=xq1 l;have:atsR ((Lib.decDigits a++atsT l).length+1) (aftH l) (!l.isEmpty) []=some l:=by
  cases l with
  |nil=>exact jp4 _ _ _
  |cons x l =>
   have:=ym1 l ((Lib.decDigits a++atsT (x :: l)).length+1) [] x (by rw [py];simp only [ou] at hg;omega) (hl x (.head _)) (fun a ha=>hl a (.tail _ ha));exact this
 rw[this];rfl
def nzZ(z:Zo):Zo:=⟨z.apex,Nat.beq z.rrs.length 0,z.rrs⟩
def nzH(h:Ho):Ho:=(h.1,Nat.beq h.2.2.length 0,h.2.2)
def HIn(h:Ho):Prop:=(0<=h.1/\h.1<=4294967295)/\∀ a ∈ h.2.2,0<=a/\a<=2147483647
theorem xn2{zs:List Zo}{hs:List Ho}{h:Ho}(hi:HIn h)(hl:hs.length<64):x4 zs hs (yy h)=some (zs,hs++[nzH h]):=by
 have e:yy h=[104,111,115,116]++32 :: (Lib.decDigits h.1.toNat++atsT h.2.2):=by unfold yy;rfl
 have hc:cutB (yy h) 32=([104,111,115,116],Lib.decDigits h.1.toNat++atsT h.2.2,true):=by rw[e];exact qm2 _ _ (by decide)
 obtain⟨⟨h1,h2⟩,h3⟩:=hi;unfold x4;rw[hc,if_neg (fun h=>absurd (show([104,111,115,116]:List UInt8)=[122,111,110,101] from h.1) (by decide)),if_pos ⟨rfl,rfl⟩];unfold hosP;rw[if_neg (by omega),zq2 _ _ (by omega) h3];rw[show((h.1.toNat:Nat):Int)=h.1 by omega]
 rfl
theorem xn0{zs:List Zo}{z:Zo}(hz:qb z.apex)(hl:zs.length<64):x4 zs [] (ko z)=some (zs++[⟨z.apex,true,[]⟩],[]):=by
 have hc:cutB (ko z) 32=([122,111,110,101],txtN z.apex,true):=qm2 [122,111,110,101] (txtN z.apex) (by decide);unfold x4;rw[hc,if_pos ⟨rfl,rfl⟩];unfold wb;rw[yi4 hz,if_neg (fun h=>h.elim (fun h=>absurd h (by decide)) fun h=>h.elim (fun h=>by omega) fun h=>h rfl)]
 rfl
theorem xc6{n:List UInt8}(h:qb n):∃ s,txtN n=s++[46]:=by
 obtain⟨h1,h2,h3⟩:=z7 h;unfold txtN;split
 ·exact⟨[],rfl⟩
 ·rename_i hne;have hl:labN n≠[]:=fun e=>by
   rw [e] at h3;exact hne h3
  generalize labN n=ls at hl;clear h2 h3;induction ls with
  |nil=>exact absurd rfl hl
  |cons l ls ih =>
   cases ls with
   |nil=>exact⟨escL l,rfl⟩
   |cons m ls =>
    obtain⟨s,hs⟩:=ih (by simp);refine⟨escL l++46 :: s,?_⟩;show escL l++46 :: txtL (m :: ls)=_;rw[hs];simp
theorem xn1{ys:List Zo}{z:Zo}{r:RR}(hr:r.check=true)(hi:r.In)(hl:z.rrs.length<256):x4 (ys++[z]) [] r.line=some (ys++[⟨z.apex,false,z.rrs++[r]⟩],[]):=by
 have hc:(cutB r.line 32).1=txtN r.nm:=by
  unfold RR.line;rw[qm2 _ _ (fun h=>yt8 r.nm 32 h rfl)]
 obtain⟨s,hs⟩:=xc6 (qr3 hr);have hne:∀ (a b c d:UInt8),d≠46->txtN r.nm≠[a,b,c,d]:=fun a b c d hd e=>by
  rw [hs] at e;have:=congrArg List.getLast? e;rw [List.getLast?_append] at this;simp at this;exact hd this.symm
 have hll:jy (ys++[z])=z:=by unfold jy;simp[List.getD]
 unfold x4;rw[hc,if_neg (by rintro ⟨h,_⟩;exact hne _ _ _ _ (by decide) h),if_neg (by rintro ⟨h,_⟩;exact hne _ _ _ _ (by decide) h)];unfold recP;rw [hll,if_neg (fun h=>h.elim (fun h=>by simp at h) fun h=>h.elim (fun h=>absurd h (by decide)) fun h=>by omega),zo6 hr hi (ja7 hr)];show some _=_;rw[List.set_append_right _ _ (by simp)];simp
theorem yc2:∀ (n m:Nat) (zs:List Zo) (hs:List Ho) (t:List UInt8),t.length<n->t.length<m->xn n zs hs t=xn m zs hs t
 |0,_,_,_,_,h,_=>absurd h (gy _)
 |_+1,0,_,_,_,_,h=>absurd h (gy _)
 |n+1,m+1,zs,hs,t,h1,h2=>by
  by_cases ht:t=[]
  ·subst ht;rfl
  ·cases hc:(cutB t 10).2.2 with
   |false=>rw[jl5 ht hc,jl5 ht hc]
   |true =>
    have hl:=(qt3 t 10).2.2 hc;cases hp:x4 zs hs (cutB t 10).1 with
    |none=>rw[qq8 ht hc hp,qq8 ht hc hp]
    |some p=>rw[qk6 ht hc hp,qk6 ht hc hp];exact yc2 n m _ _ _ (by omega) (by omega)
def vj(zs:List Zo)(hs:List Ho)(t:List UInt8):Option (List Zo × List Ho):=xn (t.length+1) zs hs t
theorem jj8{zs:List Zo}{hs:List Ho}{l r:List UInt8}{p:List Zo × List Ho}(hl:(10:UInt8) ∉ l)(h:x4 zs hs l=some p):vj zs hs (l++10 :: r)=vj p.1 p.2 r:=by
 have hc:=qm2 l r hl;unfold vj;rw[qk6 (by simp) (by rw[hc]) (by rw[hc];exact h),hc];exact yc2 _ _ _ _ _ (by rw[py,ou];show r.length<_;omega) (l5 _)
theorem qd3{c:UInt8}{a b:List UInt8}(h1:c ∉ a)(h2:c ∉ b):c ∉ a++b:=fun h=>(o3.1 h).elim h1 h2
theorem qu0{c x:UInt8}{b:List UInt8}(h1:c≠x)(h2:c ∉ b):c ∉ x :: b:=fun h=>(pv.1 h).elim h1 h2
theorem qu4(n:Nat):(10:UInt8) ∉ Lib.decDigits n:=fun h=>xi9 n 10 h rfl
theorem yn9(r:RR):(10:UInt8) ∉ r.line:=by
 unfold RR.line;exact qd3 (fun h=>yf6 _ 10 h rfl) (qu0 (by decide) (qd3 (qu4 _) (qu0 (by decide) (qd3 (qu4 _) (qu0 (by decide) (qd3 (qu4 _) (qu0 (by decide) fun h=>zy8 _ 10 h rfl)))))))
theorem ym5(z:Zo):(10:UInt8) ∉ ko z:=qd3 (by decide) fun h=>yf6 _ 10 h rfl
theorem xt4(l:List Int):(10:UInt8) ∉ atsT l:=by
 induction l with
 |nil=>exact fun h=>by cases h
 |cons x l ih=>rw[jm8];exact qu0 (by decide) (qd3 (qu4 _) ih)
theorem yq1(h:Ho):(10:UInt8) ∉ yy h:=qd3 (qd3 (by decide) (qu4 _)) (xt4 _)
theorem yh7:∀ (rs acc:List RR) (ys:List Zo) (apex t:List UInt8),acc.length+rs.length<=256->(∀ r ∈ rs,r.check=true/\r.In)->vj (ys++[⟨apex,Nat.beq acc.length 0,acc⟩]) [] (yn rs++t)=vj (ys++[⟨apex,Nat.beq (acc++rs).length 0,acc++rs⟩]) [] t
 |[],acc,ys,apex,t,_,_=>by rw[m6];rfl
 |r :: rs,acc,ys,apex,t,hl,h=>by
  simp only [ou] at hl;have e:yn (r :: rs)++t=r.line++10 :: (yn rs++t):=by show(r.line++[10])++yn rs++t=_;simp
  rw[e,jj8 (yn9 r) (xn1 (h r (.head _)).1 (h r (.head _)).2 (by show acc.length<_;omega))];have:=yh7 rs (acc++[r]) ys apex t (by rw[py];simp;omega) (fun x hx=>h x (.tail _ hx));rw [m9] at this;rw[<-List.singleton_append (l:=rs),<-this];rw[show Nat.beq (acc++[r]).length 0=false by rw[py];rfl]
theorem jy6:∀ (l zs:List Zo) (t:List UInt8),zs.length+l.length<=64->(∀ z ∈ l,z.ok=true/\∀ r ∈ z.rrs,r.In)->vj zs [] (yu l++t)=vj (zs++l.map nzZ) [] t
 |[],zs,t,_,_=>by rw[List.map_nil,m6];rfl
 |z :: l,zs,t,hl,h=>by
  simp only [ou] at hl;obtain⟨h1,h2⟩:=h z (.head _);have e:yu (z :: l)++t=ko z++10 :: (yn z.rrs++(yu l++t)):=by show(ko z++[10]++yn z.rrs++yu l)++t=_;simp
  rw[e,jj8 (ym5 z) (xn0 (Zo.ok_name h1) (by omega))];have h3:=yh7 z.rrs [] zs z.apex (yu l++t) (by have:=Zo.ok_len h1;simp;omega) (fun r hr=>⟨Zo.ok_rr h1 r hr,h2 r hr⟩);rw [gz] at h3;show vj (zs++[⟨z.apex,Nat.beq ([]:List RR).length 0,[]⟩]) [] _=_;rw[h3,jy6 l _ t (by rw[py];simp;omega) (fun x hx=>h x (.tail _ hx)),m9]
  rfl
theorem jy7(zs:List Zo):∀ (l hs:List Ho) (t:List UInt8),hs.length+l.length<=64->(∀ h ∈ l,HIn h)->vj zs hs (yw l++t)=vj zs (hs++l.map nzH) t
 |[],hs,t,_,_=>by rw[List.map_nil,m6];rfl
 |h :: l,hs,t,hl,hi=>by
  simp only [ou] at hl;have e:yw (h :: l)++t=yy h++10 :: (yw l++t):=by show(yy h++[10]++yw l)++t=_;simp
  rw[e,jj8 (yq1 h) (xn2 (hi h (.head _)) (by omega)),jy7 zs l _ t (by rw[py];simp;omega) (fun x hx=>hi x (.tail _ hx)),m9]
  rfl
def nzF(f:Fo):Fo:=mkF (f.zones.map nzZ) (f.hosts.map nzH)
theorem je7(zs:List Zo)(i:Nat):(zs.map nzZ).getD i default=nzZ (zs.getD i default):=by
 rw[List.getD,List.getD,o4];cases zs[i]? <;> rfl
theorem yp0(zs:List Zo)(n:List UInt8):j8 (zs.map nzZ) n=j8 zs n:=by
 unfold j8;rw[List.findIdx?_map];rfl
theorem zx0(zs:List Zo)(i:Nat):yi (zs.map nzZ) i=yi zs i:=by
 unfold yi;rw[<-List.map_take,<-List.map_drop,<-dw,dy];rfl
theorem xm7(zs:List Zo):qg4 (zs.map nzZ)=qg4 zs:=by
 have h1:∀ i a,qb2 (zs.map nzZ) i a=qb2 zs i a:=fun i a=>by
  unfold qb2;rw[zx0];cases zn a (yi zs i) none with
  |none=>rfl
  |some b=>exact yp0 zs _
 unfold qg4;rw[mn];congr 1;funext i;rw[je7,h1];congr 1;show(match qb2 zs i (zs.getD i default).apex with|none=>false|some a=>((zs.map nzZ).getD a default).cutL.any fun c=>fold c == fold (nzZ (zs.getD i default)).apex)=_;cases qb2 zs i (zs.getD i default).apex with
 |none=>rfl
 |some a=>show(((zs.map nzZ).getD a default).cutL.any _)=_;rw[je7];rfl
theorem za7(f:Fo):(nzF f).ok=f.ok:=by
 unfold Fo.ok nzF mkF;simp only[mn,xm7,je7];have h1:(f.zones.map nzZ).all Zo.ok=f.zones.all Zo.ok:=by rw[List.all_map];rfl
 have h2:(f.zones.map nzZ).map (fun z=>fold z.apex)=f.zones.map fun z=>fold z.apex:=by rw[dy];rfl
 have h3:zi f.zones.length (f.hosts.map nzH)=zi f.zones.length f.hosts:=by
  unfold zi;rw[dy,List.all_map];rfl
 rw[h1,h2,h3];rfl
theorem xm6(f:Fo):(nzF f).text=f.text:=by
 unfold Fo.text nzF mkF yu yw;simp only[List.flatMap_map]
 rfl
theorem Fo.Okf.hin{f:Fo}(h:f.Okf)(hi:f.In):∀ x ∈ f.hosts,HIn x:=fun x hx=>⟨hi.addr x hx,fun a ha=>by have:=h.host x hx a ha;omega⟩
theorem zo2{f:Fo}(hok:f.Okf)(hi:f.In)(t:List UInt8):vj [] [] (f.text++t)=vj (f.zones.map nzZ) (f.hosts.map nzH) t:=by
 unfold Fo.text;rw[m9,jy6 f.zones [] _ (by have:=hok.nz;simp;omega) (fun z hz=>⟨hok.zone z hz,hi.rr z hz⟩),gz];exact jy7 _ f.hosts [] t (by have:=hok.nh;simp;omega) (hok.hin hi)
theorem zj7{f:Fo}(hok:f.ok=true)(hi:f.In):qf0 f.text=(nzF f,0):=by
 have hk:=Fo.ok_f hok;have h1:=zo2 hk hi [];rw [m6] at h1;unfold qf0;rw[show xn (f.text.length+1) [] [] f.text=some (f.zones.map nzZ,f.hosts.map nzH) from h1];show(if za (nzF f)=(f.text,0) then (nzF f,0) else (nilF,6))=_;rw[if_pos];unfold za;rw[za7,hok,if_pos rfl,xm6]
theorem yg8:∀ (rs:List RR) (t:List UInt8),(∀ r ∈ rs,r.line.length<=9300)->Short t->Short (yn rs++t)
 |[],t,_,h=>h
 |r :: rs,t,hr,h=>by
  have e:yn (r :: rs)++t=r.line++10 :: (yn rs++t):=by show(r.line++[10])++yn rs++t=_;simp
  rw[e];have:=hr r (.head _);exact .cons _ _ (yn9 r) (by omega) (yg8 rs t (fun x hx=>hr x (.tail _ hx)) h)
theorem jx8:∀ (l:List Zo) (t:List UInt8),(∀ z ∈ l,z.ok=true/\∀ r ∈ z.rrs,r.In)->Short t->Short (yu l++t)
 |[],t,_,h=>h
 |z :: l,t,hz,h=>by
  obtain⟨h1,h2⟩:=hz z (.head _);have e:yu (z :: l)++t=ko z++10 :: (yn z.rrs++(yu l++t)):=by show(ko z++[10]++yn z.rrs++yu l)++t=_;simp
  rw[e];have:=ja9 (Zo.ok_name h1);exact .cons _ _ (ym5 z) (by unfold ko;rw[py];show 5+_<=_;omega) (yg8 _ _ (fun r hr=>qs6 (Zo.ok_rr h1 r hr) (h2 r hr)) (jx8 l t (fun x hx=>hz x (.tail _ hx)) h))
theorem jx9:∀ (l:List Ho),(∀ x ∈ l,HIn x/\x.2.2.length<=80000)->Short (yw l)
 |[],_=>.last [] (by simp) (by simp)
 |x :: l,h=>by
  obtain⟨⟨h1,h2⟩,h3⟩:=h x (.head _);have e:yw (x :: l)=yy x++10 :: yw l:=by show(yy x++[10])++yw l=_;simp
  rw[e];have h4:=qe6 x.1.toNat (by omega);have h5:=jc3 (l:=x.2.2) (fun a ha=>by have:=h2 a ha;omega);exact .cons _ _ (yq1 x) (by unfold yy;rw[py,py];show 5+_+_<=_;omega) (jx9 l fun y hy=>h y (.tail _ hy))
theorem zn6{f:Fo}(hok:f.Okf)(hi:f.In)(hl:∀ x ∈ f.hosts,x.2.2.length<=80000):Short f.text:=by
 unfold Fo.text;exact jx8 f.zones _ (fun z hz=>⟨hok.zone z hz,hi.rr z hz⟩) (jx9 f.hosts fun x hx=>⟨hok.hin hi x hx,hl x hx⟩)
def wj(z:Zo):Bool:=decide (z.apex.length<=1000) && (decide (z.rrs.length<=60) && z.rrs.all fun r=>decide (r.d.length<=5000) && decide (r.nm.length<=1000))
theorem zn5(z:Zo):FnOk Tryz.prog 18 [z.V] (.d (.int .i64 (if wj z then 1 else 0))):=by
 refine qu (TT:=TT) (IN:=qe []) qg qh mixed 1000 Tryz.func18 rfl (qd Tryz.func18 (by kernel_rfl) rfl) rfl 32 (by kernel_rfl) ?_;conv=>whnf
 refine⟨fun h1=>?_,fun h1=>?_⟩
 ·have h1:¬ z.apex.length<=1000:=by
   have h:(z.apex.length:Int) > 1000:=pu h1;omega
  rw[show wj z=false by unfold wj;rw[po h1];rfl];conv=>whnf
  all_goals exact rfl
 have h1:z.apex.length<=1000:=by
  have h:¬ (z.apex.length:Int) > 1000:=pw h1;omega
 conv=>whnf
 refine⟨fun h2=>?_,fun h2=>?_⟩
 ·have h2:¬ z.rrs.length<=60:=by
   have h:(z.rrs.length:Int) > 60:=pu h2;omega
  rw[show wj z=false by unfold wj;rw[po h2,fx,gu]];conv=>whnf
  all_goals exact rfl
 have h2:z.rrs.length<=60:=by
  have h:¬ (z.rrs.length:Int) > 60:=pw h2;omega
 have hs:wj z=z.rrs.all fun r=>decide (r.d.length<=5000) && decide (r.nm.length<=1000):=by unfold wj;rw[pn h1,pn h2];rfl
 rw[hs];conv=>whnf
 refine .inv Nat (fun i=>i<=z.rrs.length/\(z.rrs.take i).all (fun r=>decide (r.d.length<=5000) && decide (r.nm.length<=1000))=true) (fun i=>[(18,iV i)]) (fun i=>[]) (fun i=>z.rrs.length - i) ⟨0,[0],⟨pz _,rfl⟩,?_⟩ ?_
 ·conv=>whnf
  exact rZ2
 intro i hi;obtain⟨hi,hti⟩:=hi;conv=>whnf
 refine⟨fun h3=>?_,fun h3=>?_⟩
 ·have h3:i<z.rrs.length:=by
   have h:(i:Int)<z.rrs.length:=pu h3;omega
  have hw1:=w64s i (by omega);obtain⟨r,hr⟩:∃ r,z.rrs.getD i default=r:=⟨_,rfl⟩;have hrl:z.rrs[i]? = some r:=by rw[<-hr,List.getD,pp h3];rfl
  have hbad:(decide (r.d.length<=5000) && decide (r.nm.length<=1000))=false->(z.rrs.all fun r=>decide (r.d.length<=5000) && decide (r.nm.length<=1000))=false:=fun h=>by
   rw[ax];exact⟨r,ov hrl,by rw[h];decide⟩
  conv=>whnf
  refine⟨by omega,?_⟩;conv=>whnf
  rw[px,hr];refine⟨fun h4=>?_,fun h4=>?_⟩
  ·have h4:¬ r.d.length<=5000:=by
    have h:(r.d.length:Int) > 5000:=pu h4;omega
   rw[hbad (by rw[po h4];rfl)];conv=>whnf
   all_goals exact rfl
  have h4:r.d.length<=5000:=by
   have h:¬ (r.d.length:Int) > 5000:=pw h4;omega
  conv=>whnf
  refine⟨fun h5=>?_,fun h5=>?_⟩
  ·have h5:¬ r.nm.length<=1000:=by
    have h:(r.nm.length:Int) > 1000:=pu h5;omega
   rw[hbad (by rw[po h5,gu])];conv=>whnf
   all_goals exact rfl
  have h5:r.nm.length<=1000:=by
   have h:¬ (r.nm.length:Int) > 1000:=pw h5;omega
  conv=>whnf
  rw[hw1];refine⟨i+1,[0],⟨h3,by rw[mp,hrl,bw,hti];simp[h4,h5]⟩,by omega,?_⟩;conv=>whnf
  exact rZ2
 ·have h3:i=z.rrs.length:=by
   have h:¬ (i:Int)<z.rrs.length:=pw h3;omega
  subst h3;rw [mr] at hti;rw[hti];conv=>whnf
  all_goals exact rfl
def Fo.small(f:Fo):Bool:=decide (f.zones.length<=8) && (decide (f.hosts.length<=12) && f.zones.all wj)
theorem zn4(f:Fo):FnOk Tryz.prog 6 [f.V] (.d (.int .i64 (if f.small then 1 else 0))):=by
 refine qu (TT:=TT) (IN:=qe []) qg qh mixed 1000 Tryz.func6 rfl (qd Tryz.func6 (by kernel_rfl) rfl) rfl 25 (by kernel_rfl) ?_;conv=>whnf
 refine⟨fun h1=>?_,fun h1=>?_⟩
 ·have h1:¬ f.zones.length<=8:=by
   have h:(f.zones.length:Int) > 8:=pu h1;omega
  rw[show f.small=false by unfold Fo.small;rw[po h1];rfl];conv=>whnf
  all_goals exact rfl
 have h1:f.zones.length<=8:=by
  have h:¬ (f.zones.length:Int) > 8:=pw h1;omega
 conv=>whnf
 refine⟨fun h2=>?_,fun h2=>?_⟩
 ·have h2:¬ f.hosts.length<=12:=by
   have h:(f.hosts.length:Int) > 12:=pu h2;omega
  rw[show f.small=false by unfold Fo.small;rw[po h2,fx,gu]];conv=>whnf
  all_goals exact rfl
 have h2:f.hosts.length<=12:=by
  have h:¬ (f.hosts.length:Int) > 12:=pw h2;omega
 have hs:f.small=f.zones.all wj:=by unfold Fo.small;rw[pn h1,pn h2];rfl
 rw[hs];conv=>whnf
 refine .inv Nat (fun i=>i<=f.zones.length/\(f.zones.take i).all wj=true) (fun i=>[(18,iV i)]) (fun i=>[]) (fun i=>f.zones.length - i) ⟨0,[0],⟨pz _,rfl⟩,?_⟩ ?_
 ·conv=>whnf
  exact rZ2
 intro i hi;obtain⟨hi,hti⟩:=hi;conv=>whnf
 refine⟨fun h3=>?_,fun h3=>?_⟩
 ·have h3:i<f.zones.length:=by
   have h:(i:Int)<f.zones.length:=pu h3;omega
  have hw1:=w64s i (by omega);obtain⟨z,hzd⟩:∃ z,f.zones.getD i default=z:=⟨_,rfl⟩;have hzl:f.zones[i]? = some z:=by rw[<-hzd,List.getD,pp h3];rfl
  conv=>whnf
  refine⟨by omega,?_⟩;conv=>whnf
  rw[px,hzd];refine oD (zn5 z) rfl rfl ?_;cases hz:wj z with
  |false =>
   have hb:f.zones.all wj=false:=by
    rw[ax];exact⟨z,ov hzl,by rw[hz];decide⟩
   rw[hb,if_neg (by decide)];conv=>whnf
   refine brT rfl ?_;conv=>whnf
   all_goals exact rfl
  |true =>
   rw[if_pos rfl];conv=>whnf
   refine brF rfl ?_;conv=>whnf
   rw[hw1];refine⟨i+1,[0],⟨h3,by rw[mp,hzl,bw,hti];simp[hz]⟩,by omega,?_⟩;conv=>whnf
   exact rZ2
 ·have h3:i=f.zones.length:=by
   have h:¬ (i:Int)<f.zones.length:=pw h3;omega
  subst h3;rw [mr] at hti;rw[hti];conv=>whnf
  all_goals exact rfl
theorem Fo.fit_sm{f:Fo}(h:f.small=true):f.Fit:=fun z hz=>by
 unfold Fo.small at h;simp only [p8,l8] at h;have h1:=h.2.2 z hz;unfold wj at h1;simp only [p8,lx,l8] at h1;exact⟨by omega,fun r hr=>by have:=h1.2.2 r hr;omega⟩
theorem zw6:qf0 []=(nilF,6):=by
 unfold qf0;show(if za (mkF [] [])=([],0) then (mkF [] [],(0:Int)) else (nilF,6))=_;rw[if_neg];rw[show za (mkF [] [])=([],2) by kernel_rfl];exact fun h=>absurd (congrArg Prod.snd h) (by decide)
theorem xc9{f:Fo}(hok:f.Okf)(hi:f.In)(hl:∀ x ∈ f.hosts,x.2.2.length<=100):f.text.length<=1099511627776:=by
 have h1:=yb3 (l:=f.zones) fun z hz=>⟨hok.zone z hz,hi.rr z hz⟩
 have h2:=yd7 (l:=f.hosts) fun a ha=>jm1 (hi.addr a ha) (fun b hb=>by have:=hok.host a ha b hb;omega) (hi.len a ha)
 have:=hok.nz;have:=hok.nh;have h3:∀ l:List Ho,(∀ x ∈ l,x ∈ f.hosts)->(yw l).length<=2000 * l.length:=fun l=>by
  induction l with
  |nil=>exact fun _=>pr _
  |cons a l ih =>
   intro h;have ha:=h a (.head _);have h1:=ih fun x hx=>h x (.tail _ hx)
   have h4:=qe6 a.1.toNat (by have:=hi.addr a ha;omega);have h5:=jc3 (l:=a.2.2) (fun b hb=>by have:=hok.host a ha b hb;omega);have h6:=hl a ha;show(yy a++[10]++yw l).length<=_;unfold yy;simp only[py,ou,gv];have:hostW.length=5:=rfl;omega
 have h4:=h3 f.hosts fun x hx=>hx
 unfold Fo.text;rw[py];omega
def eqF(t u:Int)(a b:List (List UInt8)):Bool:=a.map (qy t) == b.map (qy u)
def zt(a b:St):Bool:=a.ok && (b.ok && (zg a.nm b.nm && (a.ty == b.ty && eqF a.ty b.ty a.data b.data)))
theorem jp9(a b:St):FnOk Tryz.prog 46 [a.V,b.V] (.d (.bool (zt a b))):=by
 refine qu (TT:=TT) (IN:=qe [(78,Tryz.f78,3),(79,Tryz.f79,4)]) qg (jh (jh qh Tryz.func79 (by kernel_rfl) (by kernel_rfl)) Tryz.func78 (by kernel_rfl) (by kernel_rfl)) mixed 1000 Tryz.func46 rfl (qd Tryz.func46 (by kernel_rfl) rfl) rfl 32 (by kernel_rfl) ?_;conv=>whnf
 refine oD (yh1 a.nm a.ty a.ttl a.z a.data) rfl rfl ?_;rw[show k7 a.nm a.ty a.ttl a.data=a.ok from rfl];cases hok:a.ok with
 |false =>
  rw[show zt a b=false by unfold zt;rw[hok];rfl];conv=>whnf
  repeat(first|(refine brT rfl ?_;conv=>whnf))
  try exact rfl
 |true =>
  conv=>whnf
  refine brF rfl ?_;conv=>whnf
  refine oD (yh1 b.nm b.ty b.ttl b.z b.data) rfl rfl ?_;rw[show k7 b.nm b.ty b.ttl b.data=b.ok from rfl];cases hok2:b.ok with
  |false =>
   rw[show zt a b=false by unfold zt;rw[hok,hok2];rfl];conv=>whnf
   repeat(first|(refine brT rfl ?_;conv=>whnf))
   try exact rfl
  |true =>
   conv=>whnf
   refine brF rfl ?_;conv=>whnf
   refine oD (yp8 a.nm b.nm) rfl rfl ?_;conv=>whnf
   cases hs:zg a.nm b.nm with
   |false =>
    rw[show zt a b=false by unfold zt;rw[hok,hok2,hs];rfl];repeat(first|(refine brT rfl ?_;conv=>whnf))
    try exact rfl
   |true =>
    refine brF rfl ?_;conv=>whnf
    cases ht:a.ty == b.ty with
    |false =>
     rw[show zt a b=false by unfold zt;rw[hok,hok2,hs,ht];rfl];refine brT (by show(!(a.ty == b.ty))=true;rw[ht];rfl) ?_;conv=>whnf
     try exact rfl
    |true =>
     rw[show zt a b=eqF a.ty b.ty a.data b.data by unfold zt;rw[hok,hok2,hs,ht];rfl];have h64:a.data.length<=64:=by
      unfold St.ok k7 at hok;simp only [p8,lx] at hok;exact hok.1.2.2
     refine brF (by show(!(a.ty == b.ty))=false;rw[ht];rfl) ?_;conv=>whnf
     refine⟨fun h1=>?_,fun h1=>?_⟩
     ·have h:a.data.length≠b.data.length:=by intro e;rw [e] at h1;simp at h1
      rw[show eqF a.ty b.ty a.data b.data=false from yu0 (by simpa using h)];conv=>whnf
      try exact rfl
     have hl:a.data.length=b.data.length:=by simp at h1;omega
     conv=>whnf
     refine .inv Nat (fun i=>i<=a.data.length/\eqF a.ty b.ty (a.data.drop i) (b.data.drop i)=eqF a.ty b.ty a.data b.data) (fun i=>[(17,iV i)]) (fun _=>[]) (fun i=>a.data.length - i) ⟨0,[0,1],⟨pz _,rfl⟩,?_⟩ ?_
     ·conv=>whnf
      exact rZ6
     rintro i ⟨hi,hrest⟩
     conv=>whnf
     refine⟨fun c5=>?_,fun c5=>?_⟩
     ·have c5':i<a.data.length:=(by have h:(i:Int)<a.data.length:=pu c5;omega);obtain⟨q,hq⟩:∃ q,a.data[i]?.getD []=q:=⟨_,rfl⟩;obtain⟨r,hr⟩:∃ r,b.data[i]?.getD []=r:=⟨_,rfl⟩;have hda:a.data.drop i=q :: a.data.drop (i+1):=by
       rw[l6 c5',<-hq,pp c5'];rfl
      have hdb:b.data.drop i=r :: b.data.drop (i+1):=by
       rw[l6 (by omega),<-hr,pp (by omega)]
       rfl
      have hst:(qy a.ty q == qy b.ty r && eqF a.ty b.ty (a.data.drop (i+1)) (b.data.drop (i+1)))=eqF a.ty b.ty a.data b.data:=by rw[<-hrest,hda,hdb];rfl
      have hw1:=w64s i (by omega);conv=>whnf
      refine⟨by omega,?_⟩;conv=>whnf
      refine⟨by omega,?_⟩;conv=>whnf
      rw[px,hq,hr];refine .data _ (qr9 a.ty q) rfl rfl ?_;conv=>whnf
      refine .data _ (qr9 b.ty r) rfl rfl ?_;conv=>whnf
      cases he:qy a.ty q == qy b.ty r
      ·rw [he,fx] at hst;rw[<-hst];refine brT rfl ?_;conv=>whnf
       try exact rfl
      ·rw [he,l7] at hst;refine brF rfl ?_;conv=>whnf
       rw[hw1];refine⟨i+1,[0,1],⟨c5',hst⟩,by omega,?_⟩;conv=>whnf
       exact rZ6
     have hia:i=a.data.length:=(by have h:¬ (i:Int)<a.data.length:=pw c5;omega);rw [r9 (by omega),r9 (by omega)] at hrest;rw[<-hrest];conv=>whnf
     exact rfl
def qf7(l m:List St)(i:Nat):Bool:=(List.range i).all fun j=>zt (l.getD j default) (m.getD j default)
def qo9(l m:List St):Bool:=l.length == m.length && qf7 l m l.length
theorem zn9(l m:List St)(i:Nat):qf7 l m (i+1)=(qf7 l m i && zt (l.getD i default) (m.getD i default)):=by
 unfold qf7;rw[List.range_succ,bw];simp
theorem zu7{l m:List St}{i:Nat}(hi:i<l.length)(h:zt (l.getD i default) (m.getD i default)=false):qf7 l m l.length=false:=by
 unfold qf7;rw[ax];exact⟨i,lr.2 hi,by rw[h];decide⟩
theorem zz7(y z:Bool)(l m:List St)(hl:l.length<=100000):FnOk Tryz.prog 45 [.d (stsD y l),.d (stsD z m),.fn 46 []] (.d (.bool (qo9 l m))):=by
 refine qu (TT:=TT) (IN:=qe []) qg qh mixed 1000 Tryz.func45 rfl (qd Tryz.func45 (by kernel_rfl) rfl) rfl 29 (by kernel_rfl) ?_;unfold qo9;conv=>whnf
 by_cases hlen:l.length=m.length
 case neg =>
  rw[show(l.length == m.length)=false by simpa using hlen,fx];refine brT (by rw[bne_iff_ne];omega) ?_;conv=>whnf
  all_goals exact rfl
 rw[show(l.length == m.length)=true by simpa using hlen,l7];refine brF (by rw[bne_eq_false_iff_eq];omega) ?_;conv=>whnf
 refine .inv Nat (fun i=>i<=l.length/\qf7 l m i=true) (fun i=>[(17,iV i)]) (fun _=>[]) (fun i=>l.length - i) ⟨0,[],⟨pz _,rfl⟩,?_⟩ ?_
 ·conv=>whnf
  exact rZ2
 intro i hi;obtain⟨hi,hti⟩:=hi;conv=>whnf
 refine⟨fun h1=>?_,fun h1=>?_⟩
 ·have h1:i<l.length:=by
   have h:(i:Int)<l.length:=pu h1;omega
  have hw1:=w64s i (by omega);have hnx:=zn9 l m i;rw [hti,l7] at hnx;have hbad:=zu7 (m:=m) h1;conv=>whnf
  refine⟨by omega,?_⟩;conv=>whnf
  refine⟨by omega,?_⟩;conv=>whnf
  rw[px];generalize l.getD i default=a at hnx hbad ⊢;generalize m.getD i default=b at hnx hbad ⊢;refine oD (jp9 a b) rfl rfl ?_;cases hs:zt a b with
  |false =>
   rw[hbad hs];conv=>whnf
   refine brT rfl ?_;conv=>whnf
   all_goals exact rfl
  |true =>
   conv=>whnf
   refine brF rfl ?_;conv=>whnf
   rw[hw1];refine⟨i+1,[],⟨h1,by rw[hnx,hs]⟩,by omega,?_⟩;conv=>whnf
   exact rZ2
 ·have h1:i=l.length:=by
   have h:¬ (i:Int)<l.length:=pw h1;omega
  subst h1;conv=>whnf
  rw[hti];all_goals exact rfl
def ut(a b:Ver):Bool:=a.code == b.code && (qo9 a.chain b.chain && (if a.ans.data.length=0/\b.ans.data.length=0 then true else zt a.ans b.ans))
theorem xg6(a b:Ver)(hl:a.chain.length<=100000):FnOk Tryz.prog 17 [a.V,b.V] (.d (.bool (ut a b))):=by
 refine qu (TT:=TT) (IN:=qe []) qg qh mixed 1000 Tryz.func17 rfl (qd Tryz.func17 (by kernel_rfl) rfl) rfl 33 (by kernel_rfl) ?_;conv=>whnf
 refine⟨fun h1=>?_,fun h1=>?_⟩
 ·have h1:(a.code == b.code)=false:=by simpa using h1
  rw[show ut a b=false by unfold ut;rw[h1];rfl];conv=>whnf
  all_goals exact rfl
 have h1:(a.code == b.code)=true:=by simpa using h1
 conv=>whnf
 refine oD (zz7 a.chain.isEmpty b.chain.isEmpty a.chain b.chain hl) rfl rfl ?_;cases h2:qo9 a.chain b.chain with
 |false =>
  rw[show ut a b=false by unfold ut;rw[h1,h2];rfl];conv=>whnf
  refine brT rfl ?_;conv=>whnf
  all_goals exact rfl
 |true =>
  have hs:ut a b=if a.ans.data.length=0/\b.ans.data.length=0 then true else zt a.ans b.ans:=by unfold ut;rw[h1,h2];rfl
  rw[hs];conv=>whnf
  refine brF rfl ?_;conv=>whnf
  refine⟨fun h3=>?_,fun h3=>?_⟩
  ·have h3:a.ans.data.length=0:=by
    have h:(a.ans.data.length:Int)=0:=by simpa using h3
    omega
   conv=>whnf
   refine⟨fun h4=>?_,fun h4=>?_⟩
   ·have h4:b.ans.data.length=0:=by
     have h:(b.ans.data.length:Int)=0:=by simpa using h4
     omega
    rw[if_pos ⟨h3,h4⟩];conv=>whnf
    all_goals exact rfl
   ·have h4:¬ b.ans.data.length=0:=by
     have h:¬ (b.ans.data.length:Int)=0:=by simpa using h4
     omega
    rw[if_neg (fun h=>h4 h.2)];conv=>whnf
    refine oD (jp9 a.ans b.ans) rfl rfl ?_;conv=>whnf
    all_goals exact rfl
  ·have h3:¬ a.ans.data.length=0:=by
    have h:¬ (a.ans.data.length:Int)=0:=by simpa using h3
    omega
   rw[if_neg (fun h=>h3 h.1)];conv=>whnf
   refine oD (jp9 a.ans b.ans) rfl rfl ?_;conv=>whnf
   all_goals exact rfl
theorem yc1{s:St}(h:s.ok=true):zt s s=true:=by
 unfold zt eqF;rw[h,zo0 ((St.ok_iff s).1 h).1];simp
theorem zn8{l:List St}(h:∀ s ∈ l,s.ok=true):qo9 l l=true:=by
 unfold qo9 qf7;rw[beq_self_eq_true,l7,l8];intro i hi;have hi:=lr.1 hi;have:l.getD i default=l[i]:=by rw[gr,pp hi];rfl
 rw[this];exact yc1 (h _ (d5 hi))
theorem xc4{v:Ver}(h:∀ s ∈ v.chain,s.ok=true)(ha:v.ans.data.length=0\/v.ans.ok=true):ut v v=true:=by
 unfold ut;rw[beq_self_eq_true,zn8 h,l7,l7];split
 ·rfl
 ·rename_i hc;exact yc1 (ha.resolve_left (fun e=>hc ⟨e,e⟩))
theorem yo9{zs:List Zo}(hz:∀ z ∈ zs,z.ok=true){ty:Int}:∀ (k:Nat) (name:List UInt8) (chain:List St),(∀ s ∈ chain,s.ok=true)->chain.length<=8 ->
 (∀ s ∈ (ofF zs ty k name chain).chain,s.ok=true)/\((ofF zs ty k name chain).ans.data.length=0\/(ofF zs ty k name chain).ans.ok=true)/\(ofF zs ty k name chain).chain.length<=8
 |0,_,_,_,_=>⟨fun s hs=>(by cases hs),.inl rfl,pz _⟩
 |k+1,name,chain,h,hl=>by
  unfold ofF;split
  ·split
   ·exact⟨fun s hs=>(by cases hs),.inl rfl,pz _⟩
   ·split
    ·rename_i hf;exact⟨h,.inr (jk2 hf (xk7 hz hf)).1,hl⟩
    ·split
     ·exact⟨h,.inl rfl,hl⟩
     ·rename_i h5;split
      ·exact⟨fun s hs=>(by cases hs),.inl rfl,pz _⟩
      ·rename_i at_ _ _ h8;have h52:(q9 name 5 (zs.getD at_ default).rrs).2=0:=Classical.byContradiction fun e=>h5 (.inr (.inl e))
       exact yo9 hz k _ _ (fun s hs=>(o3.1 hs).elim (h s) fun hs=>lv.1 hs ▸ (jk2 h52 (by decide)).1) (by rw[py,tn];omega)
  ·exact⟨fun s hs=>(by cases hs),.inl rfl,pz _⟩
theorem yu6(zs:List Zo)(n:List UInt8):∀ (k a:Nat),yz (zs.map nzZ) n k a=yz zs n k a
 |0,_=>rfl
 |k+1,a=>by
  unfold yz;rw[o4];cases zs[a]? with
  |none=>rfl
  |some z =>
   show(match z.cut n with|none=>some a|some c=>match j8 (zs.map nzZ) c with|none=>none|some next=>yz (zs.map nzZ) n k next)=match z.cut n with|none=>some a|some c=>match j8 zs c with|none=>none|some next=>yz zs n k next
   cases z.cut n with
   |none=>rfl
   |some c =>
    simp only[yp0];cases j8 zs c with
    |none=>rfl
    |some m=>exact yu6 zs n k m
theorem za8(zs:List Zo)(ty:Int):∀ (k:Nat) (n:List UInt8) (c:List St),ofF (zs.map nzZ) ty k n c=ofF zs ty k n c
 |0,_,_=>rfl
 |k+1,n,c=>by
  unfold ofF;rw[yu6];simp only[je7];by_cases hn:qb n
  ·rw[if_pos hn,if_pos hn];cases yz zs n 300 0 with
   |none=>rfl
   |some a =>
    show(if (q9 n ty (zs.getD a default).rrs).2=0 then _ else if ty=5\/(q9 n 5 (zs.getD a default).rrs).2≠0\/(q9 n 5 (zs.getD a default).rrs).1.data.length=0 then _ else if c.length >= 8 then _ else ofF (zs.map nzZ) ty k ((q9 n 5 (zs.getD a default).rrs).1.data.headD []) (c++[(q9 n 5 (zs.getD a default).rrs).1]))=_;rw[za8 zs ty k];rfl
  ·rw[if_neg hn,if_neg hn]
theorem xs6(f:Fo)(q:Q):ofR (nzF f) q=ofR f q:=by
 unfold ofR;rw[za7];show(if f.ok then ofF (f.zones.map nzZ) q.ty 20 q.nm [] else _)=_;rw[za8]
theorem xs8{f:Fo}(h:f.Fit):(nzF f).Fit:=fun z hz=>by
 obtain⟨y,hy,rfl⟩:=lz.1 hz;exact h y hy
theorem xs7{f:Fo}(h:f.Len):(nzF f).Len:=fun a ha=>by
 obtain⟨y,hy,rfl⟩:=lz.1 ha;exact h y hy
theorem xa8:FnOk Tryz.prog 15 [] (.d (.bool true)):=by
 have c:=jp0 [1,97,3,111,114,103,0];rw [show qo [1,97,3,111,114,103,0]=2 by kernel_rfl] at c;refine qu (TT:=TT) (IN:=qe []) qg qh mixed 1000 Tryz.func15 rfl (qd Tryz.func15 (by kernel_rfl) rfl) rfl 3 (by kernel_rfl) ?_;conv=>whnf
 refine oD c rfl rfl ?_;conv=>whnf
 all_goals exact rfl
theorem zt4(f:Fo)(q:Q)(hrr:∀ z ∈ f.zones,∀ r ∈ z.rrs,r.In)(had:∀ h ∈ f.hosts,0<=h.1/\h.1<=4294967295):FnOk Tryz.prog 5 [f.V,.agg [.d (.str q.nm),.d (.int .u16 q.ty),.d (.int .u16 q.cl)]] (.d (.bool true)):=by
 refine qu (TT:=TT) (IN:=qe []) qg qh mixed 1000 Tryz.func5 rfl (qd Tryz.func5 (by kernel_rfl) rfl) rfl 78 (by kernel_rfl) ?_;conv=>whnf
 refine oD xa8 rfl rfl ?_;conv=>whnf
 refine brF rfl ?_;conv=>whnf
 refine oD (zn4 f) rfl rfl ?_;cases hsm:f.small with
 |false =>
  conv=>whnf
  repeat(first|(refine brF rfl ?_;conv=>whnf)|(refine brT rfl ?_;conv=>whnf))
 |true =>
 have hfit:=Fo.fit_sm hsm;obtain⟨hz8,hh12⟩:f.zones.length<=8/\f.hosts.length<=12:=by
  unfold Fo.small at hsm;simp only [p8,lx] at hsm;exact⟨hsm.1,hsm.2.1⟩
 conv=>whnf
 repeat(first|(refine brF rfl ?_;conv=>whnf)|(refine brT rfl ?_;conv=>whnf))
 refine .inv Nat (fun i=>i<=f.hosts.length/\∀ x ∈ f.hosts.take i,x.2.2.length<=100) (fun i=>[(23,.d (.int .i64 i))]) (fun _=>[]) (fun i=>f.hosts.length - i) ⟨0,[0,1],⟨pz _,fun x hx=>(by cases hx)⟩,?_⟩ ?_
 ·conv=>whnf
  exact rZ6
 intro i hi;obtain⟨hi,hti⟩:=hi;conv=>whnf
 refine⟨fun h2=>?_,fun h2=>?_⟩
 ·have h2:i<f.hosts.length:=by
   have h:(i:Int)<f.hosts.length:=pu h2;omega
  have hw1:=w64s i (by omega);obtain⟨x,hx⟩:∃ x,f.hosts.getD i default=x:=⟨_,rfl⟩;have hxl:f.hosts[i]? = some x:=by rw[<-hx,List.getD,pp h2];rfl
  conv=>whnf
  refine⟨by omega,?_⟩;conv=>whnf
  rw[px,hx];conv=>whnf
  refine⟨fun h3=>?_,fun h3=>?_⟩
  ·conv=>whnf
   repeat(first|(refine brF rfl ?_;conv=>whnf)|(refine brT rfl ?_;conv=>whnf))
  have h3:x.2.2.length<=100:=by
   have h:¬ (x.2.2.length:Int) > 100:=pw h3;omega
  conv=>whnf
  rw[hw1];refine⟨i+1,[0,1],⟨h2,fun y hy=>?_⟩,by omega,?_⟩
  ·rw [mp,hxl] at hy;rcases o3.1 hy with hy|hy
   ·exact hti y hy
   ·cases lv.1 hy;exact h3
  conv=>whnf
  exact rZ6
 have h2:i=f.hosts.length:=by
  have h:¬ (i:Int)<f.hosts.length:=pw h2;omega
 subst h2;rw [mr] at hti;have hin:f.In:=⟨hrr,had,fun x hx=>by have:=hti x hx;omega⟩;have hchk:=yj9 f hfit hin.Len;have htx:=jo7 f hfit hin;conv=>whnf
 refine oD htx rfl rfl ?_;cases hok:f.ok with
 |false =>
  rw [hok] at hchk;rw[show za f=([],2) by unfold za;rw[hok];rfl];have hp:=yk5 [] (by decide) (Short.of 0 [] (by decide) (by decide));rw [zw6] at hp;conv=>whnf
  refine oD hp rfl rfl ?_;conv=>whnf
  repeat(first|(refine brF rfl ?_;conv=>whnf)|(refine brT rfl ?_;conv=>whnf))
  refine oD hchk rfl rfl ?_;conv=>whnf
  all_goals exact rfl
 |true =>
  have hk:=Fo.ok_f hok;rw[show za f=(f.text,0) by unfold za;rw[hok];rfl];have hp:=yk5 f.text (xc9 hk hin hti) (zn6 hk hin fun x hx=>by have:=hti x hx;omega);rw [zj7 hok hin] at hp;have ho1:=yy7 f hfit hin.Len q;have ho2:=yy7 (nzF f) (xs8 hfit) (xs7 hin.Len) q;rw [xs6] at ho2;have hs:(ofR f q).chain.length<=8/\ut (ofR f q) (ofR f q)=true:=by
   unfold ofR;rw[hok,if_pos rfl];obtain⟨a1,a2,a3⟩:=yo9 (zs:=f.zones) (fun z hz=>hk.zone z hz) (ty:=q.ty) 20 q.nm [] (fun s hs=>by cases hs) (pz _);exact⟨a3,xc4 a1 a2⟩
  have hsm:=xg6 (ofR f q) (ofR f q) (by omega);rw [hs.2] at hsm;generalize ofR f q=v at ho1 ho2 hsm;conv=>whnf
  refine oD hp rfl rfl ?_;conv=>whnf
  repeat(first|(refine brF rfl ?_;conv=>whnf)|(refine brT rfl ?_;conv=>whnf))
  refine oD ho1 rfl rfl ?_;conv=>whnf
  refine oD ho2 rfl rfl ?_;conv=>whnf
  repeat(first|(refine brF rfl ?_;conv=>whnf)|(refine brT rfl ?_;conv=>whnf))
  refine brT (beq_self_eq_true _) ?_;conv=>whnf
  refine⟨fun hw=>?_,fun hw=>?_⟩
  ·conv=>whnf
   repeat(first|(refine brF rfl ?_;conv=>whnf)|(refine brT rfl ?_;conv=>whnf))
   all_goals exact rfl
  ·conv=>whnf
   repeat(first|(refine brF rfl ?_;conv=>whnf)|(refine brT rfl ?_;conv=>whnf))
   refine oD hsm rfl rfl ?_;conv=>whnf
   all_goals exact rfl
end Go.Proofs.YtoefgnnkajhmiaaGreatDoor
