/-
  Part of the proof: lemmas about the functions that the row calls, and about the steps of a run. Conditions: those ahead of each lemma.
-/
import Derived.Test.YtoefgnnkajhmiaaGreatDoorB3
set_option linter.unusedVariables false
set_option linter.unusedSimpArgs false
set_option maxRecDepth 100000
set_option maxHeartbeats 64000000
namespace Go.Proofs.YtoefgnnkajhmiaaGreatDoor
open Go Go.Eng
theorem go31_cat:∀ (s t:List UInt8) (n m:Nat),go31 n s = .ok m->go31 n (s++t)=go31 m t
 |[],t,n,m,h=>by cases h;rfl
 |c :: s,t,n,m,h=>by
  rw[gq]
  conv=>lhs;unfold go31
  unfold go31 at h
  split at h
  ·rename_i h1
   rw[if_pos h1]
   split at h
   ·cases h
   ·rename_i h2
    rw[if_neg h2]
    exact go31_cat s t _ m h
  ·cases h
theorem go31_one(n d:Nat)(hd:d<10)(h:10 * n+d<=2147483647):go31 n [UInt8.ofNat (48+d)] = .ok (10 * n+d):=by
 have e:(UInt8.ofNat (48+d)).toNat=48+d:=by rw[UInt8.toNat_ofNat'];omega
 unfold go31
 rw[e,if_pos (by omega),if_neg (by omega)]
 unfold go31
 rw[show 48+d - 48=d by omega]
theorem go31_dec(n:Nat):n<=2147483647->go31 0 (Lib.decDigits n) = .ok n:=by
 induction n using Nat.strongRecOn with
 |ind n ih =>
  intro h
  by_cases hn:n<10
  ·rw[Lib.decDigits_one hn]
   have:=go31_one 0 n hn (by omega)
   rwa [show 10 * 0+n=n by omega] at this
  ·rw[Lib.decDigits,dif_neg hn,go31_cat _ _ 0 (n / 10) (ih (n / 10) (by omega) (by omega)),go31_one _ _ (by omega) (by omega)]
   rw[show 10 * (n / 10)+n % 10=n by omega]
theorem num31_dec{n:Nat}(h:n<=2147483647):y6 (Lib.decDigits n) = .ok n:=by
 unfold y6
 rw[if_neg (dec_ne n),go31_dec n h]
theorem dec_no32(n:Nat):(32:UInt8) ∉ Lib.decDigits n:=fun h=>dec_no n 32 h rfl
theorem jb1(x:Int)(l:List Int):atsT (x :: l)=32 :: (Lib.decDigits x.toNat++atsT l):=rfl
def aftH:List Int->List UInt8
 |[]=>[]
 |x :: l=>Lib.decDigits x.toNat++atsT l
theorem qw2(n:Nat)(l:List Int):cutB (Lib.decDigits n++atsT l) 32=(Lib.decDigits n,aftH l,!l.isEmpty):=by
 cases l with
 |nil=>rw[show atsT []=[] from rfl,mv,cutB_no _ (dec_no32 n)];rfl
 |cons x l=>rw[jb1,qi7 _ _ (dec_no32 n)];rfl
theorem atsR_line:∀ (l:List Int) (n:Nat) (acc:List Int) (x:Int),l.length<n->(0<=x/\x<=2147483647)->(∀ a ∈ l,0<=a/\a<=2147483647)->atsR n (Lib.decDigits x.toNat++atsT l) true acc=some (acc++x :: l)
 |l,0,_,_,h,_,_=>absurd h (gx _)
 |l,n+1,acc,x,h,hx,hl=>by
  have hnum:y6 (cutB (Lib.decDigits x.toNat++atsT l) 32).1 = .ok x.toNat:=by rw[qw2];exact num31_dec (by omega)
  rw[atsR_ok hnum,qw2]
  have hxx:((x.toNat:Nat):Int)=x:=by omega
  rw[hxx]
  cases l with
  |nil=>exact jd8 _ _ _
  |cons y l =>
   have:=atsR_line l n (acc++[x]) y (by simp only [ou] at h;omega) (hl y (.head _)) (fun a ha=>hl a (.tail _ ha))
   rw [m6] at this
   exact this
theorem atsT_ge(l:List Int):l.length<=(atsT l).length:=by
 induction l with
 |nil=>exact pr _
 |cons x l ih=>rw[jb1];simp only[ou,pv];omega
theorem hostP_line(a:Nat)(l:List Int)(ha:a<=4294967295)(hl:∀ a ∈ l,0<=a/\a<=2147483647):vx (Lib.decDigits a++atsT l)=some ((a:Int),Nat.beq l.length 0,l):=by
 have hw:yb 32 (cutB (Lib.decDigits a++atsT l) 32).1=some a:=by rw[qw2];exact qs0 (by decide) (by omega)
 rw[jc9 hw,qw2]
 have hg:=atsT_ge l
 have:atsR ((Lib.decDigits a++atsT l).length+1) (aftH l) (!l.isEmpty) []=some l:=by
  cases l with
  |nil=>exact jd8 _ _ _
  |cons x l =>
   have:=atsR_line l ((Lib.decDigits a++atsT (x :: l)).length+1) [] x (by rw [pv];simp only [ou] at hg;omega) (hl x (.head _)) (fun a ha=>hl a (.tail _ ha))
   exact this
 rw[this]
 rfl
def nzZ(z:Zo):Zo:=⟨z.apex,Nat.beq z.rrs.length 0,z.rrs⟩
def nzH(h:Ho):Ho:=(h.1,Nat.beq h.2.2.length 0,h.2.2)
def HIn(h:Ho):Prop:=(0<=h.1/\h.1<=4294967295)/\∀ a ∈ h.2.2,0<=a/\a<=2147483647
theorem lineP_h{zs:List Zo}{hs:List Ho}{h:Ho}(hi:HIn h)(hl:hs.length<64):zd zs hs (ym h)=some (zs,hs++[nzH h]):=by
 have e:ym h=[104,111,115,116]++32 :: (Lib.decDigits h.1.toNat++atsT h.2.2):=by unfold ym;rfl
 have hc:cutB (ym h) 32=([104,111,115,116],Lib.decDigits h.1.toNat++atsT h.2.2,true):=by rw[e];exact qi7 _ _ (by decide)
 obtain⟨⟨h1,h2⟩,h3⟩:=hi
 unfold zd
 rw[hc,if_neg (fun h=>absurd (show([104,111,115,116]:List UInt8)=[122,111,110,101] from h.1) (by decide)),if_pos ⟨rfl,rfl⟩]
 unfold hosP
 rw[if_neg (by omega),hostP_line _ _ (by omega) h3]
 rw[show((h.1.toNat:Nat):Int)=h.1 by omega]
 rfl
theorem lineP_z{zs:List Zo}{z:Zo}(hz:qc z.apex)(hl:zs.length<64):zd zs [] (ke z)=some (zs++[⟨z.apex,true,[]⟩],[]):=by
 have hc:cutB (ke z) 32=([122,111,110,101],txtN z.apex,true):=qi7 [122,111,110,101] (txtN z.apex) (by decide)
 unfold zd
 rw[hc,if_pos ⟨rfl,rfl⟩]
 unfold kx
 rw[parse_txt hz,if_neg (fun h=>h.elim (fun h=>absurd h (by decide)) fun h=>h.elim (fun h=>by omega) fun h=>h rfl)]
 rfl
theorem txtN_dot{n:List UInt8}(h:qc n):∃ s,txtN n=s++[46]:=by
 obtain⟨h1,h2,h3⟩:=xg h
 unfold txtN
 split
 ·exact⟨[],rfl⟩
 ·rename_i hne
  have hl:labN n≠[]:=fun e=>by
   rw [e] at h3
   exact hne h3
  generalize labN n=ls at hl
  clear h2 h3
  induction ls with
  |nil=>exact absurd rfl hl
  |cons l ls ih =>
   cases ls with
   |nil=>exact⟨escL l,rfl⟩
   |cons m ls =>
    obtain⟨s,hs⟩:=ih (by simp)
    refine⟨escL l++46 :: s,?_⟩
    show escL l++46 :: txtL (m :: ls)=_
    rw[hs];simp
theorem lineP_r{ys:List Zo}{z:Zo}{r:RR}(hr:r.check=true)(hi:r.In)(hl:z.rrs.length<256):zd (ys++[z]) [] r.line=some (ys++[⟨z.apex,false,z.rrs++[r]⟩],[]):=by
 have hc:(cutB r.line 32).1=txtN r.nm:=by
  unfold RR.line
  rw[qi7 _ _ (fun h=>txtN_no r.nm 32 h rfl)]
 obtain⟨s,hs⟩:=txtN_dot (qm6 hr)
 have hne:∀ (a b c d:UInt8),d≠46->txtN r.nm≠[a,b,c,d]:=fun a b c d hd e=>by
  rw [hs] at e
  have:=congrArg List.getLast? e
  rw [List.getLast?_append] at this
  simp at this
  exact hd this.symm
 have hll:jy (ys++[z])=z:=by unfold jy;simp[List.getD]
 unfold zd
 rw[hc,if_neg (by rintro ⟨h,_⟩;exact hne _ _ _ _ (by decide) h),if_neg (by rintro ⟨h,_⟩;exact hne _ _ _ _ (by decide) h)]
 unfold recP
 rw [hll,if_neg (fun h=>h.elim (fun h=>by simp at h) fun h=>h.elim (fun h=>absurd h (by decide)) fun h=>by omega),parse_line hr hi (qt3 hr)]
 show some _=_
 rw[List.set_append_right _ _ (by simp)]
 simp
theorem jl6:∀ (n m:Nat) (zs:List Zo) (hs:List Ho) (t:List UInt8),t.length<n->t.length<m->yx n zs hs t=yx m zs hs t
 |0,_,_,_,_,h,_=>absurd h (gx _)
 |_+1,0,_,_,_,_,h=>absurd h (gx _)
 |n+1,m+1,zs,hs,t,h1,h2=>by
  by_cases ht:t=[]
  ·subst ht;rfl
  ·cases hc:(cutB t 10).2.2 with
   |false=>rw[qs2 ht hc,qs2 ht hc]
   |true =>
    have hl:=(qi6 t 10).2.2 hc
    cases hp:zd zs hs (cutB t 10).1 with
    |none=>rw[qh0 ht hc hp,qh0 ht hc hp]
    |some p=>rw[qe8 ht hc hp,qe8 ht hc hp];exact jl6 n m _ _ _ (by omega) (by omega)
def wp(zs:List Zo)(hs:List Ho)(t:List UInt8):Option (List Zo × List Ho):=yx (t.length+1) zs hs t
theorem qr2{zs:List Zo}{hs:List Ho}{l r:List UInt8}{p:List Zo × List Ho}(hl:(10:UInt8) ∉ l)(h:zd zs hs l=some p):wp zs hs (l++10 :: r)=wp p.1 p.2 r:=by
 have hc:=qi7 l r hl
 unfold wp
 rw[qe8 (by simp) (by rw[hc]) (by rw[hc];exact h),hc]
 exact jl6 _ _ _ _ _ (by rw[pv,ou];show r.length<_;omega) (l6 _)
theorem qc5{c:UInt8}{a b:List UInt8}(h1:c ∉ a)(h2:c ∉ b):c ∉ a++b:=fun h=>(mn.1 h).elim h1 h2
theorem qo9{c x:UInt8}{b:List UInt8}(h1:c≠x)(h2:c ∉ b):c ∉ x :: b:=fun h=>(pu.1 h).elim h1 h2
theorem qp3(n:Nat):(10:UInt8) ∉ Lib.decDigits n:=fun h=>dec_no10 n 10 h rfl
theorem rline_no(r:RR):(10:UInt8) ∉ r.line:=by
 unfold RR.line
 exact qc5 (fun h=>txtN_no10 _ 10 h rfl) (qo9 (by decide) (qc5 (qp3 _) (qo9 (by decide) (qc5 (qp3 _) (qo9 (by decide) (qc5 (qp3 _) (qo9 (by decide) fun h=>hexT_no10 _ 10 h rfl)))))))
theorem zline_no(z:Zo):(10:UInt8) ∉ ke z:=qc5 (by decide) fun h=>txtN_no10 _ 10 h rfl
theorem ats_no(l:List Int):(10:UInt8) ∉ atsT l:=by
 induction l with
 |nil=>exact fun h=>by cases h
 |cons x l ih=>rw[jb1];exact qo9 (by decide) (qc5 (qp3 _) ih)
theorem hline_no(h:Ho):(10:UInt8) ∉ ym h:=qc5 (qc5 (by decide) (qp3 _)) (ats_no _)
theorem readG_rrs:∀ (rs acc:List RR) (ys:List Zo) (apex t:List UInt8),acc.length+rs.length<=256->(∀ r ∈ rs,r.check=true/\r.In)->wp (ys++[⟨apex,Nat.beq acc.length 0,acc⟩]) [] (yk rs++t)=wp (ys++[⟨apex,Nat.beq (acc++rs).length 0,acc++rs⟩]) [] t
 |[],acc,ys,apex,t,_,_=>by rw[mv];rfl
 |r :: rs,acc,ys,apex,t,hl,h=>by
  simp only [ou] at hl
  have e:yk (r :: rs)++t=r.line++10 :: (yk rs++t):=by show(r.line++[10])++yk rs++t=_;simp
  rw[e,qr2 (rline_no r) (lineP_r (h r (.head _)).1 (h r (.head _)).2 (by show acc.length<_;omega))]
  have:=readG_rrs rs (acc++[r]) ys apex t (by rw[pv];simp;omega) (fun x hx=>h x (.tail _ hx))
  rw [m6] at this
  rw[<-List.singleton_append (l:=rs),<-this]
  rw[show Nat.beq (acc++[r]).length 0=false by rw[pv];rfl]
theorem ji1:∀ (l zs:List Zo) (t:List UInt8),zs.length+l.length<=64->(∀ z ∈ l,z.ok=true/\∀ r ∈ z.rrs,r.In)->wp zs [] (yr l++t)=wp (zs++l.map nzZ) [] t
 |[],zs,t,_,_=>by rw[List.map_nil,mv];rfl
 |z :: l,zs,t,hl,h=>by
  simp only [ou] at hl
  obtain⟨h1,h2⟩:=h z (.head _)
  have e:yr (z :: l)++t=ke z++10 :: (yk z.rrs++(yr l++t)):=by show(ke z++[10]++yk z.rrs++yr l)++t=_;simp
  rw[e,qr2 (zline_no z) (lineP_z (Zo.ok_name h1) (by omega))]
  have h3:=readG_rrs z.rrs [] zs z.apex (yr l++t) (by have:=Zo.ok_len h1;simp;omega) (fun r hr=>⟨Zo.ok_rr h1 r hr,h2 r hr⟩)
  rw [gy] at h3
  show wp (zs++[⟨z.apex,Nat.beq ([]:List RR).length 0,[]⟩]) [] _=_
  rw[h3,ji1 l _ t (by rw[pv];simp;omega) (fun x hx=>h x (.tail _ hx)),m6]
  rfl
theorem ji2(zs:List Zo):∀ (l hs:List Ho) (t:List UInt8),hs.length+l.length<=64->(∀ h ∈ l,HIn h)->wp zs hs (yt l++t)=wp zs (hs++l.map nzH) t
 |[],hs,t,_,_=>by rw[List.map_nil,mv];rfl
 |h :: l,hs,t,hl,hi=>by
  simp only [ou] at hl
  have e:yt (h :: l)++t=ym h++10 :: (yt l++t):=by show(ym h++[10]++yt l)++t=_;simp
  rw[e,qr2 (hline_no h) (lineP_h (hi h (.head _)) (by omega)),ji2 zs l _ t (by rw[pv];simp;omega) (fun x hx=>hi x (.tail _ hx)),m6]
  rfl
def nzF(f:Fo):Fo:=mkF (f.zones.map nzZ) (f.hosts.map nzH)
theorem nz_get(zs:List Zo)(i:Nat):(zs.map nzZ).getD i default=nzZ (zs.getD i default):=by
 rw[List.getD,List.getD,o5]
 cases zs[i]? <;> rfl
theorem nz_place(zs:List Zo)(n:List UInt8):zb (zs.map nzZ) n=zb zs n:=by
 unfold zb
 rw[List.findIdx?_map]
 rfl
theorem nz_others(zs:List Zo)(i:Nat):yh (zs.map nzZ) i=yh zs i:=by
 unfold yh
 rw[<-List.map_take,<-List.map_drop,<-d6,dw]
 rfl
theorem nz_hang(zs:List Zo):hangF (zs.map nzZ)=hangF zs:=by
 have h1:∀ i a,qa4 (zs.map nzZ) i a=qa4 zs i a:=fun i a=>by
  unfold qa4
  rw[nz_others]
  cases zg a (yh zs i) none with
  |none=>rfl
  |some b=>exact nz_place zs _
 unfold hangF
 rw[mr]
 congr 1
 funext i
 rw[nz_get,h1]
 congr 1
 show(match qa4 zs i (zs.getD i default).apex with|none=>false|some a=>((zs.map nzZ).getD a default).cutL.any fun c=>fold c == fold (nzZ (zs.getD i default)).apex)=_
 cases qa4 zs i (zs.getD i default).apex with
 |none=>rfl
 |some a=>show(((zs.map nzZ).getD a default).cutL.any _)=_;rw[nz_get];rfl
theorem nz_ok(f:Fo):(nzF f).ok=f.ok:=by
 unfold Fo.ok nzF mkF
 simp only[mr,nz_hang,nz_get]
 have h1:(f.zones.map nzZ).all Zo.ok=f.zones.all Zo.ok:=by rw[List.all_map];rfl
 have h2:(f.zones.map nzZ).map (fun z=>fold z.apex)=f.zones.map fun z=>fold z.apex:=by rw[dw];rfl
 have h3:y9 f.zones.length (f.hosts.map nzH)=y9 f.zones.length f.hosts:=by
  unfold y9
  rw[dw,List.all_map]
  rfl
 rw[h1,h2,h3]
 rfl
theorem nz_text(f:Fo):(nzF f).text=f.text:=by
 unfold Fo.text nzF mkF yr yt
 simp only[List.flatMap_map]
 rfl
theorem sameI_refl(a:Int):sameI a a=true:=by unfold sameI;simp
theorem sameR_refl(a:RR):sameR a a=true:=by unfold sameR;simp
theorem eqL_map{α:Type}[Inhabited α]{e:α->α->Bool}{g:α->α}(he:∀ a,e a (g a)=true)(l:List α):eqL e l (l.map g)=true:=by
 unfold eqL eqTo
 rw[mr,beq_self_eq_true,my,lw]
 intro j hj
 have hj:=m7.1 hj
 have:(l.map g).getD j default=g (l.getD j default):=by
  rw[List.getD,List.getD,o5,pp hj]
  rfl
 rw[this]
 exact he _
theorem nz_same(f:Fo):qk0 f (nzF f)=true:=by
 unfold qk0
 rw[show eqL sameZ f.zones (nzF f).zones=true from eqL_map (fun a=>by unfold sameZ nzZ;rw[beq_self_eq_true,my];exact eqL_refl sameR_refl _) _,my]
 exact eqL_map (fun a=>by unfold sameH nzH;rw[beq_self_eq_true,my];exact eqL_refl sameI_refl _) _
theorem Fo.Okf.hin{f:Fo}(h:f.Okf)(hi:f.In):∀ x ∈ f.hosts,HIn x:=fun x hx=>⟨hi.addr x hx,fun a ha=>by have:=h.host x hx a ha;omega⟩
theorem jl5{f:Fo}(hok:f.Okf)(hi:f.In)(t:List UInt8):wp [] [] (f.text++t)=wp (f.zones.map nzZ) (f.hosts.map nzH) t:=by
 unfold Fo.text
 rw[m6,ji1 f.zones [] _ (by have:=hok.nz;simp;omega) (fun z hz=>⟨hok.zone z hz,hi.rr z hz⟩),gy]
 exact ji2 _ f.hosts [] t (by have:=hok.nh;simp;omega) (hok.hin hi)
theorem ji7{f:Fo}(hok:f.ok=true)(hi:f.In):zw f.text=(nzF f,0):=by
 have hk:=Fo.ok_f hok
 have h1:=jl5 hk hi []
 rw [mv] at h1
 unfold zw
 rw[show yx (f.text.length+1) [] [] f.text=some (f.zones.map nzZ,f.hosts.map nzH) from h1]
 show(if jp (nzF f)=(f.text,0) then (nzF f,0) else (nilF,6))=_
 rw[if_pos]
 unfold jp
 rw[nz_ok,hok,if_pos rfl,nz_text]
theorem parseF_back{s:List UInt8}(h:(zw s).2=0):∃ zs hs,yx (s.length+1) [] [] s=some (zs,hs)/\(zw s).1=mkF zs hs/\jp (mkF zs hs)=(s,0)/\(mkF zs hs).ok=true:=by
 unfold zw at h ⊢
 cases hr:yx (s.length+1) [] [] s with
 |none=>rw [hr] at h;cases h
 |some p =>
  rw [hr] at h
  by_cases ht:jp (mkF p.1 p.2)=(s,0)
  ·refine⟨p.1,p.2,rfl,by show(if jp (mkF p.1 p.2)=(s,0) then (mkF p.1 p.2,(0:Int)) else (nilF,6)).1=_;rw[if_pos ht],ht,?_⟩
   cases ho:(mkF p.1 p.2).ok
   ·unfold jp at ht
    rw [ho] at ht
    cases ht
   ·rfl
  ·exact absurd h (by show(if jp (mkF p.1 p.2)=(s,0) then (mkF p.1 p.2,(0:Int)) else (nilF,6)).2≠0;rw[if_neg ht];decide)
theorem readF_ok:∀ (n:Nat) (zs:List Zo) (hs:List Ho) (t:List UInt8) (p:List Zo × List Ho),RdOk zs hs->Short t->yx n zs hs t=some p->RdOk p.1 p.2
 |0,_,_,_,_,_,_,h=>by cases h
 |n+1,zs,hs,t,p,hk,hS,h=>by
  by_cases ht:t=[]
  ·subst ht;cases h;exact hk
  ·cases hc:(cutB t 10).2.2 with
   |false=>rw [qs2 ht hc] at h;cases h
   |true =>
    cases hp:zd zs hs (cutB t 10).1 with
    |none=>rw [qh0 ht hc hp] at h;cases h
    |some q =>
     rw [qe8 ht hc hp] at h
     exact readF_ok n _ _ _ p (hk.line hS.cut.1 hp) hS.cut.2 h
theorem short_rrs:∀ (rs:List RR) (t:List UInt8),(∀ r ∈ rs,r.line.length<=9300)->Short t->Short (yk rs++t)
 |[],t,_,h=>h
 |r :: rs,t,hr,h=>by
  have e:yk (r :: rs)++t=r.line++10 :: (yk rs++t):=by show(r.line++[10])++yk rs++t=_;simp
  rw[e]
  have:=hr r (.head _)
  exact .cons _ _ (rline_no r) (by omega) (short_rrs rs t (fun x hx=>hr x (.tail _ hx)) h)
theorem jh3:∀ (l:List Zo) (t:List UInt8),(∀ z ∈ l,z.ok=true/\∀ r ∈ z.rrs,r.In)->Short t->Short (yr l++t)
 |[],t,_,h=>h
 |z :: l,t,hz,h=>by
  obtain⟨h1,h2⟩:=hz z (.head _)
  have e:yr (z :: l)++t=ke z++10 :: (yk z.rrs++(yr l++t)):=by show(ke z++[10]++yk z.rrs++yr l)++t=_;simp
  rw[e]
  have:=qt5 (Zo.ok_name h1)
  exact .cons _ _ (zline_no z) (by unfold ke;rw[pv];show 5+_<=_;omega) (short_rrs _ _ (fun r hr=>qn6 (Zo.ok_rr h1 r hr) (h2 r hr)) (jh3 l t (fun x hx=>hz x (.tail _ hx)) h))
theorem jh4:∀ (l:List Ho),(∀ x ∈ l,HIn x/\x.2.2.length<=80000)->Short (yt l)
 |[],_=>.last [] (by simp) (by simp)
 |x :: l,h=>by
  obtain⟨⟨h1,h2⟩,h3⟩:=h x (.head _)
  have e:yt (x :: l)=ym x++10 :: yt l:=by show(ym x++[10])++yt l=_;simp
  rw[e]
  have h4:=qd7 x.1.toNat (by omega)
  have h5:=qu7 (l:=x.2.2) (fun a ha=>by have:=h2 a ha;omega)
  exact .cons _ _ (hline_no x) (by unfold ym;rw[pv,pv];show 5+_+_<=_;omega) (jh4 l fun y hy=>h y (.tail _ hy))
theorem short_text{f:Fo}(hok:f.Okf)(hi:f.In)(hl:∀ x ∈ f.hosts,x.2.2.length<=80000):Short f.text:=by
 unfold Fo.text
 exact jh3 f.zones _ (fun z hz=>⟨hok.zone z hz,hi.rr z hz⟩) (jh4 f.hosts fun x hx=>⟨hok.hin hi x hx,hl x hx⟩)
def ko(z:Zo):Bool:=decide (z.apex.length<=1000) && (decide (z.rrs.length<=60) && z.rrs.all fun r=>decide (r.d.length<=5000) && decide (r.nm.length<=1000))
theorem small22_ok(z:Zo):FnOk Tryz.prog 18 [z.V] (.d (.int .i64 (if ko z then 1 else 0))):=by
 refine qz (TT:=TT) (IN:=qi []) qk qm mixed 1000 Tryz.func18 rfl (qe Tryz.func18 (by kernel_rfl) rfl) rfl 32 (by kernel_rfl) ?_
 conv=>whnf
 refine⟨fun h1=>?_,fun h1=>?_⟩
 ·have h1:¬ z.apex.length<=1000:=by
   have h:(z.apex.length:Int) > 1000:=pw h1
   omega
  rw[show ko z=false by unfold ko;rw[po h1];rfl]
  conv=>whnf
  all_goals exact rfl
 have h1:z.apex.length<=1000:=by
  have h:¬ (z.apex.length:Int) > 1000:=px h1
  omega
 conv=>whnf
 refine⟨fun h2=>?_,fun h2=>?_⟩
 ·have h2:¬ z.rrs.length<=60:=by
   have h:(z.rrs.length:Int) > 60:=pw h2
   omega
  rw[show ko z=false by unfold ko;rw[po h2,f8,f9]]
  conv=>whnf
  all_goals exact rfl
 have h2:z.rrs.length<=60:=by
  have h:¬ (z.rrs.length:Int) > 60:=px h2
  omega
 have hs:ko z=z.rrs.all fun r=>decide (r.d.length<=5000) && decide (r.nm.length<=1000):=by unfold ko;rw[pn h1,pn h2];rfl
 rw[hs]
 conv=>whnf
 refine .inv Nat (fun i=>i<=z.rrs.length/\(z.rrs.take i).all (fun r=>decide (r.d.length<=5000) && decide (r.nm.length<=1000))=true) (fun i=>[(18,iV i)]) (fun i=>[]) (fun i=>z.rrs.length - i) ⟨0,[0],⟨p6 _,rfl⟩,?_⟩ ?_
 ·conv=>whnf
  repeat'(first|exact ⟨⟩|exact rfl|exact qa _|exact .inr rfl|exact fun _ _=>rfl|exact noI|apply And.intro)
 intro i hi
 obtain⟨hi,hti⟩:=hi
 conv=>whnf
 refine⟨fun h3=>?_,fun h3=>?_⟩
 ·have h3:i<z.rrs.length:=by
   have h:(i:Int)<z.rrs.length:=pw h3
   omega
  have hw1:=w64s i (by omega)
  obtain⟨r,hr⟩:∃ r,z.rrs.getD i default=r:=⟨_,rfl⟩
  have hrl:z.rrs[i]? = some r:=by rw[<-hr,List.getD,pp h3];rfl
  have hbad:(decide (r.d.length<=5000) && decide (r.nm.length<=1000))=false->(z.rrs.all fun r=>decide (r.d.length<=5000) && decide (r.nm.length<=1000))=false:=fun h=>by
   rw[ao]
   exact⟨r,oy hrl,by rw[h];decide⟩
  conv=>whnf
  refine⟨by omega,?_⟩
  conv=>whnf
  rw[pz,hr]
  refine⟨fun h4=>?_,fun h4=>?_⟩
  ·have h4:¬ r.d.length<=5000:=by
    have h:(r.d.length:Int) > 5000:=pw h4
    omega
   rw[hbad (by rw[po h4];rfl)]
   conv=>whnf
   all_goals exact rfl
  have h4:r.d.length<=5000:=by
   have h:¬ (r.d.length:Int) > 5000:=px h4
   omega
  conv=>whnf
  refine⟨fun h5=>?_,fun h5=>?_⟩
  ·have h5:¬ r.nm.length<=1000:=by
    have h:(r.nm.length:Int) > 1000:=pw h5
    omega
   rw[hbad (by rw[po h5,f9])]
   conv=>whnf
   all_goals exact rfl
  have h5:r.nm.length<=1000:=by
   have h:¬ (r.nm.length:Int) > 1000:=px h5
   omega
  conv=>whnf
  rw[hw1]
  refine⟨i+1,[0],⟨h3,by rw[m5,hrl,c9,hti];simp[h4,h5]⟩,by omega,?_⟩
  conv=>whnf
  repeat'(first|exact ⟨⟩|exact rfl|exact qa _|exact .inr rfl|exact fun _ _=>rfl|exact noI|apply And.intro)
 ·have h3:i=z.rrs.length:=by
   have h:¬ (i:Int)<z.rrs.length:=px h3
   omega
  subst h3
  rw [lx] at hti
  rw[hti]
  conv=>whnf
  all_goals exact rfl
def Fo.small(f:Fo):Bool:=decide (f.zones.length<=8) && (decide (f.hosts.length<=12) && f.zones.all ko)
theorem small24_ok(f:Fo):FnOk Tryz.prog 6 [f.V] (.d (.int .i64 (if f.small then 1 else 0))):=by
 refine qz (TT:=TT) (IN:=qi []) qk qm mixed 1000 Tryz.func6 rfl (qe Tryz.func6 (by kernel_rfl) rfl) rfl 25 (by kernel_rfl) ?_
 conv=>whnf
 refine⟨fun h1=>?_,fun h1=>?_⟩
 ·have h1:¬ f.zones.length<=8:=by
   have h:(f.zones.length:Int) > 8:=pw h1
   omega
  rw[show f.small=false by unfold Fo.small;rw[po h1];rfl]
  conv=>whnf
  all_goals exact rfl
 have h1:f.zones.length<=8:=by
  have h:¬ (f.zones.length:Int) > 8:=px h1
  omega
 conv=>whnf
 refine⟨fun h2=>?_,fun h2=>?_⟩
 ·have h2:¬ f.hosts.length<=12:=by
   have h:(f.hosts.length:Int) > 12:=pw h2
   omega
  rw[show f.small=false by unfold Fo.small;rw[po h2,f8,f9]]
  conv=>whnf
  all_goals exact rfl
 have h2:f.hosts.length<=12:=by
  have h:¬ (f.hosts.length:Int) > 12:=px h2
  omega
 have hs:f.small=f.zones.all ko:=by unfold Fo.small;rw[pn h1,pn h2];rfl
 rw[hs]
 conv=>whnf
 refine .inv Nat (fun i=>i<=f.zones.length/\(f.zones.take i).all ko=true) (fun i=>[(18,iV i)]) (fun i=>[]) (fun i=>f.zones.length - i) ⟨0,[0],⟨p6 _,rfl⟩,?_⟩ ?_
 ·conv=>whnf
  repeat'(first|exact ⟨⟩|exact rfl|exact qa _|exact .inr rfl|exact fun _ _=>rfl|exact noI|apply And.intro)
 intro i hi
 obtain⟨hi,hti⟩:=hi
 conv=>whnf
 refine⟨fun h3=>?_,fun h3=>?_⟩
 ·have h3:i<f.zones.length:=by
   have h:(i:Int)<f.zones.length:=pw h3
   omega
  have hw1:=w64s i (by omega)
  obtain⟨z,hzd⟩:∃ z,f.zones.getD i default=z:=⟨_,rfl⟩
  have hzl:f.zones[i]? = some z:=by rw[<-hzd,List.getD,pp h3];rfl
  conv=>whnf
  refine⟨by omega,?_⟩
  conv=>whnf
  rw[pz,hzd]
  refine oD (small22_ok z) rfl rfl ?_
  cases hz:ko z with
  |false =>
   have hb:f.zones.all ko=false:=by
    rw[ao]
    exact⟨z,oy hzl,by rw[hz];decide⟩
   rw[hb,if_neg (by decide)]
   conv=>whnf
   refine brT rfl ?_
   conv=>whnf
   all_goals exact rfl
  |true =>
   rw[if_pos rfl]
   conv=>whnf
   refine brF rfl ?_
   conv=>whnf
   rw[hw1]
   refine⟨i+1,[0],⟨h3,by rw[m5,hzl,c9,hti];simp[hz]⟩,by omega,?_⟩
   conv=>whnf
   repeat'(first|exact ⟨⟩|exact rfl|exact qa _|exact .inr rfl|exact fun _ _=>rfl|exact noI|apply And.intro)
 ·have h3:i=f.zones.length:=by
   have h:¬ (i:Int)<f.zones.length:=px h3
   omega
  subst h3
  rw [lx] at hti
  rw[hti]
  conv=>whnf
  all_goals exact rfl
def fvD:List UInt8:=[0,0]++List.replicate 20 0
def fvS:RR:=⟨[0],6,1,9,fvD⟩
def fvN:RR:=⟨[0],2,1,8,[1,110,0]⟩
def fvF:Fo:=⟨false,[⟨[0],false,[fvS,fvN]⟩],false,[(5,false,[0])]⟩
def fvT:List UInt8:=fvF.text
def fvH:List UInt8:=[104,111,115,116,32,53,10]
theorem fv_ok:fvF.ok=true:=by kernel_rfl
theorem fv_text:jp fvF=(fvT,0):=by unfold jp;rw[fv_ok];rfl
theorem fv_in:fvF.In:=⟨fun z hz r hr=>by
 simp only [fvF,pu,List.mem_nil_iff,or_false] at hz
 subst hz
 simp only [pu,List.mem_nil_iff,or_false] at hr
 rcases hr with rfl|rfl
 ·exact⟨by decide,by decide,by decide⟩
 ·exact⟨by decide,by decide,by decide⟩,fun h hh=>by
 simp only [fvF,pu,List.mem_nil_iff,or_false] at hh
 subst hh
 decide,fun h hh=>by
 simp only [fvF,pu,List.mem_nil_iff,or_false] at hh
 subst hh
 decide⟩
theorem fv_parse:zw fvT=(nzF fvF,0):=ji7 fv_ok fv_in
theorem fv_bad:zw (fvT++fvH)=(nilF,6):=by
 have h1:=jl5 (Fo.ok_f fv_ok) fv_in fvH
 have e:ym (5,true,[])=[104,111,115,116,32,53]:=by kernel_rfl
 have h3:zd (fvF.zones.map nzZ) (fvF.hosts.map nzH) [104,111,115,116,32,53]=some (fvF.zones.map nzZ,fvF.hosts.map nzH++[nzH (5,true,[])]):=e ▸ lineP_h (hs:=fvF.hosts.map nzH) (h:=(5,true,[])) ⟨by decide,fun a ha=>by cases ha⟩ (by decide)
 have h2:wp (fvF.zones.map nzZ) (fvF.hosts.map nzH) fvH=some (fvF.zones.map nzZ,fvF.hosts.map nzH++[nzH (5,true,[])]):=qr2 (l:=[104,111,115,116,32,53]) (r:=[]) (by decide) h3
 rw [h2] at h1
 unfold zw
 rw[show yx ((fvT++fvH).length+1) [] [] (fvT++fvH)=_ from h1]
 show(if jp (mkF (fvF.zones.map nzZ) (fvF.hosts.map nzH++[nzH (5,true,[])]))=(fvT++fvH,0) then _ else (nilF,(6:Int)))=_
 rw[if_neg]
 unfold jp
 rw[show(mkF (fvF.zones.map nzZ) (fvF.hosts.map nzH++[nzH (5,true,[])])).ok=false by kernel_rfl]
 exact fun h=>absurd (congrArg Prod.snd h) (by decide)
theorem fv_nil:jp nilF=([],2):=by kernel_rfl
theorem fv_same:qk0 fvF (nzF fvF)=true/\qk0 fvF nilF=false:=⟨nz_same _,by kernel_rfl⟩
theorem qk7:fvT=([122,111,110,101,32,46,10,46,32,57,32,49,32,54,32,48,48,48,48,48,48,48,48,48,48,48,48,48,48,48,48,48,48,48,48,48,48,48,48,48,48,48,48,48,48,48,48,48,48,48,48,48,48,48,48,48,48,48,48,10,46,32,56,32,49,32,50,32,48,49,54,101,48,48,10,104,111,115,116,32,53,32,48,10]:List UInt8):=by kernel_rfl
theorem fv_short:Short fvT:=Short.of 1000 _ (by rw[qk7];decide) (by decide)
theorem fv_short2:Short (fvT++fvH):=Short.of 1000 _ (by rw[qk7];decide) (by decide)
theorem fv_fit:fvF.Fit:=fun z hz=>by
 simp only [fvF,pu,List.mem_nil_iff,or_false] at hz
 subst hz
 refine⟨by decide,fun r hr=>?_⟩
 simp only [pu,List.mem_nil_iff,or_false] at hr
 rcases hr with rfl|rfl <;> decide
theorem fv_sm:fvF.Sm:=⟨by decide,fun a ha=>by
 simp only [fvF,pu,List.mem_nil_iff,or_false] at ha
 subst ha
 decide,by decide,fun a ha=>by
 simp only [fvF,pu,List.mem_nil_iff,or_false] at ha
 subst ha
 decide⟩
def fvR1:List DV:=fvS.enc++fvN.enc
def fvZr:List DV:=[.str [0],.sl false 2 5 (qy fvR1 5)]
def fvHr:List DV:=[.int .u32 5,.sl false 1 1 (qy [.int .i64 0] 1)]
def fvG:SV:=.agg [.d (.sl false 1 2 (qy fvZr 2)),.d (.sl false 1 2 (qy fvHr 2))]
theorem fv_z1:DS (.sl false 2 5 (qy fvR1 5)) (rrsD false [fvS,fvN]):=DS.rows fun i hi=>(match i,hi with
 |0,_=>DSL.refl _
 |1,_=>DSL.refl _)
theorem fv_aF:AEq fvG fvF.V:=AEq.aggL ⟨.d (DS.rows fun i hi=>(match i,hi with
 |0,_=>⟨.refl _,fv_z1,trivial⟩)),.d (DS.rows fun i hi=>(match i,hi with
 |0,_=>⟨.refl _,DS.rows fun i hi=>(match i,hi with
  |0,_=>DSL.refl _),trivial⟩)),trivial⟩
theorem fv_aN:AEq (.agg [nilS,nilS]) nilF.V:=AEq.aggL ⟨.none _ _ _ _ _,.none _ _ _ _ _,trivial⟩
theorem lives40_ok:FnOk Tryz.prog 7 [] (.d (.bool true)):=by
 have c1:=(u3 fvF fv_fit fv_in).convA (args':=[fvG]) ⟨fv_aF,trivial⟩
 rw [fv_text] at c1
 have c2:=qm8 fvT (by rw[qk7];decide) fv_short
 rw [fv_parse] at c2
 have c3:=qm8 (fvT++fvH) (by rw[qk7];decide) fv_short2
 rw [fv_bad] at c3
 have c4:=(u3 nilF (fun z hz=>by cases hz) ⟨fun z hz=>(by cases hz),fun z hz=>(by cases hz),fun z hz=>(by cases hz)⟩).convA (args':=[.agg [nilS,nilS]]) ⟨fv_aN,trivial⟩
 rw [fv_nil] at c4
 have c5:=(jd1 fvF (nzF fvF) fv_sm).convA (args':=[fvG,(nzF fvF).V]) ⟨fv_aF,.refl _,trivial⟩
 rw [fv_same.1] at c5
 have c6:=(jd1 fvF nilF fv_sm).convA (args':=[fvG,.agg [nilS,nilS]]) ⟨fv_aF,fv_aN,trivial⟩
 rw [fv_same.2] at c6
 refine qz (TT:=TT) (IN:=qi []) qk qm mixed 1000 Tryz.func7 rfl (qe Tryz.func7 (by kernel_rfl) rfl) rfl 76 (by kernel_rfl) ?_
 conv=>whnf
 refine⟨by decide,?_⟩
 conv=>whnf
 refine⟨fun i _=>⟨0,rfl⟩,?_⟩
 conv=>whnf
 refine⟨by decide,?_⟩
 conv=>whnf
 refine .fz [3,5] [(4,58,fvZr.map .d),(6,32,fvHr.map .d)] ⟨⟨_,rfl,?_,rfl⟩,⟨_,rfl,?_,rfl⟩,True.intro⟩ ?_
 ·conv=>whnf
  exact⟨rfl,rfl⟩
 ·conv=>whnf
  exact⟨rfl,rfl⟩
 refine .still [4,6] [(7,25,[.d (.sl false 1 2 (qy fvZr 2)),.d (.sl false 1 2 (qy fvHr 2))])] (.tup [.d (.str fvT),.d (.int .i64 0)]) _ ⟨⟨_,rfl,?_,rfl⟩,True.intro⟩ ?_ c1 rfl rfl ?_
 ·conv=>whnf
  exact⟨rfl,rfl⟩
 ·conv=>whnf
  exact⟨rfl,rfl⟩
 conv=>whnf
 refine oD c2 rfl rfl ?_
 conv=>whnf
 refine⟨by rw[qk7];decide,?_⟩
 conv=>whnf
 refine oD c3 rfl rfl ?_
 conv=>whnf
 refine oD c4 rfl rfl ?_
 conv=>whnf
 refine brT (by rw[qk7];rfl) ?_
 conv=>whnf
 repeat(first|(refine brT rfl ?_;conv=>whnf)|(refine brF rfl ?_;conv=>whnf)|(refine .once ?_;conv=>whnf)|(refine⟨by decide,?_⟩;conv=>whnf)|(refine And.intro (rq rfl) ?_;conv=>whnf))
 refine oD c5 rfl rfl ?_
 conv=>whnf
 repeat(first|(refine brT rfl ?_;conv=>whnf)|(refine brF rfl ?_;conv=>whnf)|(refine .once ?_;conv=>whnf)|(refine⟨by decide,?_⟩;conv=>whnf)|(refine And.intro (rq rfl) ?_;conv=>whnf))
 refine oD c6 rfl rfl ?_
 conv=>whnf
 repeat(first|(refine brT rfl ?_;conv=>whnf)|(refine brF rfl ?_;conv=>whnf)|(refine .once ?_;conv=>whnf)|(refine⟨by decide,?_⟩;conv=>whnf)|(refine And.intro (rq rfl) ?_;conv=>whnf))
 all_goals exact rfl
theorem Fo.fit_sm{f:Fo}(h:f.small=true):f.Fit:=fun z hz=>by
 unfold Fo.small at h
 simp only [oq,lw] at h
 have h1:=h.2.2 z hz
 unfold ko at h1
 simp only [oq,ly,lw] at h1
 exact⟨by omega,fun r hr=>by have:=h1.2.2 r hr;omega⟩
theorem jm2(t:List UInt8)(hS:Short t):zw t=(nilF,6)\/∃ zs hs,zw t=(mkF zs hs,0)/\RdOk zs hs/\jp (mkF zs hs)=(t,0)/\(mkF zs hs).ok=true:=by
 by_cases h:(zw t).2=0
 ·obtain⟨zs,hs,h1,h2,h3,h4⟩:=parseF_back h
  exact .inr ⟨zs,hs,Prod.ext h2 h,readF_ok _ _ _ _ _ .init hS h1,h3,h4⟩
 ·refine .inl ?_
  unfold zw at h ⊢
  cases hr:yx (t.length+1) [] [] t with
  |none=>rfl
  |some p =>
   rw [hr] at h
   show(if jp (mkF p.1 p.2)=(t,0) then (mkF p.1 p.2,(0:Int)) else (nilF,6))=_
   rw[if_neg]
   intro e
   exact h (by show(if jp (mkF p.1 p.2)=(t,0) then (mkF p.1 p.2,(0:Int)) else (nilF,6)).2=0;rw[if_pos e])
theorem parse_nil:zw []=(nilF,6):=by
 unfold zw
 show(if jp (mkF [] [])=([],0) then (mkF [] [],(0:Int)) else (nilF,6))=_
 rw[if_neg]
 rw[show jp (mkF [] [])=([],2) by kernel_rfl]
 exact fun h=>absurd (congrArg Prod.snd h) (by decide)
theorem nil_fit:nilF.Fit:=fun z hz=>by cases hz
theorem nil_in:nilF.In:=⟨fun z hz=>(by cases hz),fun z hz=>(by cases hz),fun z hz=>(by cases hz)⟩
theorem text_len{f:Fo}(hok:f.Okf)(hi:f.In)(hl:∀ x ∈ f.hosts,x.2.2.length<=100):f.text.length<=1099511627776:=by
 have h1:=jk7 (l:=f.zones) fun z hz=>⟨hok.zone z hz,hi.rr z hz⟩
 have h2:=jn0 (l:=f.hosts) fun a ha=>ja4 (hi.addr a ha) (fun b hb=>by have:=hok.host a ha b hb;omega) (hi.len a ha)
 have:=hok.nz
 have:=hok.nh
 have h3:∀ l:List Ho,(∀ x ∈ l,x ∈ f.hosts)->(yt l).length<=2000 * l.length:=fun l=>by
  induction l with
  |nil=>exact fun _=>pr _
  |cons a l ih =>
   intro h
   have ha:=h a (.head _)
   have h1:=ih fun x hx=>h x (.tail _ hx)
   have h4:=qd7 a.1.toNat (by have:=hi.addr a ha;omega)
   have h5:=qu7 (l:=a.2.2) (fun b hb=>by have:=hok.host a ha b hb;omega)
   have h6:=hl a ha
   show(ym a++[10]++yt l).length<=_
   unfold ym
   simp only[pv,ou,gt]
   have:hostW.length=5:=rfl
   omega
 have h4:=h3 f.hosts fun x hx=>hx
 unfold Fo.text
 rw[pv]
 omega
theorem fback_ok(f:Fo)(t:List UInt8)(hrr:∀ z ∈ f.zones,∀ r ∈ z.rrs,r.In)(had:∀ h ∈ f.hosts,0<=h.1/\h.1<=4294967295):FnOk Tryz.prog 4 [f.V,.d (.str t)] (.d (.bool true)):=by
 refine qz (TT:=TT) (IN:=qi []) qk qm mixed 1000 Tryz.func4 rfl (qe Tryz.func4 (by kernel_rfl) rfl) rfl 91 (by kernel_rfl) ?_
 conv=>whnf
 refine oD lives40_ok rfl rfl ?_
 conv=>whnf
 refine brF rfl ?_
 conv=>whnf
 refine oD (small24_ok f) rfl rfl ?_
 cases hsm:f.small with
 |false =>
  conv=>whnf
  repeat(first|(refine brF rfl ?_;conv=>whnf)|(refine brT rfl ?_;conv=>whnf))
 |true =>
 have hfit:=Fo.fit_sm hsm
 obtain⟨hz8,hh12⟩:f.zones.length<=8/\f.hosts.length<=12:=by
  unfold Fo.small at hsm
  simp only [oq,ly] at hsm
  exact⟨hsm.1,hsm.2.1⟩
 conv=>whnf
 repeat(first|(refine brF rfl ?_;conv=>whnf)|(refine brT rfl ?_;conv=>whnf))
 refine⟨fun h1=>?_,fun h1=>?_⟩
 ·conv=>whnf
  repeat(first|(refine brF rfl ?_;conv=>whnf)|(refine brT rfl ?_;conv=>whnf))
 have htl:t.length<=16384:=by
  have h:¬ (t.length:Int) > 16384:=px h1
  omega
 conv=>whnf
 refine .inv Nat (fun i=>i<=f.hosts.length/\∀ x ∈ f.hosts.take i,x.2.2.length<=100) (fun i=>[(28,.d (.int .i64 i))]) (fun _=>[]) (fun i=>f.hosts.length - i) ⟨0,[0],⟨p6 _,fun x hx=>(by cases hx)⟩,?_⟩ ?_
 ·conv=>whnf
  repeat'(first|exact ⟨⟩|exact rfl|exact fun _=>Iff.rfl|exact fun _ _=>rfl|exact renM_ent rfl _|apply And.intro)
 intro i hi
 obtain⟨hi,hti⟩:=hi
 conv=>whnf
 refine⟨fun h2=>?_,fun h2=>?_⟩
 ·have h2:i<f.hosts.length:=by
   have h:(i:Int)<f.hosts.length:=pw h2
   omega
  have hw1:=w64s i (by omega)
  obtain⟨x,hx⟩:∃ x,f.hosts.getD i default=x:=⟨_,rfl⟩
  have hxl:f.hosts[i]? = some x:=by rw[<-hx,List.getD,pp h2];rfl
  conv=>whnf
  refine⟨by omega,?_⟩
  conv=>whnf
  rw[pz,hx]
  conv=>whnf
  refine⟨fun h3=>?_,fun h3=>?_⟩
  ·conv=>whnf
   repeat(first|(refine brF rfl ?_;conv=>whnf)|(refine brT rfl ?_;conv=>whnf))
  have h3:x.2.2.length<=100:=by
   have h:¬ (x.2.2.length:Int) > 100:=px h3
   omega
  conv=>whnf
  rw[hw1]
  refine⟨i+1,[0],⟨h2,fun y hy=>?_⟩,by omega,?_⟩
  ·rw [m5,hxl] at hy
   rcases mn.1 hy with hy|hy
   ·exact hti y hy
   ·cases gw.1 hy;exact h3
  conv=>whnf
  repeat'(first|exact ⟨⟩|exact rfl|exact fun _=>Iff.rfl|exact fun _ _=>rfl|exact renM_ent rfl _|apply And.intro)
 have h2:i=f.hosts.length:=by
  have h:¬ (i:Int)<f.hosts.length:=px h2
  omega
 subst h2
 rw [lx] at hti
 have hin:f.In:=⟨hrr,had,fun x hx=>by have:=hti x hx;omega⟩
 have hsf:f.Sm:=⟨by omega,fun a ha=>by
  unfold Fo.small at hsm
  simp only [oq,lw] at hsm
  have h1:=hsm.2.2 a ha
  unfold ko at h1
  simp only [oq,ly] at h1
  omega,by omega,fun a ha=>by have:=hti a ha;omega⟩
 have hchk:=qs8 f hfit hin.Len
 have htx:=u3 f hfit hin
 have hSt:Short t:=Short.of 1000000 t (by omega) (by decide)
 have hpt:=qm8 t (by omega) hSt
 conv=>whnf
 refine oD htx rfl rfl ?_
 cases hok:f.ok with
 |false =>
  rw [hok] at hchk
  rw[show jp f=([],2) by unfold jp;rw[hok];rfl]
  have hp:=qm8 [] (by decide) (Short.of 0 [] (by decide) (by decide))
  rw [parse_nil] at hp
  conv=>whnf
  refine oD hp rfl rfl ?_
  conv=>whnf
  refine oD hchk rfl rfl ?_
  conv=>whnf
  repeat(first|(refine brF rfl ?_;conv=>whnf)|(refine brT rfl ?_;conv=>whnf))
  rcases jm2 t hSt with e|⟨zs,hs,e,hk2,ht2,hok2⟩
  ·rw [e] at hpt
   have htn:=u3 nilF nil_fit nil_in
   rw [fv_nil] at htn
   refine oD hpt rfl rfl ?_
   conv=>whnf
   refine oD htn rfl rfl ?_
   conv=>whnf
   repeat(first|(refine brF rfl ?_;conv=>whnf)|(refine brT rfl ?_;conv=>whnf))
  ·rw [e] at hpt
   have ht3:=u3 (mkF zs hs) hk2.fit hk2.in
   rw [ht2] at ht3
   have hc3:=qs8 (mkF zs hs) hk2.fit hk2.in.Len
   rw [hok2] at hc3
   refine oD hpt rfl rfl ?_
   conv=>whnf
   refine oD ht3 rfl rfl ?_
   conv=>whnf
   repeat(first|(refine brF rfl ?_;conv=>whnf)|(refine brT rfl ?_;conv=>whnf))
   refine brT (beq_self_eq_true _) ?_
   conv=>whnf
   repeat(first|(refine brF rfl ?_;conv=>whnf)|(refine brT rfl ?_;conv=>whnf))
   refine oD hc3 rfl rfl ?_
   conv=>whnf
   repeat(first|(refine brF rfl ?_;conv=>whnf)|(refine brT rfl ?_;conv=>whnf))
   exact rfl
 |true =>
  have hk:=Fo.ok_f hok
  rw [hok] at hchk
  rw[show jp f=(f.text,0) by unfold jp;rw[hok];rfl]
  have hp:=qm8 f.text (text_len hk hin hti) (short_text hk hin fun x hx=>by have:=hti x hx;omega)
  rw [ji7 hok hin] at hp
  have hsa:=jd1 f (nzF f) hsf
  rw [nz_same] at hsa
  conv=>whnf
  refine oD hp rfl rfl ?_
  conv=>whnf
  refine oD hchk rfl rfl ?_
  conv=>whnf
  repeat(first|(refine brF rfl ?_;conv=>whnf)|(refine brT rfl ?_;conv=>whnf))
  refine oD hsa rfl rfl ?_
  conv=>whnf
  repeat(first|(refine brF rfl ?_;conv=>whnf)|(refine brT rfl ?_;conv=>whnf))
  rcases jm2 t hSt with e|⟨zs,hs,e,hk2,ht2,hok2⟩
  ·rw [e] at hpt
   have htn:=u3 nilF nil_fit nil_in
   rw [fv_nil] at htn
   refine oD hpt rfl rfl ?_
   conv=>whnf
   refine oD htn rfl rfl ?_
   conv=>whnf
   repeat(first|(refine brF rfl ?_;conv=>whnf)|(refine brT rfl ?_;conv=>whnf))
  ·rw [e] at hpt
   have ht3:=u3 (mkF zs hs) hk2.fit hk2.in
   rw [ht2] at ht3
   have hc3:=qs8 (mkF zs hs) hk2.fit hk2.in.Len
   rw [hok2] at hc3
   refine oD hpt rfl rfl ?_
   conv=>whnf
   refine oD ht3 rfl rfl ?_
   conv=>whnf
   repeat(first|(refine brF rfl ?_;conv=>whnf)|(refine brT rfl ?_;conv=>whnf))
   refine brT (beq_self_eq_true _) ?_
   conv=>whnf
   repeat(first|(refine brF rfl ?_;conv=>whnf)|(refine brT rfl ?_;conv=>whnf))
   refine oD hc3 rfl rfl ?_
   conv=>whnf
   repeat(first|(refine brF rfl ?_;conv=>whnf)|(refine brT rfl ?_;conv=>whnf))
   exact rfl
end Go.Proofs.YtoefgnnkajhmiaaGreatDoor
