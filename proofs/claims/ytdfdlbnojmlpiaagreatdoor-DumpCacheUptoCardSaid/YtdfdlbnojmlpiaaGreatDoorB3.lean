/-
  dump.reader.held. Conditions: the listed variables (VOk); length. dump.Parse. Conditions: the listed variables (VOk); length. hardtacklaw38.lives. Conditions: the listed variables (VOk). How long the lines of a dump are. Plain lemmas.
-/
import Derived.Test.YtdfdlbnojmlpiaaGreatDoorB2
import Derived.Test.YtdfdlbnojmlpiaaGreatDoorB1
import Derived.Test.YtdfdlbnojmlpiaaGreatDoorM4
set_option linter.unusedVariables false
set_option linter.unusedSimpArgs false
namespace Go.Proofs.YtdfdlbnojmlpiaaGreatDoor
open Go Go.Eng
set_option maxRecDepth 100000
theorem numF_le(w:List UInt8)(m:Nat):(numF w m).getD 0≤m:=by
 cases h:numF w m with
 |none=>exact Nat.zero_le _
 |some u=>exact(numF_of h).1
theorem cutN_le':∀ (k:Nat) (s:List UInt8),∀ w ∈ cutN k s,w.length≤s.length
 |0,s,w,h=>by simp [cutN] at h;rw [h];exact Nat.le_refl _
 |k+1,s,w,h=>by
  simp only [cutN] at h
  split at h
  ·simp at h;rw [h];exact Nat.le_refl _
  ·rcases List.mem_cons.1 h with rfl|h
   ·rw[List.length_take];omega
   ·have:=cutN_le' k _ w h
    rw [List.length_drop] at this
    omega
theorem words_else{w0:List UInt8}{r:List (List UInt8)}(t:List UInt8)(b:Bool)(h1:¬ (w0=[115,101,116]∧r.length=6))(h2:¬ (w0=[110,111,110,101]∧r.length=4)):wordsF (w0 :: r) t b=elseF t:=by
 unfold wordsF
 split
 ·rename_i e
  injection e with e1 e2
  subst e1 e2
  rw[if_neg (fun h=>h1 ⟨h,rfl⟩)]
 ·rename_i e
  injection e with e1 e2
  subst e1 e2
  rw[if_neg (fun h=>h2 ⟨h,rfl⟩)]
 ·rfl
theorem wrap16(n:Nat)(h:n≤65535):IntKind.u16.wrap (n:Int)=(n:Int):=by rw[IntKind.wrap_u16];omega
theorem wrap32(n:Nat)(h:n≤4294967295):IntKind.u32.wrap (n:Int)=(n:Int):=by rw[IntKind.wrap_u32];omega
theorem wrap8(n:Nat)(h:n≤4):IntKind.u8.wrap (n:Int)=(n:Int):=by rw[IntKind.wrap_u8];omega
def hB(nm:List UInt8)(ty ttl:Int)(d:SV)(rank:Int)(no name:DV)(til:Int):KB:=.cells 77 [.d (.str nm),.d (.int .u16 ty),.d (.int .u32 ttl),d,.d (.int .u8 rank),.d no,.d name,.d (.int .i64 til)]
def hZ:KB:=hB [] 0 0 nilS 0 .ff .ff 0
theorem rline_x(t:List UInt8)(b:Bool)(rest:List KB)(ht:t.length≤1099511627776):COk Tryz.prog 104 [.ptr 0 0] (rdB t b :: rest) (fun r k=>r = .d (.str (lineF t b).1)∧k=rdB (lineF t b).2.1 (lineF t b).2.2 :: rest):=by
 have:=(rline_ok t b ht).among [] rest (fun s k h=>by rw[h.2];exact Nat.le_refl _) rfl
 refine COk.imp (this:COk _ _ [.ptr 0 0] (rdB t b :: rest) _) fun s k ⟨s0,k1,⟨h1,h2⟩,hs,hk⟩=>?_
 subst h1 h2
 exact⟨by rw[hs];rfl,by rw[hk];show[]++(mapB _ [rdB _ _]++(rest++mapB _ []))=_;simp[mapB];rfl⟩
theorem rdd_x(t:List UInt8)(b:Bool)(s:List UInt8)(rest:List KB):COk Tryz.prog 107 [.ptr 0 0,.d (.str s)] (rdB t b :: rest) (fun r k=>r = .d (.str ((unhexT s).getD []))∧k=rdB t (b || (unhexT s).isNone) :: rest):=by
 have:=(rdd_ok t b s).among [] rest (fun s k h=>by rw[h.2];exact Nat.le_refl _) rfl
 refine COk.imp (this:COk _ _ [.ptr 0 0,.d (.str s)] (rdB t b :: rest) _) fun s k ⟨s0,k1,⟨h1,h2⟩,hs,hk⟩=>?_
 subst h1 h2
 exact⟨by rw[hs];rfl,by rw[hk];show[]++(mapB _ [rdB _ _]++(rest++mapB _ []))=_;simp[mapB];rfl⟩
def heldR(H:Held × List UInt8 × Bool)(r:SV)(k:List KB):Prop:=∃ d no name,r = .agg [.d (.str H.1.nm),.d (.int .u16 H.1.ty),.d (.int .u32 H.1.ttl),d,.d (.int .u8 H.1.rank),.d no,.d name,.d (.int .i64 H.1.til)] ∧
 DenTo (.d no) (.d (.bool H.1.no))∧DenTo (.d name) (.d (.bool H.1.name)) ∧
 ((d = .all 1∧k=[rdB H.2.1 H.2.2,.row 9 1 H.1.data.length .iff (strs H.1.data)]∧H.1.z=Nat.beq H.1.data.length 0)∨(d=nilS∧H.1.data=[]∧H.1.z=true∧k=[rdB H.2.1 H.2.2,.gone]))
theorem strs_snoc(l:List (List UInt8))(d:List UInt8)(j:Nat)(hj:j<l.length+1):catF l.length (strs l) (chunk [DV.str d] 1) j=strs (l++[d]) j:=by
 unfold catF strs
 split
 ·rename_i h
  rw[List.getElem?_append_left h]
 ·rename_i h
  have:j=l.length:=by omega
  subst this
  rw[Nat.sub_self,List.getElem?_append_right (Nat.le_refl _),Nat.sub_self]
  rfl
theorem beq_empty(l:List (List UInt8)):l.isEmpty=Nat.beq l.length 0:=by cases l <;> rfl
structure DhSt where
 i:Nat
 t:List UInt8
 b:Bool
 l:List (List UInt8)
set_option maxHeartbeats 16000000 in
theorem rheld0_ok(t0:List UInt8)(b0:Bool)(ht0:t0.length≤1099511627776):COk Tryz.prog 50 [.ptr 0 0] [rdB t0 b0] (heldR (heldF t0 b0)):=by
 refine cOk_of_run (TT:=TT) (IN:=lookI []) TT_ok INok_nil mixed 1000 Tryz.func50 rfl (enters Tryz.func50 (by kernel_rfl) rfl) 155 (by kernel_rfl) ?_
 conv=>whnf
 refine .rel _ (COk.frameX (rline_ok t0 b0 ht0) [0] rfl rfl rfl) (fun x ks' hR=>?_)
 obtain⟨_,_,⟨rfl,rfl⟩,rfl,hk⟩:=hR
 have hk2:ks'=[rdB (lineF t0 b0).2.1 (lineF t0 b0).2.2,hZ,hZ]:=hk
 clear hk
 subst hk2
 have hll:=line_le t0 b0
 have hH:heldF t0 b0=wordsF (pcs (lineF t0 b0).1) (lineF t0 b0).2.1 (lineF t0 b0).2.2:=rfl
 generalize lineF t0 b0=L at hll hH ⊢
 obtain⟨x,t,b⟩:=L
 obtain⟨hx,ht'⟩:=hll
 simp only at hx ht' hH
 have ht:t.length≤1099511627776:=by omega
 conv=>whnf
 refine .one (.data _ (split_ok x (by omega)) rfl rfl ?_)
 have hw:=cutN_le' (Lib.countByte x 32) x
 have hne:pcs x≠[]:=cutN_ne _ x
 change ∀ w ∈ pcs x,_ at hw
 generalize pcs x=ws at hw hne hH ⊢
 obtain⟨w0,r,rfl⟩:=List.exists_cons_of_ne_nil hne
 conv=>whnf
 refine⟨by show(0:Int)≤0∧(0:Int)<(((r.length+1:Nat)):Int);omega,?_⟩
 conv=>whnf
 by_cases c1:w0=[115,101,116]∧r.length=6
 ·obtain⟨rfl,c1⟩:=c1
  obtain⟨w1,w2,w3,w4,w5,w6,rfl⟩:∃ a b c d e f,r=[a,b,c,d,e,f]:=by
   match r,c1 with
   |[a,b,c,d,e,f],_=>exact⟨a,b,c,d,e,f,rfl⟩
  refine brT rfl ?_
  conv=>whnf
  refine brT rfl ?_
  conv=>whnf
  refine⟨by show(0:Int)≤1∧(1:Int)<7;omega,?_⟩
  conv=>whnf
  refine .rel _ (COk.frameX (rname_ok t b w1) [0] rfl rfl rfl) (fun y ks' hR=>?_)
  obtain⟨_,_,⟨rfl,rfl⟩,rfl,hk⟩:=hR
  have hk2:ks'=[rdB t (b || (nameF w1).isNone),hZ,hZ]:=hk
  clear hk
  subst hk2
  conv=>whnf
  refine⟨by show(0:Int)≤2∧(2:Int)<7;omega,?_⟩
  conv=>whnf
  refine .rel _ (COk.frameX (rnum_ok t (b || (nameF w1).isNone) w2 65535 (by have:=hw w2 (by simp);omega) (by decide)) [0] rfl rfl rfl) (fun y ks' hR=>?_)
  obtain⟨_,_,⟨rfl,rfl⟩,rfl,hk⟩:=hR
  have hk2:ks'=[rdB t ((b || (nameF w1).isNone) || (numF w2 65535).isNone),hZ,hB ((nameF w1).getD []) 0 0 nilS 0 .ff .ff 0]:=hk
  clear hk
  subst hk2
  conv=>whnf
  rw[show IntKind.u16.wrap (((numF w2 65535).getD 0:Nat):Int)=(((numF w2 65535).getD 0:Nat):Int) from wrap16 _ (numF_le w2 65535)]
  refine⟨by show(0:Int)≤3∧(3:Int)<7;omega,?_⟩
  conv=>whnf
  refine .rel _ (COk.frameX (rnum_ok t ((b || (nameF w1).isNone) || (numF w2 65535).isNone) w3 4 (by have:=hw w3 (by simp);omega) (by decide)) [0] rfl rfl rfl) (fun y ks' hR=>?_)
  obtain⟨_,_,⟨rfl,rfl⟩,rfl,hk⟩:=hR
  have hk2:ks'=[rdB t (((b || (nameF w1).isNone) || (numF w2 65535).isNone) || (numF w3 4).isNone),hZ,hB ((nameF w1).getD []) ((numF w2 65535).getD 0:Nat) 0 nilS 0 .ff .ff 0]:=hk
  clear hk
  subst hk2
  conv=>whnf
  rw[show IntKind.u8.wrap (((numF w3 4).getD 0:Nat):Int)=(((numF w3 4).getD 0:Nat):Int) from wrap8 _ (numF_le w3 4)]
  refine⟨by show(0:Int)≤4∧(4:Int)<7;omega,?_⟩
  conv=>whnf
  refine .rel _ (COk.frameX (rnum_ok t (((b || (nameF w1).isNone) || (numF w2 65535).isNone) || (numF w3 4).isNone) w4 4294967295 (by have:=hw w4 (by simp);omega) (by decide)) [0] rfl rfl rfl) (fun y ks' hR=>?_)
  obtain⟨_,_,⟨rfl,rfl⟩,rfl,hk⟩:=hR
  have hk2:ks'=[rdB t ((((b || (nameF w1).isNone) || (numF w2 65535).isNone) || (numF w3 4).isNone) || (numF w4 4294967295).isNone),hZ,hB ((nameF w1).getD []) ((numF w2 65535).getD 0:Nat) 0 nilS ((numF w3 4).getD 0:Nat) .ff .ff 0]:=hk
  clear hk
  subst hk2
  conv=>whnf
  rw[show IntKind.u32.wrap (((numF w4 4294967295).getD 0:Nat):Int)=(((numF w4 4294967295).getD 0:Nat):Int) from wrap32 _ (numF_le w4 4294967295)]
  refine⟨by show(0:Int)≤5∧(5:Int)<7;omega,?_⟩
  conv=>whnf
  refine .rel _ (COk.frameX (rnum_ok t ((((b || (nameF w1).isNone) || (numF w2 65535).isNone) || (numF w3 4).isNone) || (numF w4 4294967295).isNone) w5 4611686018428436480 (by have:=hw w5 (by simp);omega) (by decide)) [0] rfl rfl rfl) (fun y ks' hR=>?_)
  obtain⟨_,_,⟨rfl,rfl⟩,rfl,hk⟩:=hR
  have hk2:ks'=[rdB t (((((b || (nameF w1).isNone) || (numF w2 65535).isNone) || (numF w3 4).isNone) || (numF w4 4294967295).isNone) || (numF w5 4611686018428436480).isNone),hZ,hB ((nameF w1).getD []) ((numF w2 65535).getD 0:Nat) ((numF w4 4294967295).getD 0:Nat) nilS ((numF w3 4).getD 0:Nat) .ff .ff 0]:=hk
  clear hk
  subst hk2
  conv=>whnf
  rw[show IntKind.i64.wrap (((numF w5 4611686018428436480).getD 0:Nat):Int)=(((numF w5 4611686018428436480).getD 0:Nat):Int) from w64_in _ (by have:=numF_le w5 4611686018428436480;omega)]
  refine⟨by show(0:Int)≤6∧(6:Int)<7;omega,?_⟩
  conv=>whnf
  refine .rel _ (COk.frameX (rnum_ok t (((((b || (nameF w1).isNone) || (numF w2 65535).isNone) || (numF w3 4).isNone) || (numF w4 4294967295).isNone) || (numF w5 4611686018428436480).isNone) w6 64 (by have:=hw w6 (by simp);omega) (by decide)) [0] rfl rfl rfl) (fun y ks' hR=>?_)
  obtain⟨_,_,⟨rfl,rfl⟩,rfl,hk⟩:=hR
  have hk2:ks'=[rdB t ((((((b || (nameF w1).isNone) || (numF w2 65535).isNone) || (numF w3 4).isNone) || (numF w4 4294967295).isNone) || (numF w5 4611686018428436480).isNone) || (numF w6 64).isNone),hZ,hB ((nameF w1).getD []) ((numF w2 65535).getD 0:Nat) ((numF w4 4294967295).getD 0:Nat) nilS ((numF w3 4).getD 0:Nat) .ff .ff ((numF w5 4611686018428436480).getD 0:Nat)]:=hk
  clear hk
  subst hk2
  conv=>whnf
  rw[show IntKind.i64.wrap (((numF w6 64).getD 0:Nat):Int)=(((numF w6 64).getD 0:Nat):Int) from w64_in _ (by have:=numF_le w6 64;omega)]
  have hS:heldF t0 b0=setF w1 w2 w3 w4 w5 w6 t b:=by rw[hH];simp[wordsF]
  rw[hS]
  unfold setF
  clear hS hH hw hne c1
  obtain⟨BS,hBS⟩:∃ B,B=setB w1 w2 w3 w4 w5 w6 b:=⟨_,rfl⟩
  rw[←hBS]
  unfold setB at hBS
  rw[←hBS]
  clear hBS
  have hN:=numF_le w6 64
  generalize (numF w6 64).getD 0=N at hN ⊢
  generalize (numF w5 4611686018428436480).getD 0=n5
  generalize (numF w4 4294967295).getD 0=n4
  generalize (numF w3 4).getD 0=n3
  generalize (numF w2 65535).getD 0=n2
  generalize (nameF w1).getD []=nm
  conv=>whnf
  refine .nilC 2 3 9 1 (fun _=>[]) _ _ _ _ rfl rfl ?_
  refine .inv DhSt (fun x=>x.i≤N∧x.l.length=x.i∧x.t.length≤1099511627776∧dataP (N - x.i) x.t x.b x.l=dataP N t BS []) (fun x=>[(76,iV x.i)])
   (fun x=>[(0,rdB x.t x.b),(2,hB nm n2 n4 (.all 3) n3 .ff .ff n5),(3,.row 9 1 x.l.length .iff (strs x.l))]) (fun x=>N - x.i) ⟨⟨0,t,BS,[]⟩,[0,1,2,3],⟨Nat.zero_le _,rfl,ht,rfl⟩,?_⟩ ?_
  ·conv=>whnf
   repeat'(first|exact ⟨⟩|exact rfl|exact(fun _ _ _ _ h=>⟨packed_stable _,h⟩)|exact fun _=>Iff.rfl|exact fun _ _=>rfl|apply And.intro)
   exact fun i h=>absurd h (Nat.not_lt_zero _)
  rintro x ⟨ki,kl,kt,hrest⟩
  conv=>whnf
  generalize x.i=i at ki kl hrest ⊢
  generalize x.t=t1 at kt hrest ⊢
  generalize x.b=b1 at hrest ⊢
  generalize x.l=l at kl hrest ⊢
  refine⟨fun c5=>?_,fun c5=>?_⟩
  ·have c5':i<N:=(by have h:(i:Int)<N:=of_decide_eq_true c5;omega)
   conv=>whnf
   apply Exists.intro
   refine⟨[rdB (lineF t1 b1).2.1 ((lineF t1 b1).2.2 || (unhexT (lineF t1 b1).1).isNone),hZ,hB nm n2 n4 (.all 5) n3 .ff .ff n5,.gone,.cells 9 [.d (.str ((unhexT (lineF t1 b1).1).getD []))],
    .row 9 1 (l.length+1) .iff (catF l.length (strs l) (chunk [DV.str ((unhexT (lineF t1 b1).1).getD [])] 1))],?_,?_⟩
   ·conv=>whnf
    repeat'(first|exact ⟨⟩|exact⟨rfl,rfl⟩|refine .mem _ _ (rline_x t1 b1 _ kt) ?_|refine .mem _ _ (rdd_x _ _ _ _) ?_|refine And.intro (by omega) ?_|apply And.intro|(conv=>whnf))
   conv=>whnf
   rw[show IntKind.i64.wrap ((i:Int)+1)=((i+1:Nat):Int) by rw[w64_in _ (by omega)];omega]
   refine⟨⟨i+1,(lineF t1 b1).2.1,(lineF t1 b1).2.2 || (unhexT (lineF t1 b1).1).isNone,l++[(unhexT (lineF t1 b1).1).getD []]⟩,[0,1,2,5],⟨c5',by rw[List.length_append,kl];rfl,Nat.le_trans (line_le t1 b1).2 kt,?_⟩,by show N - (i+1)<N - i;omega,?_⟩
   ·rw[←hrest,show N - i=(N - (i+1))+1 by omega]
    rfl
   conv=>whnf
   repeat'(first|exact ⟨⟩|exact rfl|exact(fun _ _ _ _ h=>⟨packed_stable _,h⟩)|exact fun _=>Iff.rfl|exact fun _ _=>rfl|apply And.intro)
   all_goals first
    |exact(show l.length+1=(l++[_]).length by simp)
    |exact fun j hj=>strs_snoc l _ j hj
  ·have c5':i=N:=(by have h:¬ (i:Int)<N:=of_decide_eq_false c5;omega)
   subst c5'
   rw [Nat.sub_self] at hrest
   rw[←hrest]
   conv=>whnf
   refine⟨[0,3],.agg [.d (.str nm),.d (.int .u16 n2),.d (.int .u32 n4),.all 1,.d (.int .u8 n3),.d .ff,.d .ff,.d (.int .i64 n5)],[rdB t1 b1,.row 9 1 l.length .iff (strs l)],rfl,rfl,rfl,?_,?_⟩
   ·repeat'(first|exact ⟨⟩|exact rfl|exact(fun _ _ _ _ h=>⟨packed_stable _,h⟩)|exact fun _=>Iff.rfl|exact fun _ _=>rfl|apply And.intro)
   exact⟨_,_,_,rfl,.ff,.ff,.inl ⟨rfl,rfl,beq_empty l⟩⟩
 have c1':¬ (w0=[115,101,116]∧r.length=6):=c1
 have hsk:∀ {P:Prop},P→P:=fun h=>h
 by_cases c2:w0=[110,111,110,101]∧r.length=4
 ·obtain⟨rfl,c2⟩:=c2
  obtain⟨w1,w2,w3,w4,rfl⟩:∃ a b c d,r=[a,b,c,d]:=by
   match r,c2 with
   |[a,b,c,d],_=>exact⟨a,b,c,d,rfl⟩
  refine brF rfl ?_
  conv=>whnf
  repeat(first|(refine brF rfl ?_;conv=>whnf)|(refine brT rfl ?_;conv=>whnf))
  refine⟨by show(0:Int)≤0∧(0:Int)<5;omega,?_⟩
  conv=>whnf
  refine brT rfl ?_
  conv=>whnf
  refine brT rfl ?_
  conv=>whnf
  refine⟨by show(0:Int)≤1∧(1:Int)<5;omega,?_⟩
  conv=>whnf
  refine .rel _ (COk.frameX (rname_ok t b w1) [0] rfl rfl rfl) (fun y ks' hR=>?_)
  obtain⟨_,_,⟨rfl,rfl⟩,rfl,hk⟩:=hR
  have hk2:ks'=[rdB t (b || (nameF w1).isNone),hZ,hB [] 0 0 nilS 4 .tt .ff 0]:=hk
  clear hk
  subst hk2
  conv=>whnf
  refine⟨by show(0:Int)≤2∧(2:Int)<5;omega,?_⟩
  conv=>whnf
  refine .rel _ (COk.frameX (rnum_ok t (b || (nameF w1).isNone) w2 65535 (by have:=hw w2 (by simp);omega) (by decide)) [0] rfl rfl rfl) (fun y ks' hR=>?_)
  obtain⟨_,_,⟨rfl,rfl⟩,rfl,hk⟩:=hR
  have hk2:ks'=[rdB t ((b || (nameF w1).isNone) || (numF w2 65535).isNone),hZ,hB ((nameF w1).getD []) 0 0 nilS 4 .tt .ff 0]:=hk
  clear hk
  subst hk2
  conv=>whnf
  rw[show IntKind.u16.wrap (((numF w2 65535).getD 0:Nat):Int)=(((numF w2 65535).getD 0:Nat):Int) from wrap16 _ (numF_le w2 65535)]
  refine⟨by show(0:Int)≤3∧(3:Int)<5;omega,?_⟩
  conv=>whnf
  refine .rel _ (COk.frameX (rnum_ok t ((b || (nameF w1).isNone) || (numF w2 65535).isNone) w3 4294967295 (by have:=hw w3 (by simp);omega) (by decide)) [0] rfl rfl rfl) (fun y ks' hR=>?_)
  obtain⟨_,_,⟨rfl,rfl⟩,rfl,hk⟩:=hR
  have hk2:ks'=[rdB t (((b || (nameF w1).isNone) || (numF w2 65535).isNone) || (numF w3 4294967295).isNone),hZ,hB ((nameF w1).getD []) ((numF w2 65535).getD 0:Nat) 0 nilS 4 .tt (.bool (((numF w2 65535).getD 0:Nat) == (0:Int))) 0]:=hk
  clear hk
  subst hk2
  conv=>whnf
  rw[show IntKind.u32.wrap (((numF w3 4294967295).getD 0:Nat):Int)=(((numF w3 4294967295).getD 0:Nat):Int) from wrap32 _ (numF_le w3 4294967295)]
  refine⟨by show(0:Int)≤4∧(4:Int)<5;omega,?_⟩
  conv=>whnf
  refine .rel _ (COk.frameX (rnum_ok t (((b || (nameF w1).isNone) || (numF w2 65535).isNone) || (numF w3 4294967295).isNone) w4 4611686018428436480 (by have:=hw w4 (by simp);omega) (by decide)) [0] rfl rfl rfl) (fun y ks' hR=>?_)
  obtain⟨_,_,⟨rfl,rfl⟩,rfl,hk⟩:=hR
  have hk2:ks'=[rdB t ((((b || (nameF w1).isNone) || (numF w2 65535).isNone) || (numF w3 4294967295).isNone) || (numF w4 4611686018428436480).isNone),hZ,hB ((nameF w1).getD []) ((numF w2 65535).getD 0:Nat) ((numF w3 4294967295).getD 0:Nat) nilS 4 .tt (.bool (((numF w2 65535).getD 0:Nat) == (0:Int))) 0]:=hk
  clear hk
  subst hk2
  conv=>whnf
  rw[show IntKind.i64.wrap (((numF w4 4611686018428436480).getD 0:Nat):Int)=(((numF w4 4611686018428436480).getD 0:Nat):Int) from w64_in _ (by have:=numF_le w4 4611686018428436480;omega)]
  conv=>whnf
  refine⟨[0,1],.agg [.d (.str ((nameF w1).getD [])),.d (.int .u16 ((numF w2 65535).getD 0:Nat)),.d (.int .u32 ((numF w3 4294967295).getD 0:Nat)),nilS,.d (.int .u8 4),.d .tt,.d (.bool (((numF w2 65535).getD 0:Nat) == (0:Int))),.d (.int .i64 ((numF w4 4611686018428436480).getD 0:Nat))],[rdB t (b || (nameF w1).isNone || (numF w2 65535).isNone || (numF w3 4294967295).isNone || (numF w4 4611686018428436480).isNone),.gone],rfl,rfl,rfl,?_,?_⟩
  ·repeat'(first|exact ⟨⟩|exact rfl|exact(fun _ _ _ _ h=>⟨packed_stable _,h⟩)|exact fun _=>Iff.rfl|exact fun _ _=>rfl|apply And.intro)
  have hS:heldF t0 b0=noneF w1 w2 w3 w4 t b:=by rw[hH];simp[wordsF]
  rw[hS]
  exact⟨_,_,_,rfl,.tt,DenTo.refl _,.inr ⟨rfl,rfl,rfl,rfl⟩⟩
 have hS:heldF t0 b0=elseF t:=by rw[hH];exact words_else t b c1 c2
 rw[hS]
 conv=>whnf
 have hlen:(((w0 :: r).length:Int))=((r.length+1:Nat):Int):=rfl
 by_cases e1:w0=[115,101,116]
 ·have e2:r.length≠6:=fun e=>c1 ⟨e1,e⟩
  subst e1
  refine brT rfl ?_
  conv=>whnf
  refine brF (beq_eq_false_iff_ne.2 (by show((r.length+1:Nat):Int)≠7;omega)) ?_
  conv=>whnf
  refine⟨by show(0:Int)≤0∧(0:Int)<((r.length+1:Nat):Int);omega,?_⟩
  conv=>whnf
  refine brF rfl ?_
  conv=>whnf
  repeat(first|(refine brF rfl ?_;conv=>whnf)|(refine brT rfl ?_;conv=>whnf))
  refine⟨[0,1],.agg [.d (.str []),.d (.int .u16 0),.d (.int .u32 0),nilS,.d (.int .u8 0),.d .ff,.d .ff,.d (.int .i64 0)],[rdB t true,.gone],rfl,rfl,rfl,?_,⟨_,_,_,rfl,.ff,.ff,.inr ⟨rfl,rfl,rfl,rfl⟩⟩⟩
  repeat'(first|exact ⟨⟩|exact rfl|exact(fun _ _ _ _ h=>⟨packed_stable _,h⟩)|exact fun _=>Iff.rfl|exact fun _ _=>rfl|apply And.intro)
 ·refine brF (beq_eq_false_iff_ne.2 e1) ?_
  conv=>whnf
  repeat(first|(refine brF rfl ?_;conv=>whnf)|(refine brT rfl ?_;conv=>whnf))
  refine⟨by show(0:Int)≤0∧(0:Int)<((r.length+1:Nat):Int);omega,?_⟩
  conv=>whnf
  by_cases e3:w0=[110,111,110,101]
  ·have e2:r.length≠4:=fun e=>c2 ⟨e3,e⟩
   subst e3
   refine brT rfl ?_
   conv=>whnf
   refine brF (beq_eq_false_iff_ne.2 (by show((r.length+1:Nat):Int)≠5;omega)) ?_
   conv=>whnf
   repeat(first|(refine brF rfl ?_;conv=>whnf)|(refine brT rfl ?_;conv=>whnf))
   refine⟨[0,1],.agg [.d (.str []),.d (.int .u16 0),.d (.int .u32 0),nilS,.d (.int .u8 0),.d .ff,.d .ff,.d (.int .i64 0)],[rdB t true,.gone],rfl,rfl,rfl,?_,⟨_,_,_,rfl,.ff,.ff,.inr ⟨rfl,rfl,rfl,rfl⟩⟩⟩
   repeat'(first|exact ⟨⟩|exact rfl|exact(fun _ _ _ _ h=>⟨packed_stable _,h⟩)|exact fun _=>Iff.rfl|exact fun _ _=>rfl|apply And.intro)
  ·refine brF (beq_eq_false_iff_ne.2 e3) ?_
   conv=>whnf
   repeat(first|(refine brF rfl ?_;conv=>whnf)|(refine brT rfl ?_;conv=>whnf))
   refine⟨[0,1],.agg [.d (.str []),.d (.int .u16 0),.d (.int .u32 0),nilS,.d (.int .u8 0),.d .ff,.d .ff,.d (.int .i64 0)],[rdB t true,.gone],rfl,rfl,rfl,?_,⟨_,_,_,rfl,.ff,.ff,.inr ⟨rfl,rfl,rfl,rfl⟩⟩⟩
   repeat'(first|exact ⟨⟩|exact rfl|exact(fun _ _ _ _ h=>⟨packed_stable _,h⟩)|exact fun _=>Iff.rfl|exact fun _ _=>rfl|apply And.intro)
theorem rheld_ok(t0:List UInt8)(b0:Bool)(ht0:t0.length≤1099511627776):COk Tryz.prog 50 [.ptr 0 0] [rdB t0 b0] (fun r k=>r=(heldF t0 b0).1.V∧k=[rdB (heldF t0 b0).2.1 (heldF t0 b0).2.2,.gone]):=by
 refine(rheld0_ok t0 b0 ht0).froz ?_
 generalize heldF t0 b0=H
 rintro s k ⟨d,no,name,rfl,hno,hname,⟨rfl,rfl,hz⟩|⟨rfl,hd,hz,rfl⟩⟩
 ·refine⟨_,_,H.1.V,[1],rfl,⟨rfl,rfl⟩,DenTo.agg ⟨.refl _,.refl _,.refl _,?_,.refl _,hno,hname,.refl _,trivial⟩,rfl,rfl⟩
  rw[hz]
  exact .refl _
 ·refine⟨_,_,H.1.V,[],rfl,⟨rfl,rfl⟩,DenTo.agg ⟨.refl _,.refl _,.refl _,?_,.refl _,hno,hname,.refl _,trivial⟩,rfl,rfl⟩
  rw[hz,hd]
  exact .of (.none _ _ _ _ _)
end Go.Proofs.YtdfdlbnojmlpiaaGreatDoor
namespace Go.Proofs.YtdfdlbnojmlpiaaGreatDoor
open Go Go.Eng
set_option maxRecDepth 100000
def parsedV(o:Option (List Held)):SV:=match o with
 |some l=>.tup [.d (heldsD l.isEmpty l),.d (.int .i64 0)]
 |none=>.tup [.d (heldsD true []),.d (.int .i64 6)]
theorem held_cat(l:List Held)(q:Held)(j:Nat)(hj:j<l.length+1):catF l.length (fun j=>(l.getD j default).enc) (chunk q.enc 8) j=((l++[q]).getD j default).enc:=by
 unfold catF
 split
 ·rename_i h
  show(l.getD j default).enc=_
  rw[List.getD,List.getD,List.getElem?_append_left h]
 ·rename_i h
  have:j=l.length:=by omega
  subst this
  rw[Nat.sub_self,List.getD,List.getElem?_append_right (Nat.le_refl _),Nat.sub_self]
  rfl
theorem beq_emptyH(l:List Held):l.isEmpty=Nat.beq l.length 0:=by cases l <;> rfl
structure DpSt where
 acc:List Held
 t:List UInt8
 k:Nat
set_option maxHeartbeats 16000000 in
theorem dparse_ok(s:List UInt8)(hs:s.length≤1099511627776):FnOk Tryz.prog 13 [.d (.str s)] (parsedV (parseD s.length [] s)):=by
 refine fnOk_of_run (TT:=TT) (IN:=lookI []) TT_ok INok_nil mixed 1000 Tryz.func13 rfl (enters Tryz.func13 (by kernel_rfl) rfl) rfl 33 (by kernel_rfl) ?_
 conv=>whnf
 refine .nilT 5 77 8 (fun i=>(([]:List Held).getD i default).enc) _ _ rfl ?_
 refine .inv DpSt (fun x=>x.acc.length≤4096∧x.t.length≤s.length∧x.t.length≤x.k∧parseD x.k x.acc x.t=parseD s.length [] s) (fun x=>[(5,.all 1)])
  (fun x=>[(0,rdB x.t false),(1,.row 77 8 x.acc.length .iff (fun j=>(x.acc.getD j default).enc))]) (fun x=>x.t.length) ⟨⟨[],s,s.length⟩,[0,1],⟨Nat.zero_le _,Nat.le_refl _,Nat.le_refl _,rfl⟩,?_⟩ ?_
 ·conv=>whnf
  repeat'(first|exact ⟨⟩|exact rfl|exact(fun _ _ _ _ h=>⟨packed_stable _,h⟩)|exact fun _=>Iff.rfl|exact fun _ _=>rfl|apply And.intro)
  all_goals trace_state
 rintro x ⟨k1,k2,k3,hrest⟩
 conv=>whnf
 generalize x.acc=acc at k1 hrest ⊢
 generalize x.t=t at k2 k3 hrest ⊢
 generalize x.k=k at k3 hrest ⊢
 by_cases ht:t=[]
 ·subst ht
  have e:parseD k acc []=some acc:=by cases k <;> (unfold parseD;rw[if_pos rfl])
  rw [e] at hrest
  rw[←hrest]
  refine brF rfl ?_
  conv=>whnf
  rw[beq_emptyH acc]
  repeat'(first|exact ⟨⟩|exact rfl|exact fun _=>Iff.rfl|exact fun _ _=>rfl|exact renM_ent rfl _|apply And.intro)
  all_goals first|exact .inl rfl|exact .inr rfl|exact fun i hi=>absurd hi (Nat.not_lt_zero _)
 refine brT (bne_iff_ne.2 ht:(t != [])=true) ?_
 have hpos:0<t.length:=List.length_pos_iff.2 ht
 obtain⟨k,rfl⟩:∃ j,k=j+1:=⟨k - 1,by omega⟩
 have hstep:parseD (k+1) acc t=if t=[] then some acc else if acc.length=4096 then none else if (heldF t false).2.2=true∨(heldF t false).1.ok=false then none else parseD k (acc++[(heldF t false).1]) (heldF t false).2.1:=rfl
 rw [hstep,if_neg ht] at hrest
 clear hstep
 conv=>whnf
 by_cases h1:acc.length=4096
 ·rw [if_pos h1] at hrest
  rw[←hrest]
  refine brT (beq_iff_eq.2 (by rw[h1];rfl)) ?_
  conv=>whnf
  repeat'(first|exact ⟨⟩|exact rfl|exact fun _=>Iff.rfl|exact fun _ _=>rfl|exact renM_ent rfl _|apply And.intro)
  all_goals first|exact .inl rfl|exact .inr rfl|exact fun i hi=>absurd hi (Nat.not_lt_zero _)
 rw [if_neg h1] at hrest
 refine brF (beq_eq_false_iff_ne.2 (fun e=>h1 (by omega))) ?_
 conv=>whnf
 refine .rel _ (COk.frameX (rheld_ok t false (by omega)) [0] rfl rfl rfl) (fun y ks' hR=>?_)
 obtain⟨_,_,⟨rfl,rfl⟩,rfl,hk⟩:=hR
 have hbk:=fun h=>heldF_back (t:=t) h
 generalize heldF t false=H at hrest hk hbk ⊢
 obtain⟨h,t1,b1⟩:=H
 simp only at hrest hbk
 have hk2:ks'=[rdB t1 b1,.row 77 8 acc.length .iff (fun j=>(acc.getD j default).enc),.gone]:=hk
 clear hk
 subst hk2
 conv=>whnf
 cases b1 with
 |true =>
  rw [if_pos (.inl rfl)] at hrest
  rw[←hrest]
  refine brT rfl ?_
  conv=>whnf
  repeat(first|(refine brF rfl ?_;conv=>whnf)|(refine brT rfl ?_;conv=>whnf))
  repeat'(first|exact ⟨⟩|exact rfl|exact fun _=>Iff.rfl|exact fun _ _=>rfl|exact renM_ent rfl _|apply And.intro)
  all_goals first|exact .inl rfl|exact .inr rfl|exact fun i hi=>absurd hi (Nat.not_lt_zero _)
 |false =>
  obtain⟨_,_,hlt⟩:=hbk rfl
  refine brF rfl ?_
  conv=>whnf
  refine .one (.data _ (dcheck_ok h) rfl rfl ?_)
  cases hck:h.ok with
  |false =>
   rw [hck,if_pos (.inr rfl)] at hrest
   rw[←hrest]
   conv=>whnf
   repeat(first|(refine brF rfl ?_;conv=>whnf)|(refine brT rfl ?_;conv=>whnf))
   repeat'(first|exact ⟨⟩|exact rfl|exact fun _=>Iff.rfl|exact fun _ _=>rfl|exact renM_ent rfl _|apply And.intro)
   all_goals first|exact .inl rfl|exact .inr rfl|exact fun i hi=>absurd hi (Nat.not_lt_zero _)
  |true =>
   rw [hck,if_neg (by simp)] at hrest
   conv=>whnf
   repeat(first|(refine brF rfl ?_;conv=>whnf)|(refine brT rfl ?_;conv=>whnf))
   refine⟨by omega,?_⟩
   conv=>whnf
   refine⟨⟨acc++[h],t1,k⟩,[0,5],⟨by rw[List.length_append];show acc.length+1≤4096;omega,by show t1.length≤s.length;omega,by show t1.length≤k;omega,hrest⟩,hlt,?_⟩
   conv=>whnf
   repeat'(first|exact ⟨⟩|exact rfl|exact(fun _ _ _ _ h=>⟨packed_stable _,h⟩)|exact fun _=>Iff.rfl|exact fun _ _=>rfl|apply And.intro)
   all_goals first
    |exact(show acc.length+1=(acc++[_]).length by simp)
    |exact fun j hj=>held_cat acc h j hj
end Go.Proofs.YtdfdlbnojmlpiaaGreatDoor
namespace Go.Proofs.YtdfdlbnojmlpiaaGreatDoor
open Go Go.Eng
set_option maxRecDepth 100000
def dvA:Held:=⟨[1,97,0],1,5,false,[[1,2,3,4]],1,false,false,9⟩
def dvB:Held:=⟨[0],0,6,true,[],4,true,true,7⟩
def dvS:List UInt8:=[115,101,116,32,97,46,32,49,32,49,32,53,32,57,32,49,10,48,49,48,50,48,51,48,52,10,110,111,110,101,32,46,32,48,32,54,32,55,10]
theorem dig1{n:Nat}(h:n<10):Lib.decDigits n=[UInt8.ofNat (48+n)]:=by rw[Lib.decDigits,dif_pos h]
theorem dv_okA:dvA.ok=true:=by kernel_rfl
theorem dv_okB:dvB.ok=true:=by kernel_rfl
theorem dv_inA:dvA.Fit:=⟨⟨by decide,by decide,by decide,by decide⟩,by decide,by decide⟩
theorem dv_inB:dvB.Fit:=⟨⟨by decide,by decide,by decide,by decide⟩,by decide,by decide⟩
theorem dv_lines:linesT [dvA,dvB]=dvS:=by
 unfold linesT heldT headT numT
 simp only[List.flatMap_cons,List.flatMap_nil]
 rw[show dvA.ty.toNat=1 from rfl,show dvA.rank.toNat=1 from rfl,show dvA.ttl.toNat=5 from rfl,show dvA.til.toNat=9 from rfl,show dvA.data.length=1 from rfl,show dvB.ty.toNat=0 from rfl,show dvB.ttl.toNat=6 from rfl,show dvB.til.toNat=7 from rfl,
  dig1 (by decide),dig1 (by decide),dig1 (by decide),dig1 (by decide),dig1 (by decide),dig1 (by decide),dig1 (by decide)]
 kernel_rfl
theorem dv_text:textH [dvA,dvB]=(dvS,0):=by
 unfold textH
 rw[if_neg (by decide),if_pos (by simp[dv_okA,dv_okB]),dv_lines]
theorem dv_read:∃ m,parseD dvS.length [] dvS=some m∧hsames m [dvA,dvB]=true∧m.length=2∧∀ h ∈ m,h.data.length≤1:=by
 obtain⟨m,h1,h2,h3,h4⟩:=parseD_fwd [dvA,dvB] dvS.length [] (fun h hh=>by
  simp only [List.mem_cons,List.mem_nil_iff,or_false] at hh
  rcases hh with rfl|rfl
  ·exact⟨dv_okA,dv_inA.inn⟩
  ·exact⟨dv_okB,dv_inB.inn⟩) (by rw[dv_lines];exact Nat.le_refl _) (by decide)
 rw [dv_lines] at h1
 refine⟨m,by rw[h1];rfl,h2,h3,fun h hh=>?_⟩
 obtain⟨g,hg,e⟩:=h4 h hh
 rw[e]
 simp only [List.mem_cons,List.mem_nil_iff,or_false] at hg
 rcases hg with rfl|rfl <;> decide
theorem lines_end:∀ l:List Held,linesT l=[]∨∃ x,linesT l=x++[10]
 |[]=>.inl rfl
 |h :: l=>by
  have e:linesT (h :: l)=heldT h++linesT l:=rfl
  have hh:∃ x,heldT h=x++[10]:=by
   have hd:∀ d:List (List UInt8),dataT d=[]∨∃ x,dataT d=x++[10]:=fun d=>by
    induction d with
    |nil=>exact .inl rfl
    |cons y d ih =>
     have e:dataT (y :: d)=(hexT y++[10])++dataT d:=rfl
     rw[e]
     rcases ih with ih|⟨x,ih⟩
     ·rw[ih,List.append_nil];exact .inr ⟨_,rfl⟩
     ·rw[ih];exact .inr ⟨(hexT y++[10])++x,by simp⟩
   have ht:∃ x,headT h=x++[10]:=by
    unfold headT
    split
    ·exact⟨_,rfl⟩
    ·exact⟨_,rfl⟩
   obtain⟨x,ht⟩:=ht
   unfold heldT
   split
   ·rw[List.append_nil];exact⟨x,ht⟩
   ·rcases hd h.data with hd|⟨y,hd⟩
    ·rw[hd,List.append_nil];exact⟨x,ht⟩
    ·rw[hd];exact⟨headT h++y,by simp⟩
  obtain⟨x,hh⟩:=hh
  rw[e]
  rcases lines_end l with h1|⟨y,h1⟩
  ·rw[h1,List.append_nil];exact .inr ⟨x,hh⟩
  ·rw[h1];exact .inr ⟨heldT h++y,by simp⟩
theorem excl_end(l:List Held)(s:List UInt8)(h:linesT l=s++[33]):False:=by
 rcases lines_end l with h1|⟨x,h1⟩
 ·rw [h1] at h;simp at h
 ·rw [h1] at h
  have:=congrArg List.getLast? h
  simp at this
theorem dv_none:parseD (dvS++[33]).length [] (dvS++[33])=none:=by
 cases h:parseD (dvS++[33]).length [] (dvS++[33]) with
 |none=>rfl
 |some r =>
  exfalso
  obtain⟨l,h1,h2,h3,h4⟩:=parseD_back _ _ _ _ h (by decide)
  exact excl_end l (dvS) h2
def dvRA:List DV:=[.str [1,97,0],.int .u16 1,.int .u32 5,.sl false 1 1 (chunk [.str [1,2,3,4]] 1),.int .u8 1,.ff,.ff,.int .i64 9]
def dvRB:List DV:=[.str [0],.int .u16 0,.int .u32 6,.sl true 0 0 (fun _=>[]),.int .u8 4,.tt,.tt,.int .i64 7]
theorem dv_A:DSL dvRA dvA.enc:=⟨.refl _,.refl _,.refl _,.rows (fun i hi=>(match i,hi with
 |0,_=>DSL.refl _)),.refl _,.fb,.fb,.refl _,trivial⟩
theorem dv_B:DSL dvRB dvB.enc:=⟨.refl _,.refl _,.refl _,.none _ _ _ _ _,.refl _,.tb,.tb,.refl _,trivial⟩
theorem dv_two:AEq (.d (.sl false 2 8 (chunk (dvRA++dvRB) 8))) (.d (heldsD false [dvA,dvB])):=AEq.rows fun i hi=>match i,hi with
 |0,_=>dv_A
 |1,_=>dv_B
def dvZ:Held:=⟨[],0,0,true,[],0,false,false,0⟩
def dvRZ:List DV:=[.str [],.int .u16 0,.int .u32 0,.sl true 0 0 (fun _=>[]),.int .u8 0,.ff,.ff,.int .i64 0]
theorem dv_Z:DSL dvRZ dvZ.enc:=⟨.refl _,.refl _,.refl _,.none _ _ _ _ _,.refl _,.fb,.fb,.refl _,trivial⟩
theorem dv_one:AEq (.d (.sl false 1 8 (chunk dvRZ 8))) (.d (heldsD false [dvZ])):=AEq.rows fun i hi=>match i,hi with
 |0,_=>dv_Z
theorem dv_inZ:dvZ.Fit:=⟨⟨by decide,by decide,by decide,by decide⟩,by decide,by decide⟩
theorem dv_textZ:textH [dvZ]=([],2):=by
 unfold textH
 rw[if_neg (by decide),if_neg (by decide +kernel)]
theorem dv_aA:AEq (.agg (dvRA.map .d)) dvA.V:=AEq.aggL ⟨.refl _,.refl _,.refl _,.d (.rows (fun i hi=>(match i,hi with
 |0,_=>DSL.refl _))),.refl _,.d .fb,.d .fb,.refl _,trivial⟩
theorem dv_aZ:AEq (.agg (dvRZ.map .d)) dvZ.V:=AEq.aggL ⟨.refl _,.refl _,.refl _,.none _ _ _ _ _,.refl _,.d .fb,.d .fb,.refl _,trivial⟩
set_option maxHeartbeats 16000000 in
theorem dlives_ok:FnOk Tryz.prog 8 [] (.d (.bool true)):=by
 have c1:=(dtext_ok false [dvA,dvB] (fun h hh=>by
  simp only [List.mem_cons,List.mem_nil_iff,or_false] at hh
  rcases hh with rfl|rfl
  ·exact dv_inA
  ·exact dv_inB) (fun i _=>by
   have e:linesT [dvA,dvB]=linesT ([dvA,dvB].take i)++linesT ([dvA,dvB].drop i):=by unfold linesT;rw[←List.flatMap_append,List.take_append_drop]
   have hl:=congrArg List.length e
   rw [dv_lines,List.length_append] at hl
   have:dvS.length=39:=rfl
   omega)).convA (args':=[.d (.sl false 2 8 (chunk (dvRA++dvRB) 8))]) ⟨dv_two,True.intro⟩
 rw [dv_text] at c1
 obtain⟨m,hm1,hm2,hm3,hm4⟩:=dv_read
 have c2:=dparse_ok dvS (by decide)
 rw [hm1] at c2
 have c3:=dparse_ok (dvS++[33]) (by decide)
 rw [dv_none] at c3
 have c4:=(dtext_ok false [dvZ] (fun h hh=>by
  simp only [List.mem_cons,List.mem_nil_iff,or_false] at hh
  rcases hh with rfl
  exact dv_inZ) (fun i hi=>by
   cases i with
   |zero=>decide
   |succ i=>exact absurd hi (by rw[List.take_succ_cons,List.all_cons,show dvZ.ok=false by decide +kernel];simp))).convA (args':=[.d (.sl false 1 8 (chunk dvRZ 8))]) ⟨dv_one,True.intro⟩
 rw [dv_textZ] at c4
 have c5:=(d14same_ok m.isEmpty false m [dvA,dvB] (by rw[hm3];decide) (fun h hh=>by have:=hm4 h hh;omega) (fun h hh=>by
  simp only [List.mem_cons,List.mem_nil_iff,or_false] at hh
  rcases hh with rfl|rfl <;> decide)).convA (args':=[.d (heldsD m.isEmpty m),.d (.sl false 2 8 (chunk (dvRA++dvRB) 8))]) ⟨.refl _,dv_two,True.intro⟩
 rw [hm2] at c5
 have c6:=(dcheck_ok dvA).convA (args':=[.agg (dvRA.map .d)]) ⟨dv_aA,True.intro⟩
 rw [dv_okA] at c6
 have c7:=(dcheck_ok dvZ).convA (args':=[.agg (dvRZ.map .d)]) ⟨dv_aZ,True.intro⟩
 rw [show dvZ.ok=false by decide +kernel] at c7
 refine fnOk_of_run (TT:=TT) (IN:=lookI []) TT_ok INok_nil mixed 1000 Tryz.func8 rfl (enters Tryz.func8 (by kernel_rfl) rfl) rfl 77 (by kernel_rfl) ?_
 conv=>whnf
 refine .still [3,0] [(1,77,dvRA.map .d)] (.tup [.d (.str dvS),.d (.int .i64 0)]) _ ⟨⟨_,rfl,?_,rfl⟩,True.intro⟩ ?_ c1 rfl rfl ?_
 ·conv=>whnf
  exact⟨rfl,rfl⟩
 ·conv=>whnf
  exact⟨rfl,rfl⟩
 conv=>whnf
 refine .one (.data _ c2 rfl rfl ?_)
 conv=>whnf
 refine⟨by decide,?_⟩
 conv=>whnf
 refine .one (.data _ c3 rfl rfl ?_)
 conv=>whnf
 refine .still [4] [] (.tup [.d (.str []),.d (.int .i64 2)]) _ True.intro ?_ c4 rfl rfl ?_
 ·conv=>whnf
  exact⟨rfl,rfl⟩
 conv=>whnf
 repeat(refine brT rfl ?_;conv=>whnf)
 refine .still [5] [] (.d (.bool true)) _ True.intro ?_ c5 rfl rfl ?_
 ·conv=>whnf
  exact⟨rfl,rfl⟩
 conv=>whnf
 repeat(refine brT rfl ?_;conv=>whnf)
 refine .one (.data _ c6 rfl rfl ?_)
 conv=>whnf
 repeat(refine brT rfl ?_;conv=>whnf)
 refine .one (.data _ c7 rfl rfl ?_)
 conv=>whnf
 exact rfl
end Go.Proofs.YtdfdlbnojmlpiaaGreatDoor
namespace Go.Proofs.YtdfdlbnojmlpiaaGreatDoor
open Go Go.Eng
set_option maxRecDepth 100000
theorem heldT_len{h:Held}(hf:h.In)(hk:h.ok=true)(h70:h.data.length≤70)(h5:∀ d ∈ h.data,d.length≤5000):(heldT h).length≤1000000:=by
 have hn:=dtxt_len (held_name hk)
 have htil:0≤h.til∧h.til≤4611686018428436480:=by
  apply Classical.byContradiction
  intro hc
  rw [Held.ok_til hc] at hk;cases hk
 have h1:=hf.ty
 have h2:=hf.ttl
 have h3:=hf.rank
 have l1:=dig_len h.ty.toNat (by omega)
 have l2:=dig_len h.ttl.toNat (by omega)
 have l3:=dig_len h.rank.toNat (by omega)
 have l4:=dig_len h.til.toNat (by omega)
 have l5:=dig_len h.data.length (by omega)
 have l6:=dataT_len (N:=5000) h.data h5
 have l7:=Nat.mul_le_mul_right (2 * 5000+2) h70
 unfold heldT headT numT
 split
 ·simp only[List.length_append,List.length_cons,List.length_nil]
  omega
 ·simp only[List.length_append,List.length_cons,List.length_nil]
  omega
theorem lines_len{N:Nat}:∀ (l:List Held),(∀ h ∈ l,(heldT h).length≤N)→(linesT l).length≤l.length * N
 |[],_=>Nat.zero_le _
 |h :: l,hl=>by
  have h1:=lines_len l (fun x hx=>hl x (List.mem_cons_of_mem _ hx))
  have h2:=hl h (List.mem_cons_self ..)
  have e:linesT (h :: l)=heldT h++linesT l:=rfl
  rw[e,List.length_append,List.length_cons,Nat.add_mul]
  omega
end Go.Proofs.YtdfdlbnojmlpiaaGreatDoor
