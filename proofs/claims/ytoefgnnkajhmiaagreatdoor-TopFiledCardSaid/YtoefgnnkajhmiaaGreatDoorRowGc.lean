/-
  TopFiled returns true at every input and leaves its arguments as they read.
  Conditions: the listed variables of the standard library hold what the text of the program lays (tied by the card).
-/
import Derived.ChangeSame
import Derived.ChangeVars
import Derived.JoinedOf
import Derived.RowKit
import Derived.RowKitTokens
import Derived.LaidLaws
import Derived.LaidHandle
import Derived.Stop.Joined
import Derived.Stop.LaidErr
import Derived.SevenTiedAt
import Derived.Test.YtoefgnnkajhmiaaGreatDoorTie
import Derived.Test.YtoefgnnkajhmiaaGreatDoorCards
import Derived.Test.YtoefgnnkajhmiaaGreatDoorN4
import Derived.Test.YtoefgnnkajhmiaaGreatDoorD1
import Derived.Test.YtoefgnnkajhmiaaGreatDoorD3
import Derived.Test.YtoefgnnkajhmiaaGreatDoorD4
set_option linter.unusedVariables false
set_option linter.unusedSimpArgs false
set_option maxRecDepth 100000
set_option maxHeartbeats 64000000
namespace Go.Proofs.YtoefgnnkajhmiaaGreatDoor
open Go Go.Eng Go.ChangeShapes Go.WideShapes Go.RowKit
theorem own:ownKnob Tryz.prog.godebug=none:=by kernel_rfl
theorem kids:Kids Tryz.prog (· < Tryz.prog.types.size):=kids_rows (by kernel_rfl) (by kernel_rfl)
theorem full:∀ t e,t<Tryz.prog.types.size->Tryz.prog.underlying t=some (.slice e)->0<Tryz.prog.cellsOf e:=slices_full_of Tryz.prog (by kernel_rfl)
theorem jf9{k:IntKind}{n:Int}(h:(Lit.int k n).wf=true):k.min<=n/\n<=k.max:=by
 simpa[Lit.wf] using h
theorem gS : Tryz.prog.globalNamed "strconv.ErrSyntax" = some 2 := by kernel_rfl
theorem gR : Tryz.prog.globalNamed "strconv.ErrRange" = some 3 := by kernel_rfl
theorem gT : Tryz.prog.globalNamed "internal/strconv.uint64pow10" = some 1 := by kernel_rfl
theorem gST:(Tryz.prog.globals[2]?).map (·.type)=some 70:=by kernel_rfl
theorem gRT:(Tryz.prog.globals[3]?).map (·.type)=some 70:=by kernel_rfl
theorem gTT:(Tryz.prog.globals[1]?).map (·.type)=some 225:=by kernel_rfl
theorem yz5:Tryz.prog.cellsOf 242=1:=by kernel_rfl
theorem yr8:Tryz.prog.cellsOf 9=1:=by kernel_rfl
theorem xp9:Tryz.prog.cellsOf 137=1:=by kernel_rfl
theorem star : "*" ++ "errors.errorString" = "*errors.errorString" := by decide
theorem rowE (u : TypeId) (h : Tryz.prog.typeName? 3 u = some "*errors.errorString") : u = 240 :=
 typeName_ptr_named (nm := "errors.errorString") (by rw [star]; kernel_rfl) (by kernel_rfl) (by decide) u (by rw [star]; exact h)
theorem jk9{P:Program}{w:World}{n:String}{g:Nat}{cs:Array Value}(h:w.var? P n=some cs)(hg:P.globalNamed n=some g):∃ t fz,w.heap[g]? = some (.cells cs t fz):=by
 unfold World.var? at h;rw [hg] at h;simp only [dp] at h;split at h
 ·rename_i cs' t fz e;cases h;exact⟨t,fz,e⟩
 ·cases h
theorem zy5{P:Program}{n:String}{k:IntKind}{zs:List Int}{r:List (String × DataW Unit)}{W:World}{g:Nat}{t e:TypeId}{m:Nat}
 (h:laidMet P ((n,.agg (zs.map fun z=>.lit (.int k z))) :: r) W) (hg:P.globalNamed n=some g) (ht:(P.globals[g]?).map (·.type)=some t) (hu:P.underlying t=some (.array m e)) (he:P.underlying e=some (.int k)) (hc:P.cellsOf e=1) (hct:P.cellsOf t=m) :
 ∃ t fz,W.heap[g]? = some (.cells (zs.map fun z=>Value.int k z).toArray t fz):=by
 obtain⟨ps,⟨g0,t0,cs,f0,p0,q0,hg0,ht0,hv0,hd0,_,_⟩,_,_⟩:=h;obtain rfl:=p7 (hg.symm.trans hg0);obtain rfl:=p7 (ht.symm.trans ht0);obtain⟨xs,f,_,hx,hl,hxl,hi⟩:=DataW.trod_array hu hd0;have hcs:cs=(zs.map fun z=>Value.int k z).toArray:=by
  simp only [Prod.mk.injEq,DataW.agg.injEq] at hx;have hzl:zs.length=m:=by
   have:=congrArg List.length hx.1;simpa[hxl] using this
  rw [hct] at hl;apply Array.toList_inj.1;apply List.ext_getElem
  ·simp only[mn];omega
  intro i h1 h2;have hi1:i<m:=by omega
  have e1:=hi i hi1;rw [hc,Nat.mul_one] at e1;have e2:(cs.toList.drop i).take 1=[cs.toList[i]]:=by
   rw[l6 (by omega)]
   rfl
  rw [e2,pp (by omega)] at e1;obtain⟨z,ez,ex,_⟩:=DataW.trod_int he e1;have e3:(xs.map (·.1))[i]? = some (.lit (.int k z)):=by
   rw[o4,pp (by omega),ex]
   rfl
  rw [<-hx.1,o4,pp (by omega)] at e3;simp only [o8,my,DataW.lit.injEq,Lit.int.injEq,true_and] at e3;simp only [ry,and_true] at ez;rw[ez];simp[e3]
 subst hcs;exact jk9 hv0 hg
theorem xq7{W:World}(h:laidMetH Tryz.prog Rows.fileBackRow.laid W):VOk W (fun _ _=>False):=by
 have h:laidMet Tryz.prog Rows.fileBackRow.laid W:=h;have h3:=h.tail.tail;have h5:=h3.tail.tail;have h6:=h5.tail;obtain⟨aR,_,hvR,_⟩:=laid_sentinel h5 gR gRT Tryz.underlying70 rowE Tryz.underlying240 Tryz.underlying242 rfl rfl Tryz.underlying9 yz5 yr8;obtain⟨aS,_,hvS,_⟩:=laid_sentinel h6 gS gST Tryz.underlying70 rowE Tryz.underlying240 Tryz.underlying242 rfl rfl Tryz.underlying9 yz5 yr8;obtain⟨tR,fR,hbR⟩:=jk9 hvR gR;obtain⟨tS,fS,hbS⟩:=jk9 hvS gS;obtain⟨tT,fT,hbT⟩:=zy5 (k:=.u64) (zs:=(List.range 20).map fun i=>((10 ^ i:Nat):Int)) h3 gT gTT Tryz.underlying225 Tryz.underlying137 xp9 (by kernel_rfl);intro p hp;unfold evs at hp;simp only [pv,List.not_mem_nil,or_false] at hp;rcases hp with rfl|rfl|rfl
 ·exact⟨⟨_,tS,fS,hbS,_,_,rfl⟩,fun _ h=>h⟩
 ·exact⟨⟨_,tR,fR,hbR,_,_,rfl⟩,fun _ h=>h⟩
 ·exact⟨⟨_,tT,fT,hbT,rfl⟩,fun _ h=>h⟩
def qs5:DataW Unit->List Value
 | .agg l=>l.flatMap fun
  | .lit (.int k n)=>[.int k n]
  | .agg m=>m.map fun| .lit (.int k n)=>.int k n|_=>.bool false
  |_=>[]
 |_=>[]
def lay(g:Nat)(cs:List Value)(w:World):World :=
 { w with heap:=w.heap.modify g fun
  | .cells _ t frozen=>.cells cs.toArray t frozen
  |o=>o }
abbrev xs2:ByteArray:={ data:=#[118,97,108,117,101,32,111,117,116,32,111,102,32,114,97,110,103,101] }
abbrev xl4:ByteArray:={ data:=#[105,110,118,97,108,105,100,32,115,121,110,116,97,120] }
noncomputable def lowB:Nat:=(World.holding Tryz.prog default ⟨#[],#[],[]⟩).heap.size
noncomputable def laidWorld (os:Os):World :=
 lay 2 [.iface 240 (.pointer (some ⟨lowB,0,none⟩))] <| lay 3 [.iface 240 (.pointer (some ⟨lowB+1,0,none⟩))] <|
  lay 1 (qs5 Rows.laid_internal_strconv_uint64pow10) <| lay 6 (qs5 Rows.laid_unicode_utf8_first) <| lay 7 (qs5 Rows.laid_unicode_utf8_acceptRanges) <|
  lay 4 (qs5 Rows.laid_math_bits_deBruijn32tab) <| lay 5 (qs5 Rows.laid_math_bits_deBruijn64tab) <|
  World.holding Tryz.prog os ⟨#[.cells #[.string xl4] 242,.cells #[.string xs2] 242],#[],[]⟩
theorem zf2(os:Os)(args:Array Value):laidMetH Tryz.prog Rows.fileBackRow.laid ((laidWorld os).forCall (fun _ _=>0) ⟨#[],args,[]⟩).memory :=
 laidMet_of_run' 8 (by kernel_rfl) (by kernel_rfl)
theorem DT.sl_inv2{P:Program}{t:TypeId}{ds:List DV}{e:TypeId}(h:DT P t ds)(hu:P.underlying t=some (.slice e)):∃ nil n f,ds=[.sl nil n (P.cellsOf e) f]/\(nil=true->n=0)/\∀ i,i<n->DT P e (f i):=by
 cases h with
 |nil _ e' h1=>rw [hu] at h1;cases h1;exact ⟨true,0,_,rfl,fun _=>rfl,fun i hi=>absurd hi (by omega)⟩
 |sl _ e' n f h1 h2 h3=>rw [hu] at h1;cases h1;exact ⟨false,n,f,rfl,(fun h=>by cases h),h3⟩
 |_=>simp_all
set_option maxRecDepth 100000 in
theorem za5{ds:List DV}(h:DT Tryz.prog 62 ds):∃ q:RR,ds=q.enc/\q.Ok:=by
 obtain⟨hl,hf⟩:=h.struct_inv Tryz.underlying62;have cs:Tryz.prog.cellsOf 62=5:=by kernel_rfl
 rw [cs] at hl;match ds,hl with
 |[a0,a1,a2,a3,a4],_ =>
  have c1:Tryz.prog.cellsOf 9=1:=by kernel_rfl
  have c2:Tryz.prog.cellsOf 43=1:=by kernel_rfl
  have c3:Tryz.prog.cellsOf 42=1:=by kernel_rfl
  have c4:Tryz.prog.cellsOf 29=1:=by kernel_rfl
  simp [c1,c2,c3,c4] at hf;obtain⟨k0,k1,k2,k3,k4⟩:=hf;obtain⟨n0,e0,q0⟩:=k0.str_inv Tryz.underlying9;obtain⟨n1,e1,w1⟩:=k1.int_inv Tryz.underlying43;obtain⟨n2,e2,w2⟩:=k2.int_inv Tryz.underlying42;obtain⟨n3,e3,w3⟩:=k3.int_inv Tryz.underlying29;obtain⟨n4,e4,q4⟩:=k4.str_inv Tryz.underlying9;simp only [ry,and_true] at e0 e1 e2 e3 e4;subst e0 e1 e2 e3 e4;exact⟨⟨n0,n1,n2,n3,n4⟩,rfl,⟨jf9 w1,jf9 w2,jf9 w3⟩⟩
theorem xr7{ds:List DV}(h:DT Tryz.prog 56 ds):∃ (b:Bool) (l:List RR) (d:DV),ds=[d]/\DS d (rrsD b l)/\(∀ a ∈ l,a.Ok):=by
 obtain⟨z,n,f,rfl,hz,hf⟩:=DT.sl_inv2 h Tryz.underlying56;have cs:Tryz.prog.cellsOf 62=5:=by kernel_rfl
 let g:Nat->RR:=fun i=>if hi:i<n then (za5 (hf i hi)).choose else default
 have hg:∀ i (hi:i<n),f i=(g i).enc/\(g i).Ok:=fun i hi=>by
  have:=(za5 (hf i hi)).choose_spec;simpa only[g,hi,dif_pos] using this
 refine⟨z,(List.range n).map g,_,rfl,?_,fun a ha=>?_⟩
 ·rw[cs];unfold rrsD;rw[mn,bn];refine .rows fun i hi=>?_
  have:((List.range n).map g).getD i default=g i:=by simp[List.getD,hi]
  rw[this,(hg i hi).1];exact DSL.refl _
 ·obtain⟨i,hi,rfl⟩:=lz.1 ha;exact(hg i (lr.1 hi)).2
theorem DT.sl_inv3{P:Program}{t:TypeId}{ds:List DV}{e:TypeId}(h:DT P t ds)(hu:P.underlying t=some (.slice e)):∃ nil n f,ds=[.sl nil n (P.cellsOf e) f]/\n<=9223372036854775807/\∀ i,i<n->DT P e (f i):=by
 cases h with
 |nil _ e' h1=>rw [hu] at h1;cases h1;exact ⟨true,0,_,rfl,pz _,fun i hi=>absurd hi (by omega)⟩
 |sl _ e' n f h1 h2 h3=>rw [hu] at h1;cases h1;exact ⟨false,n,f,rfl,(by unfold maxLen at h2;omega),h3⟩
 |_=>simp_all
set_option maxRecDepth 100000 in
theorem xs3{ds:List DV}(h:DT Tryz.prog 45 ds):∃ q:Q,ds=q.enc:=by
 obtain⟨hl,hf⟩:=h.struct_inv Tryz.underlying45;have cs:Tryz.prog.cellsOf 45=3:=by kernel_rfl
 rw [cs] at hl;match ds,hl with
 |[a0,a1,a2],_ =>
  have c1:Tryz.prog.cellsOf 9=1:=by kernel_rfl
  have c2:Tryz.prog.cellsOf 43=1:=by kernel_rfl
  have c3:Tryz.prog.cellsOf 42=1:=by kernel_rfl
  simp [c1,c2,c3] at hf;obtain⟨k0,k1,k2⟩:=hf;obtain⟨n0,e0,q0⟩:=k0.str_inv Tryz.underlying9;obtain⟨n1,e1,w1⟩:=k1.int_inv Tryz.underlying43;obtain⟨n2,e2,w2⟩:=k2.int_inv Tryz.underlying42;simp only [ry,and_true] at e0 e1 e2;subst e0 e1 e2;exact⟨⟨n0,n1,n2⟩,rfl⟩
set_option maxRecDepth 100000 in
theorem yt2{ds:List DV}(h:DT Tryz.prog 58 ds):∃ z:Zo,DSL ds z.enc/\∀ r ∈ z.rrs,r.Ok:=by
 obtain⟨hl,hf⟩:=h.struct_inv Tryz.underlying58;have cs:Tryz.prog.cellsOf 58=2:=by kernel_rfl
 rw [cs] at hl;match ds,hl with
 |[a0,a1],_ =>
  have c1:Tryz.prog.cellsOf 9=1:=by kernel_rfl
  have c2:Tryz.prog.cellsOf 56=1:=by kernel_rfl
  simp [c1,c2] at hf;obtain⟨k0,k1⟩:=hf;obtain⟨n0,e0,q0⟩:=k0.str_inv Tryz.underlying9;obtain⟨b,l,d,e1,hd,hr⟩:=xr7 k1;simp only [ry,and_true] at e0 e1;subst e0 e1;exact⟨⟨n0,b,l⟩,⟨.refl _,hd,trivial⟩,hr⟩
theorem xb9{ds:List DV}(h:DT Tryz.prog 22 ds):∃ (b:Bool) (l:List Zo) (d:DV),ds=[d]/\DS d (jr9 b l)/\∀ z ∈ l,∀ r ∈ z.rrs,r.Ok:=by
 obtain⟨z,n,f,rfl,hn,hf⟩:=DT.sl_inv3 h Tryz.underlying22;have cs:Tryz.prog.cellsOf 58=2:=by kernel_rfl
 let g:Nat->Zo:=fun i=>if hi:i<n then (yt2 (hf i hi)).choose else default
 have hg:∀ i (hi:i<n),DSL (f i) (g i).enc/\∀ r ∈ (g i).rrs,r.Ok:=fun i hi=>by
  have:=(yt2 (hf i hi)).choose_spec;simpa only[g,hi,dif_pos] using this
 refine⟨z,(List.range n).map g,_,rfl,?_,fun a ha=>?_⟩
 ·rw[cs];unfold jr9;rw[mn,bn];refine .rows fun i hi=>?_
  have:((List.range n).map g).getD i default=g i:=by simp[List.getD,hi]
  rw[this];exact(hg i hi).1
 ·obtain⟨i,hi,rfl⟩:=lz.1 ha;exact(hg i (lr.1 hi)).2
theorem xn6{ds:List DV}(h:DT Tryz.prog 30 ds):∃ (b:Bool) (l:List Int) (d:DV),ds=[d]/\DS d (.sl b l.length 1 (fun j=>[.int .i64 (l.getD j 0)]))/\l.length<=9223372036854775807:=by
 obtain⟨z,n,f,rfl,hn,hf⟩:=DT.sl_inv3 h Tryz.underlying30;have cs:Tryz.prog.cellsOf 3=1:=by kernel_rfl
 let g:Nat->Int:=fun i=>if hi:i<n then ((hf i hi).int_inv Tryz.underlying3).choose else 0
 have hg:∀ i (hi:i<n),f i=[.int .i64 (g i)]:=fun i hi=>by
  have:=((hf i hi).int_inv Tryz.underlying3).choose_spec.1;simpa only[g,hi,dif_pos] using this
 refine⟨z,(List.range n).map g,_,rfl,?_,by rw[mn,bn];exact hn⟩;rw[cs,mn,bn];refine .rows fun i hi=>?_
 have:((List.range n).map g).getD i 0=g i:=by simp[List.getD,hi]
 rw[this,hg i hi];exact DSL.refl _
set_option maxRecDepth 100000 in
theorem yv6{ds:List DV}(h:DT Tryz.prog 32 ds):∃ a:Int × Bool × List Int,DSL ds (qk0 a)/\a.2.2.length<=9223372036854775807/\0<=a.1/\a.1<=4294967295:=by
 obtain⟨hl,hf⟩:=h.struct_inv Tryz.underlying32;have cs:Tryz.prog.cellsOf 32=2:=by kernel_rfl
 rw [cs] at hl;match ds,hl with
 |[a0,a1],_ =>
  have c1:Tryz.prog.cellsOf 29=1:=by kernel_rfl
  have c2:Tryz.prog.cellsOf 30=1:=by kernel_rfl
  simp [c1,c2] at hf;obtain⟨k0,k1⟩:=hf;obtain⟨n0,e0,w0⟩:=k0.int_inv Tryz.underlying29;obtain⟨b,l,d,e1,hd,hl⟩:=xn6 k1;simp only [ry,and_true] at e0 e1;subst e0 e1;exact⟨(n0,b,l),⟨.refl _,hd,trivial⟩,hl,jf9 w0⟩
theorem xh2{ds:List DV}(h:DT Tryz.prog 23 ds):∃ (b:Bool) (l:List (Int × Bool × List Int)) (d:DV),ds=[d]/\DS d (js4 b l)/\∀ a ∈ l,a.2.2.length<=9223372036854775807/\0<=a.1/\a.1<=4294967295:=by
 obtain⟨z,n,f,rfl,hn,hf⟩:=DT.sl_inv3 h Tryz.underlying23;have cs:Tryz.prog.cellsOf 32=2:=by kernel_rfl
 let g:Nat->Int × Bool × List Int:=fun i=>if hi:i<n then (yv6 (hf i hi)).choose else default
 have hg:∀ i (hi:i<n),DSL (f i) (qk0 (g i))/\(g i).2.2.length<=9223372036854775807/\0<=(g i).1/\(g i).1<=4294967295:=fun i hi=>by
  have:=(yv6 (hf i hi)).choose_spec;simpa only[g,hi,dif_pos] using this
 refine⟨z,(List.range n).map g,_,rfl,?_,fun a ha=>?_⟩
 ·rw[cs];unfold js4;rw[mn,bn];refine .rows fun i hi=>?_
  have:((List.range n).map g).getD i default=g i:=by simp[List.getD,hi]
  rw[this];exact(hg i hi).1
 ·obtain⟨i,hi,rfl⟩:=lz.1 ha;exact(hg i (lr.1 hi)).2
set_option maxRecDepth 100000 in
theorem zq5{ds:List DV}(h:DT Tryz.prog 25 ds):∃ f:Fo,AEq (.agg (ds.map .d)) f.V/\f.Len/\(∀ z ∈ f.zones,∀ r ∈ z.rrs,r.Ok)/\∀ a ∈ f.hosts,0<=a.1/\a.1<=4294967295:=by
 obtain⟨hl,hf⟩:=h.struct_inv Tryz.underlying25;have cs:Tryz.prog.cellsOf 25=2:=by kernel_rfl
 rw [cs] at hl;match ds,hl with
 |[a0,a1],_ =>
  have c1:Tryz.prog.cellsOf 22=1:=by kernel_rfl
  have c2:Tryz.prog.cellsOf 23=1:=by kernel_rfl
  simp [c1,c2] at hf;obtain⟨k0,k1⟩:=hf;obtain⟨b,l,d,e0,hd,hz⟩:=xb9 k0;obtain⟨b',l',d',e1,hd',hl'⟩:=xh2 k1;simp only [ry,and_true] at e0 e1;subst e0 e1;exact⟨⟨b,l,b',l'⟩,AEq.aggL ⟨.d hd,.d hd',trivial⟩,fun a ha=>(hl' a ha).1,hz,fun a ha=>(hl' a ha).2⟩
theorem zc0(dss:List (List DV))(h:DTs Tryz.prog Tryz.f5.params.toList dss):FnOk Tryz.prog 5 (vy Tryz.prog Tryz.f5.params.toList dss) (.d (.bool true)):=by
 rw [Tryz.params5] at h ⊢;match dss,h with
 |[a0,a1],⟨h0,h1,_⟩ =>
  obtain⟨f,hf,_,hr,hh⟩:=zq5 h0;obtain⟨q,rfl⟩:=xs3 h1;have ha:vy Tryz.prog #[25,45].toList [a0,q.enc]=[.agg (a0.map .d),.agg (q.enc.map .d)]:=by
   simp[vy,jh2,jg3,Tryz.underlying25,Tryz.underlying45]
  rw[ha];exact(zt4 f q (fun z hz r hr1=>⟨(hr z hz r hr1).ty,(hr z hz r hr1).cl,(hr z hz r hr1).ttl⟩) hh).convA ⟨hf,.refl _,True.intro⟩
theorem zc5(os:Os)(started:os.Started)(H:Type)(enc:TypeId × Value->H) :
 ReturnsInHanded {} Tryz.checked os 5 .any (fun w args=>(Rows.topFiledSpec.pre enc Tryz.prog Tryz.f5 [] false w args/\laidMetH Tryz.prog Rows.topFiledRow.laid w)/\sizedMet enc Tryz.prog Tryz.f5 (OpenSpec.ofChange Rows.topFiledSpec) false w args)
  (Rows.topFiledSpec.post enc Tryz.prog Tryz.f5 false true false false):=by
 refine returnsInHanded_of_change_and (C:=Tryz.checked) (X:=fun w _=>laidMetH Tryz.prog Rows.topFiledRow.laid w) (fun _ _ _ hh h=>h.of_heap hh) own started (by kernel_rfl) Tryz.func5
  (ChangeSpec.witness_at (enc:=enc) (C:=Tryz.checked) (os:=os) (X:=fun w _=>laidMetH Tryz.prog Rows.topFiledRow.laid w) false (laidWorld os) #[.agg #[.slice none 0 0,.slice none 0 0],.agg #[.string ⟨#[]⟩,.int .u16 0,.int .u16 0]] 8 rfl (by kernel_rfl) (by kernel_rfl) (by kernel_rfl) (by kernel_rfl) (by kernel_rfl) (zf2 os _)) ?_
 intro W base args ds gs before hval0 hW _ _ hL _;have hlen:∃ d1 d2,ds=[d1,d2]:=by
  obtain⟨p,q,hA,_⟩:=hW;have hA:DataW.TrodAll enc Tryz.prog W 0 (fun _=>true) true Tryz.f5.params.toList args.toList ds p:=hA;have:=jx7 hA;rw [Tryz.params5] at this;match ds,this with
  |[d1,d2],_=>exact⟨d1,d2,rfl⟩
 obtain⟨d1,d2,rfl⟩:=hlen;exact zy4 kids full (m:=8) (fun t ht=>by
  rw [Tryz.params5] at ht;simp at ht;rcases ht with rfl|rfl <;> exact⟨by kernel_rfl,pu (by kernel_rfl)⟩) zc0 hval0 rfl hW (by kernel_rfl) Tryz.underlying4 ⟨rfl,rfl,rfl⟩ (xq7 hL)
theorem zf9:Rows.TopFiledSaid :=
 OpenClaim.holds_of_wide 5 Tryz.f5 rfl rfl rfl rfl rfl rfl rfl ⟨rfl,rfl,rfl,rfl,rfl⟩ rfl rfl rfl rfl rfl (by kernel_rfl) Tryz.func5 (by kernel_rfl)
  (pu (by kernel_rfl)) (by unfold Func.isWrapper;rw[if_neg (pw (by kernel_rfl))];exact⟨rfl,rfl⟩)
  (fun os started H enc _=>zc5 os started H enc)
theorem topFiled_holds:Rows.TopFiledCardSaid :=
 Claim7.holds_tied_plain_at .later [] [.data, .data, .data, .data, .sentinel, .sentinel, .pinned] true (true, "f16b6b9eb857e29b10edcde1b4993d6157455c4bb400de9aa7e79bbfbea33c97") true
  zf9 (fun _ h=>by cases h) (by kernel_rfl) (fun _ h=>by cases h) topFiled_row_tie rfl ⟨rfl,rfl⟩ (by kernel_rfl) rfl
  (fun f fn hf hfn=>by
   obtain rfl : f = 5 := p7 ((show Tryz.prog.funcNamed "hardtack/hardtacktop.TopFiled" = some 5 by kernel_rfl).symm.trans hf) |>.symm
   obtain rfl:fn=Tryz.f5:=(p7 (Tryz.func5.symm.trans hfn)).symm;exact⟨by kernel_rfl,fun j t ht=>by
    rw [Tryz.params5] at ht;rcases j with _|j
    ·obtain rfl:t=25:=by simpa using ht.symm
     exact(show Tryz.prog.wantsStandIn 25=false by kernel_rfl)
    ·
     rcases j with _|j
     ·obtain rfl:t=45:=by simpa using ht.symm
      exact(show Tryz.prog.wantsStandIn 45=false by kernel_rfl)
     ·
      simp at ht⟩)
  (by kernel_rfl)
end Go.Proofs.YtoefgnnkajhmiaaGreatDoor
