/-
  Part of the proof: lemmas about the functions that the row calls, and about the steps of a run. Conditions: those ahead of each lemma.
-/
import Derived.ChangeSame
import Derived.ChangeVars
import Derived.JoinedOf
import Derived.RowKit
import Derived.RowKitTokens
import Derived.LaidLaws
import Derived.LaidHandle
import Derived.Stop.Joined
import Derived.Stop.LaidErr
import Derived.SevenTiedAt
import Derived.Test.YtoefgnnkajhmiaaGreatDoorTie
import Derived.Test.YtoefgnnkajhmiaaGreatDoorCards
import Derived.Test.YtoefgnnkajhmiaaGreatDoorP4
import Derived.Test.YtoefgnnkajhmiaaGreatDoorQ1
import Derived.Test.YtoefgnnkajhmiaaGreatDoorQ2
import Derived.Test.YtoefgnnkajhmiaaGreatDoorQ4
set_option linter.unusedVariables false
set_option linter.unusedSimpArgs false
set_option maxRecDepth 100000
set_option maxHeartbeats 64000000
namespace Go.Proofs.YtoefgnnkajhmiaaGreatDoor
open Go Go.Eng Go.ChangeShapes Go.WideShapes Go.RowKit
theorem own:ownKnob Tryz.prog.godebug=none:=by kernel_rfl
theorem kids:Kids Tryz.prog (· < Tryz.prog.types.size):=kids_rows (by kernel_rfl) (by kernel_rfl)
theorem full:∀ t e,t<Tryz.prog.types.size->Tryz.prog.underlying t=some (.slice e)->0<Tryz.prog.cellsOf e:=slices_full_of Tryz.prog (by kernel_rfl)
theorem jh0{k:IntKind}{n:Int}(h:(Lit.int k n).wf=true):k.min<=n/\n<=k.max:=by
 simpa[Lit.wf] using h
theorem gS : Tryz.prog.globalNamed "strconv.ErrSyntax" = some 2 := by kernel_rfl
theorem gR : Tryz.prog.globalNamed "strconv.ErrRange" = some 3 := by kernel_rfl
theorem gT : Tryz.prog.globalNamed "internal/strconv.uint64pow10" = some 1 := by kernel_rfl
theorem gST:(Tryz.prog.globals[2]?).map (·.type)=some 70:=by kernel_rfl
theorem gRT:(Tryz.prog.globals[3]?).map (·.type)=some 70:=by kernel_rfl
theorem gTT:(Tryz.prog.globals[1]?).map (·.type)=some 225:=by kernel_rfl
theorem ze1:Tryz.prog.cellsOf 242=1:=by kernel_rfl
theorem yv2:Tryz.prog.cellsOf 9=1:=by kernel_rfl
theorem xv9:Tryz.prog.cellsOf 137=1:=by kernel_rfl
theorem star : "*" ++ "errors.errorString" = "*errors.errorString" := by decide
theorem rowE (u : TypeId) (h : Tryz.prog.typeName? 3 u = some "*errors.errorString") : u = 240 :=
 typeName_ptr_named (nm := "errors.errorString") (by rw [star]; kernel_rfl) (by kernel_rfl) (by decide) u (by rw [star]; exact h)
theorem jl5{P:Program}{w:World}{n:String}{g:Nat}{cs:Array Value}(h:w.var? P n=some cs)(hg:P.globalNamed n=some g):∃ t fz,w.heap[g]? = some (.cells cs t fz):=by
 unfold World.var? at h;rw [hg] at h;simp only [dt] at h;split at h
 ·rename_i cs' t fz e;cases h;exact⟨t,fz,e⟩
 ·cases h
theorem xc9{P:Program}{n:String}{k:IntKind}{zs:List Int}{r:List (String × DataW Unit)}{W:World}{g:Nat}{t e:TypeId}{m:Nat}
 (h:laidMet P ((n,.agg (zs.map λz=>.lit (.int k z))) :: r) W) (hg:P.globalNamed n=some g) (ht:(P.globals[g]?).map (·.type)=some t) (hu:P.underlying t=some (.array m e)) (he:P.underlying e=some (.int k)) (hc:P.cellsOf e=1) (hct:P.cellsOf t=m) :
 ∃ t fz,W.heap[g]? = some (.cells (zs.map λz=>Value.int k z).toArray t fz):=by
 obtain⟨ps,⟨g0,t0,cs,f0,p0,q0,hg0,ht0,hv0,hd0,_,_⟩,_,_⟩:=h;obtain rfl:=oq (hg.symm.trans hg0);obtain rfl:=oq (ht.symm.trans ht0);obtain⟨xs,f,_,hx,hl,hxl,hi⟩:=DataW.trod_array hu hd0;have hcs:cs=(zs.map λz=>Value.int k z).toArray:=by
  simp only [Prod.mk.injEq,DataW.agg.injEq] at hx;have hzl:zs.length=m:=by
   have:=congrArg List.length hx.1;simpa[hxl] using this
  rw [hct] at hl;apply Array.toList_inj.1;apply List.ext_getElem
  ·simp only[mq];omega
  intro i h1 h2;have hi1:i<m:=om
  have e1:=hi i hi1;rw [hc,Nat.mul_one] at e1;have e2:(cs.toList.drop i).take 1=[cs.toList[i]]:=by
   rw[lu om]
   rfl
  rw [e2,pp om] at e1;obtain⟨z,ez,ex,_⟩:=DataW.trod_int he e1;have e3:(xs.map (·.1))[i]? = some (.lit (.int k z)):=by
   rw[mw,pp om,ex]
   rfl
  rw [<-hx.1,mw,pp om] at e3;simp only [l7,gu,DataW.lit.injEq,Lit.int.injEq,true_and] at e3;simp only [rz,and_true] at ez;rw[ez];simp[e3]
 subst hcs;exact jl5 hv0 hg
theorem xw7{W:World}(h:laidMetH Tryz.prog Rows.fileBackRow.laid W):VOk W (λ_ _=>False):=by
 have h:laidMet Tryz.prog Rows.fileBackRow.laid W:=h;have h3:=h.tail.tail;have h5:=h3.tail.tail;have h6:=h5.tail;obtain⟨aR,_,hvR,_⟩:=laid_sentinel h5 gR gRT Tryz.underlying70 rowE Tryz.underlying240 Tryz.underlying242 rfl rfl Tryz.underlying9 ze1 yv2;obtain⟨aS,_,hvS,_⟩:=laid_sentinel h6 gS gST Tryz.underlying70 rowE Tryz.underlying240 Tryz.underlying242 rfl rfl Tryz.underlying9 ze1 yv2;obtain⟨tR,fR,hbR⟩:=jl5 hvR gR;obtain⟨tS,fS,hbS⟩:=jl5 hvS gS;obtain⟨tT,fT,hbT⟩:=xc9 (k:=.u64) (zs:=(List.range 20).map λi=>((10 ^ i:Nat):Int)) h3 gT gTT Tryz.underlying225 Tryz.underlying137 xv9 (by kernel_rfl);intro p hp;unfold evs at hp;simp only [pz,List.not_mem_nil,or_false] at hp;rcases hp with rfl|rfl|rfl
 ·exact⟨⟨_,tS,fS,hbS,_,_,rfl⟩,λ_ h=>h⟩
 ·exact⟨⟨_,tR,fR,hbR,_,_,rfl⟩,λ_ h=>h⟩
 ·exact⟨⟨_,tT,fT,hbT,rfl⟩,λ_ h=>h⟩
def qt1:DataW Unit->List Value
 | .agg l=>l.flatMap λ
  | .lit (.int k n)=>[.int k n]
  | .agg m=>m.map λ| .lit (.int k n)=>.int k n|_=>.bool false
  |_=>[]
 |_=>[]
def lay(g:Nat)(cs:List Value)(w:World):World :=
 { w with heap:=w.heap.modify g λ
  | .cells _ t frozen=>.cells cs.toArray t frozen
  |o=>o }
abbrev xy3:ByteArray:={ data:=#[118,97,108,117,101,32,111,117,116,32,111,102,32,114,97,110,103,101] }
abbrev xr0:ByteArray:={ data:=#[105,110,118,97,108,105,100,32,115,121,110,116,97,120] }
noncomputable def lowB:Nat:=(World.holding Tryz.prog default ⟨#[],#[],[]⟩).heap.size
noncomputable def laidWorld (os:Os):World :=
 lay 2 [.iface 240 (.pointer (some ⟨lowB,0,none⟩))] <| lay 3 [.iface 240 (.pointer (some ⟨lowB+1,0,none⟩))] <|
  lay 1 (qt1 Rows.laid_internal_strconv_uint64pow10) <| lay 6 (qt1 Rows.laid_unicode_utf8_first) <| lay 7 (qt1 Rows.laid_unicode_utf8_acceptRanges) <|
  lay 4 (qt1 Rows.laid_math_bits_deBruijn32tab) <| lay 5 (qt1 Rows.laid_math_bits_deBruijn64tab) <|
  World.holding Tryz.prog os ⟨#[.cells #[.string xr0] 242,.cells #[.string xy3] 242],#[],[]⟩
theorem zj9(os:Os)(args:Array Value):laidMetH Tryz.prog Rows.fileBackRow.laid ((laidWorld os).forCall (λ_ _=>0) ⟨#[],args,[]⟩).memory :=
 laidMet_of_run' 8 (by kernel_rfl) (by kernel_rfl)
theorem DT.sl_inv2{P:Program}{t:TypeId}{ds:List DV}{e:TypeId}(h:DT P t ds)(hu:P.underlying t=some (.slice e)):∃ nil n f,ds=[.sl nil n (P.cellsOf e) f]/\(nil=true->n=0)/\∀ i,i<n->DT P e (f i):=by
 cases h with
 |nil _ e' h1=>rw [hu] at h1;cases h1;exact ⟨true,0,_,rfl,λ_=>rfl,λi hi=>absurd hi om⟩
 |sl _ e' n f h1 h2 h3=>rw [hu] at h1;cases h1;exact ⟨false,n,f,rfl,(λh=>by cases h),h3⟩
 |_=>simp_all
set_option maxRecDepth 100000 in
theorem zf3{ds:List DV}(h:DT Tryz.prog 62 ds):∃ q:RR,ds=q.enc/\q.Ok:=by
 obtain⟨hl,hf⟩:=h.struct_inv Tryz.underlying62;have cs:Tryz.prog.cellsOf 62=5:=by kernel_rfl
 rw [cs] at hl;match ds,hl with
 |[a0,a1,a2,a3,a4],_ =>
  have c1:Tryz.prog.cellsOf 9=1:=by kernel_rfl
  have c2:Tryz.prog.cellsOf 43=1:=by kernel_rfl
  have c3:Tryz.prog.cellsOf 42=1:=by kernel_rfl
  have c4:Tryz.prog.cellsOf 29=1:=by kernel_rfl
  simp [c1,c2,c3,c4] at hf;obtain⟨k0,k1,k2,k3,k4⟩:=hf;obtain⟨n0,e0,q0⟩:=k0.str_inv Tryz.underlying9;obtain⟨n1,e1,w1⟩:=k1.int_inv Tryz.underlying43;obtain⟨n2,e2,w2⟩:=k2.int_inv Tryz.underlying42;obtain⟨n3,e3,w3⟩:=k3.int_inv Tryz.underlying29;obtain⟨n4,e4,q4⟩:=k4.str_inv Tryz.underlying9;simp only [rz,and_true] at e0 e1 e2 e3 e4;subst e0 e1 e2 e3 e4;exact⟨⟨n0,n1,n2,n3,n4⟩,rfl,⟨jh0 w1,jh0 w2,jh0 w3⟩⟩
theorem xx8{ds:List DV}(h:DT Tryz.prog 56 ds):∃ (b:Bool) (l:List RR) (d:DV),ds=[d]/\DS d (rrsD b l)/\(∀ a ∈ l,a.Ok):=by
 obtain⟨z,n,f,rfl,hz,hf⟩:=DT.sl_inv2 h Tryz.underlying56;have cs:Tryz.prog.cellsOf 62=5:=by kernel_rfl
 let g:Nat->RR:=λi=>if hi:i<n then (zf3 (hf i hi)).choose else default
 have hg:∀ i (hi:i<n),f i=(g i).enc/\(g i).Ok:=λi hi=>by
  have:=(zf3 (hf i hi)).choose_spec;simpa only[g,hi,dif_pos] using this
 refine⟨z,(List.range n).map g,_,rfl,?_,λa ha=>?_⟩
 ·rw[cs];unfold rrsD;rw[mq,aq];refine .rows λi hi=>?_
  have:((List.range n).map g).getD i default=g i:=by simp[List.getD,hi]
  rw[this,(hg i hi).1];exact DSL.refl _
 ·obtain⟨i,hi,rfl⟩:=gv.1 ha;exact(hg i (o8.1 hi)).2
theorem DT.sl_inv3{P:Program}{t:TypeId}{ds:List DV}{e:TypeId}(h:DT P t ds)(hu:P.underlying t=some (.slice e)):∃ nil n f,ds=[.sl nil n (P.cellsOf e) f]/\n<=9223372036854775807/\∀ i,i<n->DT P e (f i):=by
 cases h with
 |nil _ e' h1=>rw [hu] at h1;cases h1;exact ⟨true,0,_,rfl,pv _,λi hi=>absurd hi om⟩
 |sl _ e' n f h1 h2 h3=>rw [hu] at h1;cases h1;exact ⟨false,n,f,rfl,(by unfold maxLen at h2;omega),h3⟩
 |_=>simp_all
set_option maxRecDepth 100000 in
theorem yw6{ds:List DV}(h:DT Tryz.prog 58 ds):∃ z:Zo,DSL ds z.enc/\∀ r ∈ z.rrs,r.Ok:=by
 obtain⟨hl,hf⟩:=h.struct_inv Tryz.underlying58;have cs:Tryz.prog.cellsOf 58=2:=by kernel_rfl
 rw [cs] at hl;match ds,hl with
 |[a0,a1],_ =>
  have c1:Tryz.prog.cellsOf 9=1:=by kernel_rfl
  have c2:Tryz.prog.cellsOf 56=1:=by kernel_rfl
  simp [c1,c2] at hf;obtain⟨k0,k1⟩:=hf;obtain⟨n0,e0,q0⟩:=k0.str_inv Tryz.underlying9;obtain⟨b,l,d,e1,hd,hr⟩:=xx8 k1;simp only [rz,and_true] at e0 e1;subst e0 e1;exact⟨⟨n0,b,l⟩,⟨.refl _,hd,trivial⟩,hr⟩
theorem xg4{ds:List DV}(h:DT Tryz.prog 22 ds):∃ (b:Bool) (l:List Zo) (d:DV),ds=[d]/\DS d (qv2 b l)/\∀ z ∈ l,∀ r ∈ z.rrs,r.Ok:=by
 obtain⟨z,n,f,rfl,hn,hf⟩:=DT.sl_inv3 h Tryz.underlying22;have cs:Tryz.prog.cellsOf 58=2:=by kernel_rfl
 let g:Nat->Zo:=λi=>if hi:i<n then (yw6 (hf i hi)).choose else default
 have hg:∀ i (hi:i<n),DSL (f i) (g i).enc/\∀ r ∈ (g i).rrs,r.Ok:=λi hi=>by
  have:=(yw6 (hf i hi)).choose_spec;simpa only[g,hi,dif_pos] using this
 refine⟨z,(List.range n).map g,_,rfl,?_,λa ha=>?_⟩
 ·rw[cs];unfold qv2;rw[mq,aq];refine .rows λi hi=>?_
  have:((List.range n).map g).getD i default=g i:=by simp[List.getD,hi]
  rw[this];exact(hg i hi).1
 ·obtain⟨i,hi,rfl⟩:=gv.1 ha;exact(hg i (o8.1 hi)).2
theorem xt5{ds:List DV}(h:DT Tryz.prog 30 ds):∃ (b:Bool) (l:List Int) (d:DV),ds=[d]/\DS d (.sl b l.length 1 (λj=>[.int .i64 (l.getD j 0)]))/\l.length<=9223372036854775807:=by
 obtain⟨z,n,f,rfl,hn,hf⟩:=DT.sl_inv3 h Tryz.underlying30;have cs:Tryz.prog.cellsOf 3=1:=by kernel_rfl
 let g:Nat->Int:=λi=>if hi:i<n then ((hf i hi).int_inv Tryz.underlying3).choose else 0
 have hg:∀ i (hi:i<n),f i=[.int .i64 (g i)]:=λi hi=>by
  have:=((hf i hi).int_inv Tryz.underlying3).choose_spec.1;simpa only[g,hi,dif_pos] using this
 refine⟨z,(List.range n).map g,_,rfl,?_,by rw[mq,aq];exact hn⟩;rw[cs,mq,aq];refine .rows λi hi=>?_
 have:((List.range n).map g).getD i 0=g i:=by simp[List.getD,hi]
 rw[this,hg i hi];exact DSL.refl _
set_option maxRecDepth 100000 in
theorem yz1{ds:List DV}(h:DT Tryz.prog 32 ds):∃ a:Int × Bool × List Int,DSL ds (qk6 a)/\a.2.2.length<=9223372036854775807/\0<=a.1/\a.1<=4294967295:=by
 obtain⟨hl,hf⟩:=h.struct_inv Tryz.underlying32;have cs:Tryz.prog.cellsOf 32=2:=by kernel_rfl
 rw [cs] at hl;match ds,hl with
 |[a0,a1],_ =>
  have c1:Tryz.prog.cellsOf 29=1:=by kernel_rfl
  have c2:Tryz.prog.cellsOf 30=1:=by kernel_rfl
  simp [c1,c2] at hf;obtain⟨k0,k1⟩:=hf;obtain⟨n0,e0,w0⟩:=k0.int_inv Tryz.underlying29;obtain⟨b,l,d,e1,hd,hl⟩:=xt5 k1;simp only [rz,and_true] at e0 e1;subst e0 e1;exact⟨(n0,b,l),⟨.refl _,hd,trivial⟩,hl,jh0 w0⟩
theorem xm4{ds:List DV}(h:DT Tryz.prog 23 ds):∃ (b:Bool) (l:List (Int × Bool × List Int)) (d:DV),ds=[d]/\DS d (qw0 b l)/\∀ a ∈ l,a.2.2.length<=9223372036854775807/\0<=a.1/\a.1<=4294967295:=by
 obtain⟨z,n,f,rfl,hn,hf⟩:=DT.sl_inv3 h Tryz.underlying23;have cs:Tryz.prog.cellsOf 32=2:=by kernel_rfl
 let g:Nat->Int × Bool × List Int:=λi=>if hi:i<n then (yz1 (hf i hi)).choose else default
 have hg:∀ i (hi:i<n),DSL (f i) (qk6 (g i))/\(g i).2.2.length<=9223372036854775807/\0<=(g i).1/\(g i).1<=4294967295:=λi hi=>by
  have:=(yz1 (hf i hi)).choose_spec;simpa only[g,hi,dif_pos] using this
 refine⟨z,(List.range n).map g,_,rfl,?_,λa ha=>?_⟩
 ·rw[cs];unfold qw0;rw[mq,aq];refine .rows λi hi=>?_
  have:((List.range n).map g).getD i default=g i:=by simp[List.getD,hi]
  rw[this];exact(hg i hi).1
 ·obtain⟨i,hi,rfl⟩:=gv.1 ha;exact(hg i (o8.1 hi)).2
set_option maxRecDepth 100000 in
theorem yg5{ds:List DV}(h:DT Tryz.prog 25 ds):∃ f:Fo,AEq (.agg (ds.map .d)) f.V/\f.Len/\(∀ z ∈ f.zones,∀ r ∈ z.rrs,r.Ok)/\∀ a ∈ f.hosts,0<=a.1/\a.1<=4294967295:=by
 obtain⟨hl,hf⟩:=h.struct_inv Tryz.underlying25;have cs:Tryz.prog.cellsOf 25=2:=by kernel_rfl
 rw [cs] at hl;match ds,hl with
 |[a0,a1],_ =>
  have c1:Tryz.prog.cellsOf 22=1:=by kernel_rfl
  have c2:Tryz.prog.cellsOf 23=1:=by kernel_rfl
  simp [c1,c2] at hf;obtain⟨k0,k1⟩:=hf;obtain⟨b,l,d,e0,hd,hz⟩:=xg4 k0;obtain⟨b',l',d',e1,hd',hl'⟩:=xm4 k1;simp only [rz,and_true] at e0 e1;subst e0 e1;exact⟨⟨b,l,b',l'⟩,AEq.aggL ⟨.d hd,.d hd',trivial⟩,λa ha=>(hl' a ha).1,hz,λa ha=>(hl' a ha).2⟩
theorem zg8(dss:List (List DV))(h:DTs Tryz.prog Tryz.f3.params.toList dss):FnOk Tryz.prog 3 (v7 Tryz.prog Tryz.f3.params.toList dss) (.d (.bool true)):=by
 rw [Tryz.params3] at h ⊢;match dss,h with
 |[a0,a1,a2],⟨h0,h1,h2,_⟩ =>
  obtain⟨f,hf,_,hr,hh⟩:=yg5 h0;obtain⟨g,hg,_⟩:=yg5 h1;obtain⟨s,rfl,_⟩:=h2.str_inv Tryz.underlying9;have ha:v7 Tryz.prog #[25,25,9].toList [a0,a1,[.str s]]=[.agg (a0.map .d),.agg (a1.map .d),.d (.str s)]:=by
   simp[v7,ji2,jh5,Tryz.underlying25,Tryz.underlying9]
  rw[ha];exact(xd6 f g s (λz hz r hr1=>⟨(hr z hz r hr1).ty,(hr z hz r hr1).cl,(hr z hz r hr1).ttl⟩) hh).convA ⟨hf,hg,.refl _,True.intro⟩
theorem zh3(os:Os)(started:os.Started)(H:Type)(enc:TypeId × Value->H) :
 ReturnsInHanded {} Tryz.checked os 3 .any (λw args=>(Rows.fileTellsSpec.pre enc Tryz.prog Tryz.f3 [] false w args/\laidMetH Tryz.prog Rows.fileTellsRow.laid w)/\sizedMet enc Tryz.prog Tryz.f3 (OpenSpec.ofChange Rows.fileTellsSpec) false w args)
  (Rows.fileTellsSpec.post enc Tryz.prog Tryz.f3 false true false false):=by
 refine returnsInHanded_of_change_and (C:=Tryz.checked) (X:=λw _=>laidMetH Tryz.prog Rows.fileTellsRow.laid w) (λ_ _ _ hh h=>h.of_heap hh) own started (by kernel_rfl) Tryz.func3
  (ChangeSpec.witness_at (enc:=enc) (C:=Tryz.checked) (os:=os) (X:=λw _=>laidMetH Tryz.prog Rows.fileTellsRow.laid w) false (laidWorld os) #[.agg #[.slice none 0 0,.slice none 0 0],.agg #[.slice none 0 0,.slice none 0 0],.string ⟨#[]⟩] 8 rfl (by kernel_rfl) (by kernel_rfl) (by kernel_rfl) (by kernel_rfl) (by kernel_rfl) (zj9 os _)) ?_
 intro W base args ds gs before hval0 hW _ _ hL _;have hlen:∃ d1 d2 d3,ds=[d1,d2,d3]:=by
  obtain⟨p,q,hA,_⟩:=hW;have hA:DataW.TrodAll enc Tryz.prog W 0 (λ_=>true) true Tryz.f3.params.toList args.toList ds p:=hA;have:=jz8 hA;rw [Tryz.params3] at this;match ds,this with
  |[d1,d2,d3],_=>exact⟨d1,d2,d3,rfl⟩
 obtain⟨d1,d2,d3,rfl⟩:=hlen;exact xc8 kids full (m:=8) (λt ht=>by
  rw [Tryz.params3] at ht;simp at ht;rcases ht with rfl|rfl <;> exact⟨by kernel_rfl,px (by kernel_rfl)⟩) zg8 hval0 rfl hW (by kernel_rfl) Tryz.underlying4 ⟨rfl,rfl,rfl⟩ (xw7 hL)
theorem zk2:Rows.FileTellsSaid :=
 OpenClaim.holds_of_wide 3 Tryz.f3 rfl rfl rfl rfl rfl rfl rfl ⟨rfl,rfl,rfl,rfl,rfl⟩ rfl rfl rfl rfl rfl (by kernel_rfl) Tryz.func3 (by kernel_rfl)
  (px (by kernel_rfl)) (by unfold Func.isWrapper;rw[if_neg (py (by kernel_rfl))];exact⟨rfl,rfl⟩)
  (λos started H enc _=>zh3 os started H enc)
theorem fileTells_holds:Rows.FileTellsCardSaid :=
 Claim7.holds_tied_plain_at .later [] [.data, .data, .data, .data, .sentinel, .sentinel, .pinned] true (true, "f16b6b9eb857e29b10edcde1b4993d6157455c4bb400de9aa7e79bbfbea33c97") true
  zk2 (λ_ h=>by cases h) (by kernel_rfl) (λ_ h=>by cases h) fileTells_row_tie rfl ⟨rfl,rfl⟩ (by kernel_rfl) rfl
  (λf fn hf hfn=>by
   obtain rfl : f = 3 := oq ((show Tryz.prog.funcNamed "hardtack/hardtacklaw40.FileTells" = some 3 by kernel_rfl).symm.trans hf) |>.symm
   obtain rfl:fn=Tryz.f3:=(oq (Tryz.func3.symm.trans hfn)).symm;exact⟨by kernel_rfl,λj t ht=>by
    rw [Tryz.params3] at ht;rcases j with _|j
    ·obtain rfl:t=25:=by simpa using ht.symm
     exact(show Tryz.prog.wantsStandIn 25=false by kernel_rfl)
    ·
     rcases j with _|j
     ·obtain rfl:t=25:=by simpa using ht.symm
      exact(show Tryz.prog.wantsStandIn 25=false by kernel_rfl)
     ·
      rcases j with _|j
      ·obtain rfl:t=9:=by simpa using ht.symm
       exact(show Tryz.prog.wantsStandIn 9=false by kernel_rfl)
      ·
       simp at ht⟩)
  (by kernel_rfl)
end Go.Proofs.YtoefgnnkajhmiaaGreatDoor
