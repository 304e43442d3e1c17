/-
  What the rows of this seat need: the listed variables, and a world that holds them. No conditions. DumpCache returns true at every input of bulk at most 1048576 and leaves its arguments as they read. Conditions: the listed variables of the standard library hold what the program text lays (tied by the card).
-/
import Derived.ChangeSame
import Derived.ChangeVars
import Derived.JoinedOf
import Derived.RowKit
import Derived.RowKitTokens
import Derived.LaidLaws
import Derived.LaidHandle
import Derived.Stop.Joined
import Derived.Stop.LaidErr
import Derived.SevenTiedAt
import Derived.Test.YtdfdlbnojmlpiaaGreatDoorTie
import Derived.Test.YtdfdlbnojmlpiaaGreatDoorCards
import Derived.Deep.DeepHandedRow
import Derived.Deep.DeepWitnessRowRef
import Derived.Test.YtdfdlbnojmlpiaaGreatDoorM4
import Derived.Test.YtdfdlbnojmlpiaaGreatDoorB4
set_option linter.unusedVariables false
set_option linter.unusedSimpArgs false
namespace Go.Proofs.YtdfdlbnojmlpiaaGreatDoor
open Go Go.Eng Go.ChangeShapes Go.WideShapes Go.RowKit
theorem own:ownKnob Tryz.prog.godebug=none:=by kernel_rfl
theorem kids:Kids Tryz.prog (· < Tryz.prog.types.size):=kids_rows (by kernel_rfl) (by kernel_rfl)
theorem full:∀ t e,t<Tryz.prog.types.size→Tryz.prog.underlying t=some (.slice e)→0<Tryz.prog.cellsOf e:=slices_full_of Tryz.prog (by kernel_rfl)
theorem u_int{k:IntKind}{n:Int}(h:(Lit.int k n).wf=true):k.min≤n∧n≤k.max:=by
 simpa[Lit.wf] using h
theorem gS : Tryz.prog.globalNamed "strconv.ErrSyntax" = some 2 := by kernel_rfl
theorem gR : Tryz.prog.globalNamed "strconv.ErrRange" = some 3 := by kernel_rfl
theorem gT : Tryz.prog.globalNamed "internal/strconv.uint64pow10" = some 1 := by kernel_rfl
theorem gST:(Tryz.prog.globals[2]?).map (·.type)=some 132:=by kernel_rfl
theorem gRT:(Tryz.prog.globals[3]?).map (·.type)=some 132:=by kernel_rfl
theorem gTT:(Tryz.prog.globals[1]?).map (·.type)=some 260:=by kernel_rfl
theorem cellsE:Tryz.prog.cellsOf 273=1:=by kernel_rfl
theorem cellsStr:Tryz.prog.cellsOf 9=1:=by kernel_rfl
theorem cells64:Tryz.prog.cellsOf 126=1:=by kernel_rfl
theorem star : "*" ++ "errors.errorString" = "*errors.errorString" := by decide
theorem rowE (u : TypeId) (h : Tryz.prog.typeName? 3 u = some "*errors.errorString") : u = 271 :=
 typeName_ptr_named (nm := "errors.errorString") (by rw [star]; kernel_rfl) (by kernel_rfl) (by decide) u (by rw [star]; exact h)
theorem var_block{P:Program}{w:World}{n:String}{g:Nat}{cs:Array Value}(h:w.var? P n=some cs)(hg:P.globalNamed n=some g):∃ t fz,w.heap[g]? = some (.cells cs t fz):=by
 unfold World.var? at h
 rw [hg] at h
 simp only [Option.bind_some] at h
 split at h
 ·rename_i cs' t fz e
  cases h
  exact⟨t,fz,e⟩
 ·cases h
theorem laid_ints{P:Program}{n:String}{k:IntKind}{zs:List Int}{r:List (String × DataW Unit)}{W:World}{g:Nat}{t e:TypeId}{m:Nat}
 (h:laidMet P ((n,.agg (zs.map fun z=>.lit (.int k z))) :: r) W) (hg:P.globalNamed n=some g) (ht:(P.globals[g]?).map (·.type)=some t) (hu:P.underlying t=some (.array m e)) (he:P.underlying e=some (.int k)) (hc:P.cellsOf e=1) (hct:P.cellsOf t=m) :
 ∃ t fz,W.heap[g]? = some (.cells (zs.map fun z=>Value.int k z).toArray t fz):=by
 obtain⟨ps,⟨g0,t0,cs,f0,p0,q0,hg0,ht0,hv0,hd0,_,_⟩,_,_⟩:=h
 obtain rfl:=Option.some.inj (hg.symm.trans hg0)
 obtain rfl:=Option.some.inj (ht.symm.trans ht0)
 obtain⟨xs,f,_,hx,hl,hxl,hi⟩:=DataW.trod_array hu hd0
 have hcs:cs=(zs.map fun z=>Value.int k z).toArray:=by
  simp only [Prod.mk.injEq,DataW.agg.injEq] at hx
  have hzl:zs.length=m:=by
   have:=congrArg List.length hx.1
   simpa[hxl] using this
  rw [hct] at hl
  apply Array.toList_inj.1
  apply List.ext_getElem
  ·simp only[List.length_map];omega
  intro i h1 h2
  have hi1:i<m:=by omega
  have e1:=hi i hi1
  rw [hc,Nat.mul_one] at e1
  have e2:(cs.toList.drop i).take 1=[cs.toList[i]]:=by
   rw[List.drop_eq_getElem_cons (by omega)]
   rfl
  rw [e2,List.getElem?_eq_getElem (by omega)] at e1
  obtain⟨z,ez,ex,_⟩:=DataW.trod_int he e1
  have e3:(xs.map (·.1))[i]? = some (.lit (.int k z)):=by
   rw[List.getElem?_map,List.getElem?_eq_getElem (by omega),ex]
   rfl
  rw [←hx.1,List.getElem?_map,List.getElem?_eq_getElem (by omega)] at e3
  simp only [Option.map_some,Option.some.injEq,DataW.lit.injEq,Lit.int.injEq,true_and] at e3
  simp only [List.cons.injEq,and_true] at ez
  rw[ez]
  simp[e3]
 subst hcs
 exact var_block hv0 hg
theorem vok_of{W:World}(h:laidMetH Tryz.prog Rows.recordBackRow.laid W):VOk W (fun _ _=>False):=by
 have h:laidMet Tryz.prog Rows.recordBackRow.laid W:=h
 have h3:=h.tail.tail
 have h5:=h3.tail.tail
 have h6:=h5.tail
 obtain⟨aR,_,hvR,_⟩:=laid_sentinel h5 gR gRT Tryz.underlying132 rowE Tryz.underlying271 Tryz.underlying273 rfl rfl Tryz.underlying9 cellsE cellsStr
 obtain⟨aS,_,hvS,_⟩:=laid_sentinel h6 gS gST Tryz.underlying132 rowE Tryz.underlying271 Tryz.underlying273 rfl rfl Tryz.underlying9 cellsE cellsStr
 obtain⟨tR,fR,hbR⟩:=var_block hvR gR
 obtain⟨tS,fS,hbS⟩:=var_block hvS gS
 obtain⟨tT,fT,hbT⟩:=laid_ints (k:=.u64) (zs:=(List.range 20).map fun i=>((10 ^ i:Nat):Int)) h3 gT gTT Tryz.underlying260 Tryz.underlying126 cells64 (by kernel_rfl)
 intro p hp
 unfold evs at hp
 simp only [List.mem_cons,List.not_mem_nil,or_false] at hp
 rcases hp with rfl|rfl|rfl
 ·exact⟨⟨_,tS,fS,hbS,_,_,rfl⟩,fun _ h=>h⟩
 ·exact⟨⟨_,tR,fR,hbR,_,_,rfl⟩,fun _ h=>h⟩
 ·exact⟨⟨_,tT,fT,hbT,rfl⟩,fun _ h=>h⟩
def litCells:DataW Unit→List Value
 | .agg l=>l.flatMap fun
  | .lit (.int k n)=>[.int k n]
  | .agg m=>m.map fun| .lit (.int k n)=>.int k n|_=>.bool false
  |_=>[]
 |_=>[]
def lay(g:Nat)(cs:List Value)(w:World):World :=
 { w with heap:=w.heap.modify g fun
  | .cells _ t frozen=>.cells cs.toArray t frozen
  |o=>o }
abbrev rangeS:ByteArray:={ data:=#[118,97,108,117,101,32,111,117,116,32,111,102,32,114,97,110,103,101] }
abbrev syntaxS:ByteArray:={ data:=#[105,110,118,97,108,105,100,32,115,121,110,116,97,120] }
noncomputable def lowB:Nat:=(World.holding Tryz.prog default ⟨#[],#[],[]⟩).heap.size
noncomputable def laidWorld (os:Os):World :=
 lay 2 [.iface 271 (.pointer (some ⟨lowB,0,none⟩))] <| lay 3 [.iface 271 (.pointer (some ⟨lowB+1,0,none⟩))] <|
  lay 1 (litCells Rows.laid_internal_strconv_uint64pow10) <| lay 6 (litCells Rows.laid_unicode_utf8_first) <| lay 7 (litCells Rows.laid_unicode_utf8_acceptRanges) <|
  lay 4 (litCells Rows.laid_math_bits_deBruijn32tab) <| lay 5 (litCells Rows.laid_math_bits_deBruijn64tab) <|
  World.holding Tryz.prog os ⟨#[.cells #[.string syntaxS] 273,.cells #[.string rangeS] 273],#[],[]⟩
theorem laidWorld_met(os:Os)(args:Array Value):laidMetH Tryz.prog Rows.recordBackRow.laid ((laidWorld os).forCall (fun _ _=>0) ⟨#[],args,[]⟩).memory :=
 laidMet_of_run' 8 (by kernel_rfl) (by kernel_rfl)
end Go.Proofs.YtdfdlbnojmlpiaaGreatDoor
namespace Go.Proofs.YtdfdlbnojmlpiaaGreatDoor
open Go Go.Eng Go.ChangeShapes Go.WideShapes Go.RowKit
set_option maxRecDepth 100000
theorem bulk_part{H:Type}{d:DataW H}{l:List (DataW H)}(h:d ∈ l):Rows.uptoBulk d≤Rows.uptoBulkAll l:=by
 induction l with
 |nil=>cases h
 |cons x r ih =>
  simp only[Rows.uptoBulkAll]
  rcases List.mem_cons.1 h with e|e
  ·subst e;omega
  ·have:=ih e;omega
theorem bulk_one{H:Type}(d:DataW H):1≤Rows.uptoBulk d:=by
 cases d with
 |lit l=>cases l <;> simp[Rows.uptoBulk]
 |_=>simp[Rows.uptoBulk]
theorem bulk_len{H:Type}(l:List (DataW H)):l.length≤Rows.uptoBulkAll l:=by
 induction l with
 |nil=>simp[Rows.uptoBulkAll]
 |cons x r ih=>have:=bulk_one x;simp only[Rows.uptoBulkAll,List.length_cons];omega
theorem bulks{H:Type}:Blk (Rows.uptoBulk (H:=H)) where
 str b:=by simp[Rows.uptoBulk]
 slice l r d hd:=by have:=bulk_part hd;simp only[Rows.uptoBulk];omega
 len l r:=by have:=bulk_len l;simp only[Rows.uptoBulk];omega
 agg l d hd:=by have:=bulk_part hd;simp only[Rows.uptoBulk];omega
theorem FitD.ds{N:Nat}{x y:DV}(h:DS x y):FitD N x→FitD N y:=by
 induction h with
 |refl x=>exact id
 |bt=>exact fun _=>by constructor
 |bf=>exact fun _=>by constructor
 |tb=>exact fun _=>by constructor
 |fb=>exact fun _=>by constructor
 |sl b n sz f g hl _ ih =>
  intro h
  cases h with
  |sl _ _ _ _ h1 h2 =>
   refine .sl _ _ _ _ h1 fun i hi d hd=>?_
   obtain⟨j,hj,rfl⟩:=List.mem_iff_getElem.1 hd
   have hl:=hl i hi
   exact ih i j ((f i)[j]) _ hi (List.getElem?_eq_getElem (by omega)) (List.getElem?_eq_getElem hj) (h2 i hi _ (List.getElem_mem _))
 |none b sz sz' f g=>exact fun _=>.sl _ _ _ _ (Nat.zero_le _) fun i hi=>absurd hi (Nat.not_lt_zero _)
theorem DT.slq_inv{P:Program}{t:TypeId}{ds:List DV}{e:TypeId}(h:DT P t ds)(hu:P.underlying t=some (.slice e)):∃ nil n f,ds=[.sl nil n (P.cellsOf e) f]∧(nil=true→n=0)∧∀ i,i<n→DT P e (f i):=by
 cases h with
 |nil _ e' h1=>rw [hu] at h1;cases h1;exact ⟨true,0,_,rfl,fun _=>rfl,fun i hi=>absurd hi (by omega)⟩
 |sl _ e' n f h1 h2 h3=>rw [hu] at h1;cases h1;exact ⟨false,n,f,rfl,(fun h=>by cases h),h3⟩
 |_=>simp_all
theorem stq_of{ds:List DV}(h:DT Tryz.prog 23 ds):∃ (b:Bool) (l:List (List UInt8)) (d:DV),ds=[d]∧DS d (.sl b l.length 1 (strs l))∧(b=true→l.length=0):=by
 obtain⟨z,n,f,rfl,hz,hf⟩:=DT.slq_inv h Tryz.underlying23
 have cs:Tryz.prog.cellsOf 9=1:=by kernel_rfl
 let g:Nat→List UInt8:=fun i=>if hi:i<n then ((hf i hi).str_inv Tryz.underlying9).choose else []
 have hg:∀ i (hi:i<n),f i=[.str (g i)]:=fun i hi=>by
  have:=((hf i hi).str_inv Tryz.underlying9).choose_spec.1
  simpa only[g,hi,dif_pos] using this
 refine⟨z,(List.range n).map g,_,rfl,?_,fun h=>by rw[List.length_map,List.length_range];exact hz h⟩
 rw[cs,List.length_map,List.length_range]
 refine .rows fun i hi=>?_
 have:strs ((List.range n).map g) i=[.str (g i)]:=by unfold strs;simp[hi]
 rw[this,hg i hi]
 exact DSL.refl _
structure Pu.Rd(p:Pu):Prop where
 ty:0≤p.ty∧p.ty≤65535
 ttl:0≤p.ttl∧p.ttl≤4294967295
 z:p.z=true→p.data.length=0
theorem pu_of{ds:List DV}(h:DT Tryz.prog 84 ds):∃ q:Pu,DSL ds q.enc∧q.Rd:=by
 have c1:Tryz.prog.cellsOf 9=1:=by kernel_rfl
 have c2:Tryz.prog.cellsOf 25=1:=by kernel_rfl
 have c3:Tryz.prog.cellsOf 26=1:=by kernel_rfl
 have c4:Tryz.prog.cellsOf 23=1:=by kernel_rfl
 have c5:Tryz.prog.cellsOf 73=1:=by kernel_rfl
 have c7:Tryz.prog.cellsOf 2=1:=by kernel_rfl
 have c8:Tryz.prog.cellsOf 72=4:=by kernel_rfl
 obtain⟨hl,hf⟩:=h.struct_inv Tryz.underlying84
 have cs:Tryz.prog.cellsOf 84=6:=by kernel_rfl
 rw [cs] at hl
 match ds,hl with
 |[a0,a1,a2,a3,a4,a5],_ =>
  simp [c5,c7,c8] at hf
  obtain⟨ks,k4,k5⟩:=hf
  obtain⟨_,hf⟩:=ks.struct_inv Tryz.underlying72
  simp [c1,c2,c3,c4] at hf
  obtain⟨k0,k1,k2,k3⟩:=hf
  obtain⟨n0,e0,_⟩:=k0.str_inv Tryz.underlying9
  obtain⟨n1,e1,w1⟩:=k1.int_inv Tryz.underlying25
  obtain⟨n2,e2,w2⟩:=k2.int_inv Tryz.underlying26
  obtain⟨b,l,d,e3,h3,hz⟩:=stq_of k3
  obtain⟨n4,e4,w4⟩:=k4.int_inv Tryz.underlying73
  obtain⟨n5,e5,w5⟩:=k5.int_inv Tryz.underlying2
  simp only [List.cons.injEq,and_true] at e0 e1 e2 e3 e4 e5
  subst e0 e1 e2 e3 e4 e5
  exact⟨⟨n0,n1,n2,b,l,n4,n5⟩,⟨.refl _,.refl _,.refl _,h3,.refl _,.refl _,trivial⟩,⟨u_int w1,u_int w2,hz⟩⟩
theorem pus_of{ds:List DV}(h:DT Tryz.prog 22 ds):∃ (b:Bool) (l:List Pu) (d:DV),ds=[d]∧DS d (pusD b l)∧(∀ a ∈ l,a.Rd):=by
 obtain⟨z,n,f,rfl,_,hf⟩:=DT.slq_inv h Tryz.underlying22
 have cs:Tryz.prog.cellsOf 84=6:=by kernel_rfl
 let g:Nat→Pu:=fun i=>if hi:i<n then (pu_of (hf i hi)).choose else default
 have hg:∀ i (hi:i<n),DSL (f i) (g i).enc∧(g i).Rd:=fun i hi=>by
  have:=(pu_of (hf i hi)).choose_spec
  simpa only[g,hi,dif_pos] using this
 refine⟨z,(List.range n).map g,_,rfl,?_,fun a ha=>?_⟩
 ·rw[cs]
  unfold pusD
  rw[List.length_map,List.length_range]
  refine .rows fun i hi=>?_
  have:((List.range n).map g).getD i default=g i:=by simp[List.getD,hi]
  rw[this]
  exact(hg i hi).1
 ·obtain⟨i,hi,rfl⟩:=List.mem_map.1 ha
  exact(hg i (List.mem_range.1 hi)).2
theorem dumpCache_contract{H:Type}(d1 d2 d3 d4:DataW H)(hk:Rows.uptoBulkAll [d1,d2,d3,d4]≤1048576)(dss:List (List DV))(h:DTs Tryz.prog Tryz.f3.params.toList dss)(hf:Fits2 Rows.uptoBulk [d1,d2,d3,d4] dss):FnOk Tryz.prog 3 (argsSV Tryz.prog Tryz.f3.params.toList dss) (.d (.bool true)):=by
 rw [Tryz.params3] at h ⊢
 simp only [Rows.uptoBulkAll] at hk
 match dss,h,hf with
 |[a0,a1,a2,a3],⟨h0,h1,h2,h3,_⟩,⟨f0,_⟩ =>
  obtain⟨z,L,d,rfl,hd,hin⟩:=pus_of h0
  obtain⟨zn,N,e,rfl,he,_⟩:=stq_of h1
  obtain⟨ty,rfl,wt⟩:=h2.int_inv Tryz.underlying25
  obtain⟨ttl,rfl,wl⟩:=h3.int_inv Tryz.underlying26
  have f3:=FitD.ds hd (f0 d (by simp))
  unfold pusD at f3
  have hll:L.length≤1048576:=by
   cases f3 with
   |sl _ _ _ _ h4 _=>omega
  have hok:∀ p ∈ L,p.Ok:=fun p hp=>by
   cases f3 with
   |sl _ _ _ _ _ h4 =>
    have hr:=hin p hp
    refine⟨hr.ty,hr.z,hr.ttl,fun x hx=>?_⟩
    obtain⟨i,hi,rfl⟩:=List.mem_iff_getElem.1 hp
    have h5:=h4 i hi (.sl (L[i]).z (L[i]).data.length 1 (strs (L[i]).data)) (by show _ ∈ (L.getD i default).enc;rw[List.getD_eq_getElem?_getD,List.getElem?_eq_getElem hi];simp[Pu.enc])
    cases h5 with
    |sl _ _ _ _ _ h6 =>
     obtain⟨j,hj,rfl⟩:=List.mem_iff_getElem.1 hx
     have h7:=h6 j hj (.str ((L[i]).data[j])) (by unfold strs;rw[List.getElem?_eq_getElem hj];simp)
     cases h7 with
     |str _ hs=>omega
  have ha:argsSV Tryz.prog #[22,23,25,26].toList [[d],[e],[.int .u16 ty],[.int .u32 ttl]]=[.d d,.d e,.d (.int .u16 ty),.d (.int .u32 ttl)]:=by
   simp[argsSV,argSV,oneSV,Tryz.underlying22,Tryz.underlying23,Tryz.underlying25,Tryz.underlying26]
  rw[ha]
  exact(dcache_ok z L hll hok zn N ty ttl (u_int wt) (u_int wl)).conv ⟨hd,he,DS.refl _,DS.refl _,trivial⟩
theorem dumpCache_reads(os:Os){H:Type}(enc:TypeId × Value→H):∃ ds places,DataW.whole enc Tryz.prog ((laidWorld os).forCall (fun _ _=>0) ⟨#[],#[.slice none 0 0,.slice none 0 0,.int .u16 0,.int .u32 0],[]⟩).memory Tryz.f3.params.toList Rows.dumpCacheSpec.vars false (#[.slice none 0 0,.slice none 0 0,.int .u16 0,.int .u32 0]:Array Value).toList 8=some (ds,[],places)∧Rows.uptoSmall H ds=true :=
 ⟨[.nil,.nil,.lit (.int .u16 0),.lit (.int .u32 0)],[],by kernel_rfl,by kernel_rfl⟩
theorem dumpCache_lifted(os:Os)(started:os.Started)(H:Type)(enc:TypeId × Value→H)(F:Stop.Interp) :
 ReturnsInHanded {} Tryz.checked os 3 .any ((Rows.OpenSpec.upto Rows.dumpCacheSpec).preRow enc Tryz.prog Tryz.f3 Rows.dumpCacheUptoRow.domain false Rows.dumpCacheUptoRow.laid) (((Rows.OpenSpec.upto Rows.dumpCacheSpec).at F).post enc Tryz.prog Tryz.f3 false true false false):=by
 obtain⟨ds0,places,hx,hx2⟩:=dumpCache_reads os enc
 refine returnsInHanded_of_row (C:=Tryz.checked) (s:=Rows.OpenSpec.upto Rows.dumpCacheSpec) own started (by kernel_rfl) Tryz.func3
  (witness_row_atRef (enc:=enc) (C:=Tryz.checked) false (laidWorld os) #[.slice none 0 0,.slice none 0 0,.int .u16 0,.int .u32 0] rfl (by kernel_rfl) (by kernel_rfl) (by kernel_rfl)
   (OpenSpec.preRow_of_cond 8 hx rfl (fun k hk=>by cases hk;rw[List.append_nil];exact hx2) (by kernel_rfl) (laidWorld_met os _))) ?_
 intro W base args ds gs before hval0 hW _ hcond _ hL _ _
 have hlen:∃ d1 d2 d3 d4,ds=[d1,d2,d3,d4]:=by
  obtain⟨p,q,hA,_⟩:=hW
  have hA:DataW.TrodAll enc Tryz.prog W 0 (fun _=>true) true Tryz.f3.params.toList args.toList ds p:=hA
  have:=trodAll_len hA
  rw [Tryz.params3] at this
  match ds,this with
  |[d1,d2,d3,d4],_=>exact⟨d1,d2,d3,d4,rfl⟩
 obtain⟨d1,d2,d3,d4,rfl⟩:=hlen
 have hg:gs=[]:=by
  obtain⟨p,q,_,hV,_⟩:=hW
  exact(trodVars_none hV).1
 subst hg
 have hk:Rows.uptoBulkAll [d1,d2,d3,d4]≤1048576:=of_decide_eq_true (hcond _ rfl)
 exact law_fits bulks kids full (m:=8) (fun t ht=>by
  rw [Tryz.params3] at ht
  simp at ht
  rcases ht with rfl|rfl|rfl|rfl <;> exact⟨by kernel_rfl,of_decide_eq_true (by kernel_rfl)⟩) (dumpCache_contract d1 d2 d3 d4 hk) hval0 rfl hW (by kernel_rfl) Tryz.underlying4 ⟨rfl,rfl,rfl⟩ (vok_of hL)
theorem dumpCache_row:Rows.DumpCacheUptoSaid :=
 OpenClaim.holds_of_cond 3 Tryz.f3 rfl rfl rfl rfl rfl rfl rfl ⟨rfl,rfl,rfl,rfl,rfl⟩ rfl rfl rfl rfl rfl (by kernel_rfl) Tryz.func3 (by kernel_rfl)
  (of_decide_eq_true (by kernel_rfl)) (by unfold Func.isWrapper;rw[if_neg (of_decide_eq_false (by kernel_rfl))];exact⟨rfl,rfl⟩)
  (fun os started H enc _ F=>by rw[OpenClaim.pre_eq_preRow];exact dumpCache_lifted os started H enc F)
theorem dumpCache_holds:Rows.DumpCacheUptoCardSaid :=
 Claim7.holds_tied_plain_at .later [] [.data, .data, .data, .data, .sentinel, .sentinel, .pinned] true (true, "38d2930a37862379994191a27c91185238faff15fb7b1bda91177b532d0f7795") true
  dumpCache_row (fun _ h=>by cases h) (by kernel_rfl) (fun _ h=>by cases h) dumpCacheUpto_row_tie rfl ⟨rfl,rfl⟩ (by kernel_rfl) rfl
  (fun f fn hf hfn=>by
   obtain rfl : f = 3 := Option.some.inj ((show Tryz.prog.funcNamed "hardtack/hardtacklaw38.DumpCache" = some 3 by kernel_rfl).symm.trans hf) |>.symm
   obtain rfl:fn=Tryz.f3:=(Option.some.inj (Tryz.func3.symm.trans hfn)).symm
   exact⟨by kernel_rfl,fun j t ht=>by
    rw [Tryz.params3] at ht
    rcases j with _|_|_|_|j
    ·obtain rfl:t=22:=by simpa using ht.symm
     exact(show Tryz.prog.wantsStandIn 22=false by kernel_rfl)
    ·obtain rfl:t=23:=by simpa using ht.symm
     exact(show Tryz.prog.wantsStandIn 23=false by kernel_rfl)
    ·obtain rfl:t=25:=by simpa using ht.symm
     exact(show Tryz.prog.wantsStandIn 25=false by kernel_rfl)
    ·obtain rfl:t=26:=by simpa using ht.symm
     exact(show Tryz.prog.wantsStandIn 26=false by kernel_rfl)
    ·simp at ht⟩)
  (by kernel_rfl)
end Go.Proofs.YtdfdlbnojmlpiaaGreatDoor
