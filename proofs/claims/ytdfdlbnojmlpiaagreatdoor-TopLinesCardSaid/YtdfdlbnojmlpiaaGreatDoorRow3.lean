/-
  What the rows of this seat need: the listed variables, and a world that holds them. No conditions. Records out of their cells. No conditions. TopLines returns true at every input and leaves its arguments as they read. Conditions: the listed variables of the standard library hold what the program text lays (tied by the card).
-/
import Derived.ChangeSame
import Derived.ChangeVars
import Derived.JoinedOf
import Derived.RowKit
import Derived.RowKitTokens
import Derived.LaidLaws
import Derived.LaidHandle
import Derived.Stop.Joined
import Derived.Stop.LaidErr
import Derived.SevenTiedAt
import Derived.Test.YtdfdlbnojmlpiaaGreatDoorTie
import Derived.Test.YtdfdlbnojmlpiaaGreatDoorCards
import Derived.Test.YtdfdlbnojmlpiaaGreatDoorM4
import Derived.Test.YtdfdlbnojmlpiaaGreatDoorB1
import Derived.Test.YtdfdlbnojmlpiaaGreatDoorB4
set_option linter.unusedVariables false
set_option linter.unusedSimpArgs false
namespace Go.Proofs.YtdfdlbnojmlpiaaGreatDoor
open Go Go.Eng Go.ChangeShapes Go.WideShapes Go.RowKit
theorem own:ownKnob Tryz.prog.godebug=none:=by kernel_rfl
theorem kids:Kids Tryz.prog (· < Tryz.prog.types.size):=kids_rows (by kernel_rfl) (by kernel_rfl)
theorem full:∀ t e,t<Tryz.prog.types.size→Tryz.prog.underlying t=some (.slice e)→0<Tryz.prog.cellsOf e:=slices_full_of Tryz.prog (by kernel_rfl)
theorem u_int{k:IntKind}{n:Int}(h:(Lit.int k n).wf=true):k.min≤n∧n≤k.max:=by
 simpa[Lit.wf] using h
theorem gS : Tryz.prog.globalNamed "strconv.ErrSyntax" = some 2 := by kernel_rfl
theorem gR : Tryz.prog.globalNamed "strconv.ErrRange" = some 3 := by kernel_rfl
theorem gT : Tryz.prog.globalNamed "internal/strconv.uint64pow10" = some 1 := by kernel_rfl
theorem gST:(Tryz.prog.globals[2]?).map (·.type)=some 132:=by kernel_rfl
theorem gRT:(Tryz.prog.globals[3]?).map (·.type)=some 132:=by kernel_rfl
theorem gTT:(Tryz.prog.globals[1]?).map (·.type)=some 260:=by kernel_rfl
theorem cellsE:Tryz.prog.cellsOf 273=1:=by kernel_rfl
theorem cellsStr:Tryz.prog.cellsOf 9=1:=by kernel_rfl
theorem cells64:Tryz.prog.cellsOf 126=1:=by kernel_rfl
theorem star : "*" ++ "errors.errorString" = "*errors.errorString" := by decide
theorem rowE (u : TypeId) (h : Tryz.prog.typeName? 3 u = some "*errors.errorString") : u = 271 :=
 typeName_ptr_named (nm := "errors.errorString") (by rw [star]; kernel_rfl) (by kernel_rfl) (by decide) u (by rw [star]; exact h)
theorem var_block{P:Program}{w:World}{n:String}{g:Nat}{cs:Array Value}(h:w.var? P n=some cs)(hg:P.globalNamed n=some g):∃ t fz,w.heap[g]? = some (.cells cs t fz):=by
 unfold World.var? at h
 rw [hg] at h
 simp only [Option.bind_some] at h
 split at h
 ·rename_i cs' t fz e
  cases h
  exact⟨t,fz,e⟩
 ·cases h
theorem laid_ints{P:Program}{n:String}{k:IntKind}{zs:List Int}{r:List (String × DataW Unit)}{W:World}{g:Nat}{t e:TypeId}{m:Nat}
 (h:laidMet P ((n,.agg (zs.map fun z=>.lit (.int k z))) :: r) W) (hg:P.globalNamed n=some g) (ht:(P.globals[g]?).map (·.type)=some t) (hu:P.underlying t=some (.array m e)) (he:P.underlying e=some (.int k)) (hc:P.cellsOf e=1) (hct:P.cellsOf t=m) :
 ∃ t fz,W.heap[g]? = some (.cells (zs.map fun z=>Value.int k z).toArray t fz):=by
 obtain⟨ps,⟨g0,t0,cs,f0,p0,q0,hg0,ht0,hv0,hd0,_,_⟩,_,_⟩:=h
 obtain rfl:=Option.some.inj (hg.symm.trans hg0)
 obtain rfl:=Option.some.inj (ht.symm.trans ht0)
 obtain⟨xs,f,_,hx,hl,hxl,hi⟩:=DataW.trod_array hu hd0
 have hcs:cs=(zs.map fun z=>Value.int k z).toArray:=by
  simp only [Prod.mk.injEq,DataW.agg.injEq] at hx
  have hzl:zs.length=m:=by
   have:=congrArg List.length hx.1
   simpa[hxl] using this
  rw [hct] at hl
  apply Array.toList_inj.1
  apply List.ext_getElem
  ·simp only[List.length_map];omega
  intro i h1 h2
  have hi1:i<m:=by omega
  have e1:=hi i hi1
  rw [hc,Nat.mul_one] at e1
  have e2:(cs.toList.drop i).take 1=[cs.toList[i]]:=by
   rw[List.drop_eq_getElem_cons (by omega)]
   rfl
  rw [e2,List.getElem?_eq_getElem (by omega)] at e1
  obtain⟨z,ez,ex,_⟩:=DataW.trod_int he e1
  have e3:(xs.map (·.1))[i]? = some (.lit (.int k z)):=by
   rw[List.getElem?_map,List.getElem?_eq_getElem (by omega),ex]
   rfl
  rw [←hx.1,List.getElem?_map,List.getElem?_eq_getElem (by omega)] at e3
  simp only [Option.map_some,Option.some.injEq,DataW.lit.injEq,Lit.int.injEq,true_and] at e3
  simp only [List.cons.injEq,and_true] at ez
  rw[ez]
  simp[e3]
 subst hcs
 exact var_block hv0 hg
theorem vok_of{W:World}(h:laidMetH Tryz.prog Rows.recordBackRow.laid W):VOk W (fun _ _=>False):=by
 have h:laidMet Tryz.prog Rows.recordBackRow.laid W:=h
 have h3:=h.tail.tail
 have h5:=h3.tail.tail
 have h6:=h5.tail
 obtain⟨aR,_,hvR,_⟩:=laid_sentinel h5 gR gRT Tryz.underlying132 rowE Tryz.underlying271 Tryz.underlying273 rfl rfl Tryz.underlying9 cellsE cellsStr
 obtain⟨aS,_,hvS,_⟩:=laid_sentinel h6 gS gST Tryz.underlying132 rowE Tryz.underlying271 Tryz.underlying273 rfl rfl Tryz.underlying9 cellsE cellsStr
 obtain⟨tR,fR,hbR⟩:=var_block hvR gR
 obtain⟨tS,fS,hbS⟩:=var_block hvS gS
 obtain⟨tT,fT,hbT⟩:=laid_ints (k:=.u64) (zs:=(List.range 20).map fun i=>((10 ^ i:Nat):Int)) h3 gT gTT Tryz.underlying260 Tryz.underlying126 cells64 (by kernel_rfl)
 intro p hp
 unfold evs at hp
 simp only [List.mem_cons,List.not_mem_nil,or_false] at hp
 rcases hp with rfl|rfl|rfl
 ·exact⟨⟨_,tS,fS,hbS,_,_,rfl⟩,fun _ h=>h⟩
 ·exact⟨⟨_,tR,fR,hbR,_,_,rfl⟩,fun _ h=>h⟩
 ·exact⟨⟨_,tT,fT,hbT,rfl⟩,fun _ h=>h⟩
def litCells:DataW Unit→List Value
 | .agg l=>l.flatMap fun
  | .lit (.int k n)=>[.int k n]
  | .agg m=>m.map fun| .lit (.int k n)=>.int k n|_=>.bool false
  |_=>[]
 |_=>[]
def lay(g:Nat)(cs:List Value)(w:World):World :=
 { w with heap:=w.heap.modify g fun
  | .cells _ t frozen=>.cells cs.toArray t frozen
  |o=>o }
abbrev rangeS:ByteArray:={ data:=#[118,97,108,117,101,32,111,117,116,32,111,102,32,114,97,110,103,101] }
abbrev syntaxS:ByteArray:={ data:=#[105,110,118,97,108,105,100,32,115,121,110,116,97,120] }
noncomputable def lowB:Nat:=(World.holding Tryz.prog default ⟨#[],#[],[]⟩).heap.size
noncomputable def laidWorld (os:Os):World :=
 lay 2 [.iface 271 (.pointer (some ⟨lowB,0,none⟩))] <| lay 3 [.iface 271 (.pointer (some ⟨lowB+1,0,none⟩))] <|
  lay 1 (litCells Rows.laid_internal_strconv_uint64pow10) <| lay 6 (litCells Rows.laid_unicode_utf8_first) <| lay 7 (litCells Rows.laid_unicode_utf8_acceptRanges) <|
  lay 4 (litCells Rows.laid_math_bits_deBruijn32tab) <| lay 5 (litCells Rows.laid_math_bits_deBruijn64tab) <|
  World.holding Tryz.prog os ⟨#[.cells #[.string syntaxS] 273,.cells #[.string rangeS] 273],#[],[]⟩
theorem laidWorld_met(os:Os)(args:Array Value):laidMetH Tryz.prog Rows.recordBackRow.laid ((laidWorld os).forCall (fun _ _=>0) ⟨#[],args,[]⟩).memory :=
 laidMet_of_run' 8 (by kernel_rfl) (by kernel_rfl)
end Go.Proofs.YtdfdlbnojmlpiaaGreatDoor
namespace Go.Proofs.YtdfdlbnojmlpiaaGreatDoor
open Go Go.Eng Go.ChangeShapes Go.WideShapes Go.RowKit
theorem DT.sl_inv2{P:Program}{t:TypeId}{ds:List DV}{e:TypeId}(h:DT P t ds)(hu:P.underlying t=some (.slice e)):∃ nil n f,ds=[.sl nil n (P.cellsOf e) f]∧(nil=true→n=0)∧∀ i,i<n→DT P e (f i):=by
 cases h with
 |nil _ e' h1=>rw [hu] at h1;cases h1;exact ⟨true,0,_,rfl,fun _=>rfl,fun i hi=>absurd hi (by omega)⟩
 |sl _ e' n f h1 h2 h3=>rw [hu] at h1;cases h1;exact ⟨false,n,f,rfl,(fun h=>by cases h),h3⟩
 |_=>simp_all
end Go.Proofs.YtdfdlbnojmlpiaaGreatDoor
namespace Go.Proofs.YtdfdlbnojmlpiaaGreatDoor
open Go Go.Eng Go.ChangeShapes Go.WideShapes Go.RowKit
set_option maxRecDepth 100000
theorem strs_of{ds:List DV}(h:DT Tryz.prog 23 ds):∃ (b:Bool) (l:List (List UInt8)) (d:DV),ds=[d]∧DS d (.sl b l.length 1 (strs l)):=by
 obtain⟨z,n,f,rfl,hz,hf⟩:=DT.sl_inv2 h Tryz.underlying23
 have cs:Tryz.prog.cellsOf 9=1:=by kernel_rfl
 let g:Nat→List UInt8:=fun i=>if hi:i<n then ((hf i hi).str_inv Tryz.underlying9).choose else []
 have hg:∀ i (hi:i<n),f i=[.str (g i)]:=fun i hi=>by
  have:=((hf i hi).str_inv Tryz.underlying9).choose_spec.1
  simpa only[g,hi,dif_pos] using this
 refine⟨z,(List.range n).map g,_,rfl,?_⟩
 rw[cs,List.length_map,List.length_range]
 refine .rows fun i hi=>?_
 have:strs ((List.range n).map g) i=[.str (g i)]:=by unfold strs;simp[hi]
 rw[this,hg i hi]
 exact DSL.refl _
theorem topLines_contract(dss:List (List DV))(h:DTs Tryz.prog Tryz.f7.params.toList dss):FnOk Tryz.prog 7 (argsSV Tryz.prog Tryz.f7.params.toList dss) (.d (.bool true)):=by
 rw [Tryz.params7] at h ⊢
 match dss,h with
 |[a0,a1],⟨h0,h1,_⟩ =>
  obtain⟨id,rfl,wi⟩:=h0.int_inv Tryz.underlying24
  obtain⟨z,L,d,rfl,hd⟩:=strs_of h1
  have ha:argsSV Tryz.prog #[24,23].toList [[.int .u16 id],[d]]=[.d (.int .u16 id),.d d]:=by
   simp[argsSV,argSV,oneSV,Tryz.underlying24,Tryz.underlying23]
  rw[ha]
  exact(tlines_ok id (u_int wi) z L).conv ⟨DS.refl _,hd,trivial⟩
theorem topLines_lifted(os:Os)(started:os.Started)(H:Type)(enc:TypeId × Value→H) :
 ReturnsInHanded {} Tryz.checked os 7 .any (fun w args=>(Rows.topLinesSpec.pre enc Tryz.prog Tryz.f7 [] false w args∧laidMetH Tryz.prog Rows.topLinesRow.laid w)∧sizedMet enc Tryz.prog Tryz.f7 (OpenSpec.ofChange Rows.topLinesSpec) false w args)
  (Rows.topLinesSpec.post enc Tryz.prog Tryz.f7 false true false false):=by
 refine returnsInHanded_of_change_and (C:=Tryz.checked) (X:=fun w _=>laidMetH Tryz.prog Rows.topLinesRow.laid w) (fun _ _ _ hh h=>h.of_heap hh) own started (by kernel_rfl) Tryz.func7
  (ChangeSpec.witness_at (enc:=enc) (C:=Tryz.checked) (os:=os) (X:=fun w _=>laidMetH Tryz.prog Rows.topLinesRow.laid w) false (laidWorld os) #[.int .u16 0,.slice none 0 0] 8 rfl (by kernel_rfl) (by kernel_rfl) (by kernel_rfl) (by kernel_rfl) (by kernel_rfl) (laidWorld_met os _)) ?_
 intro W base args ds gs before hval0 hW _ _ hL _
 have hlen:∃ d1 d2,ds=[d1,d2]:=by
  obtain⟨p,q,hA,_⟩:=hW
  have hA:DataW.TrodAll enc Tryz.prog W 0 (fun _=>true) true Tryz.f7.params.toList args.toList ds p:=hA
  have:=trodAll_len hA
  rw [Tryz.params7] at this
  match ds,this with
  |[d1,d2],_=>exact⟨d1,d2,rfl⟩
 obtain⟨d1,d2,rfl⟩:=hlen
 exact law_calls kids full (m:=8) (fun t ht=>by
  rw [Tryz.params7] at ht
  simp at ht
  rcases ht with rfl|rfl <;> exact⟨by kernel_rfl,of_decide_eq_true (by kernel_rfl)⟩) topLines_contract hval0 rfl hW (by kernel_rfl) Tryz.underlying4 ⟨rfl,rfl,rfl⟩ (vok_of hL)
theorem topLines_row:Rows.TopLinesSaid :=
 OpenClaim.holds_of_wide 7 Tryz.f7 rfl rfl rfl rfl rfl rfl rfl ⟨rfl,rfl,rfl,rfl,rfl⟩ rfl rfl rfl rfl rfl (by kernel_rfl) Tryz.func7 (by kernel_rfl)
  (of_decide_eq_true (by kernel_rfl)) (by unfold Func.isWrapper;rw[if_neg (of_decide_eq_false (by kernel_rfl))];exact⟨rfl,rfl⟩)
  (fun os started H enc _=>topLines_lifted os started H enc)
theorem topLines_holds:Rows.TopLinesCardSaid :=
 Claim7.holds_tied_plain_at .later [] [.data, .data, .data, .data, .sentinel, .sentinel, .pinned] true (true, "38d2930a37862379994191a27c91185238faff15fb7b1bda91177b532d0f7795") true
  topLines_row (fun _ h=>by cases h) (by kernel_rfl) (fun _ h=>by cases h) topLines_row_tie rfl ⟨rfl,rfl⟩ (by kernel_rfl) rfl
  (fun f fn hf hfn=>by
   obtain rfl : f = 7 := Option.some.inj ((show Tryz.prog.funcNamed "hardtack/hardtacktop.TopLines" = some 7 by kernel_rfl).symm.trans hf) |>.symm
   obtain rfl:fn=Tryz.f7:=(Option.some.inj (Tryz.func7.symm.trans hfn)).symm
   exact⟨by kernel_rfl,fun j t ht=>by
    rw [Tryz.params7] at ht
    rcases j with _|j
    ·obtain rfl:t=24:=by simpa using ht.symm
     exact(show Tryz.prog.wantsStandIn 24=false by kernel_rfl)
    ·
     rcases j with _|j
     ·obtain rfl:t=23:=by simpa using ht.symm
      exact(show Tryz.prog.wantsStandIn 23=false by kernel_rfl)
     ·
      simp at ht⟩)
  (by kernel_rfl)
end Go.Proofs.YtdfdlbnojmlpiaaGreatDoor
