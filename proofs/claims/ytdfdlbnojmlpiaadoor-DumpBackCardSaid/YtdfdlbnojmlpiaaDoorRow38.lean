/-
  What the rows of this seat need: the listed variables, and a world that holds them. No conditions. DumpBack returns true at every input and leaves its arguments as they read. Conditions: the listed variables of the standard library hold what the program text lays (tied by the card).
-/
import Derived.ChangeSame
import Derived.ChangeVars
import Derived.JoinedOf
import Derived.RowKit
import Derived.RowKitTokens
import Derived.LaidLaws
import Derived.LaidHandle
import Derived.Stop.Joined
import Derived.Stop.LaidErr
import Derived.SevenTiedAt
import Derived.Test.YtdfdlbnojmlpiaaDoorTie
import Derived.Test.YtdfdlbnojmlpiaaDoorCards
import Derived.Test.YtdfdlbnojmlpiaaDoorM4
import Derived.Test.YtdfdlbnojmlpiaaDoorB3
set_option linter.unusedVariables false
set_option linter.unusedSimpArgs false
namespace Go.Proofs.YtdfdlbnojmlpiaaDoor
open Go Go.Eng Go.ChangeShapes Go.WideShapes Go.RowKit
theorem own:ownKnob Tryd.prog.godebug=none:=by kernel_rfl
theorem kids:Kids Tryd.prog (· < Tryd.prog.types.size):=kids_rows (by kernel_rfl) (by kernel_rfl)
theorem full:∀ t e,t<Tryd.prog.types.size→Tryd.prog.underlying t=some (.slice e)→0<Tryd.prog.cellsOf e:=slices_full_of Tryd.prog (by kernel_rfl)
theorem u_int{k:IntKind}{n:Int}(h:(Lit.int k n).wf=true):k.min≤n∧n≤k.max:=by
 simpa[Lit.wf] using h
theorem gS : Tryd.prog.globalNamed "strconv.ErrSyntax" = some 2 := by kernel_rfl
theorem gR : Tryd.prog.globalNamed "strconv.ErrRange" = some 3 := by kernel_rfl
theorem gT : Tryd.prog.globalNamed "internal/strconv.uint64pow10" = some 0 := by kernel_rfl
theorem gST:(Tryd.prog.globals[2]?).map (·.type)=some 79:=by kernel_rfl
theorem gRT:(Tryd.prog.globals[3]?).map (·.type)=some 79:=by kernel_rfl
theorem gTT:(Tryd.prog.globals[0]?).map (·.type)=some 133:=by kernel_rfl
theorem cellsE:Tryd.prog.cellsOf 149=1:=by kernel_rfl
theorem cellsStr:Tryd.prog.cellsOf 9=1:=by kernel_rfl
theorem cells64:Tryd.prog.cellsOf 66=1:=by kernel_rfl
theorem star : "*" ++ "errors.errorString" = "*errors.errorString" := by decide
theorem rowE (u : TypeId) (h : Tryd.prog.typeName? 3 u = some "*errors.errorString") : u = 147 :=
 typeName_ptr_named (nm := "errors.errorString") (by rw [star]; kernel_rfl) (by kernel_rfl) (by decide) u (by rw [star]; exact h)
theorem var_block{P:Program}{w:World}{n:String}{g:Nat}{cs:Array Value}(h:w.var? P n=some cs)(hg:P.globalNamed n=some g):∃ t fz,w.heap[g]? = some (.cells cs t fz):=by
 unfold World.var? at h
 rw [hg] at h
 simp only [Option.bind_some] at h
 split at h
 ·rename_i cs' t fz e
  cases h
  exact⟨t,fz,e⟩
 ·cases h
theorem laid_ints{P:Program}{n:String}{k:IntKind}{zs:List Int}{r:List (String × DataW Unit)}{W:World}{g:Nat}{t e:TypeId}{m:Nat}
 (h:laidMet P ((n,.agg (zs.map fun z=>.lit (.int k z))) :: r) W) (hg:P.globalNamed n=some g) (ht:(P.globals[g]?).map (·.type)=some t) (hu:P.underlying t=some (.array m e)) (he:P.underlying e=some (.int k)) (hc:P.cellsOf e=1) (hct:P.cellsOf t=m) :
 ∃ t fz,W.heap[g]? = some (.cells (zs.map fun z=>Value.int k z).toArray t fz):=by
 obtain⟨ps,⟨g0,t0,cs,f0,p0,q0,hg0,ht0,hv0,hd0,_,_⟩,_,_⟩:=h
 obtain rfl:=Option.some.inj (hg.symm.trans hg0)
 obtain rfl:=Option.some.inj (ht.symm.trans ht0)
 obtain⟨xs,f,_,hx,hl,hxl,hi⟩:=DataW.trod_array hu hd0
 have hcs:cs=(zs.map fun z=>Value.int k z).toArray:=by
  simp only [Prod.mk.injEq,DataW.agg.injEq] at hx
  have hzl:zs.length=m:=by
   have:=congrArg List.length hx.1
   simpa[hxl] using this
  rw [hct] at hl
  apply Array.toList_inj.1
  apply List.ext_getElem
  ·simp only[List.length_map];omega
  intro i h1 h2
  have hi1:i<m:=by omega
  have e1:=hi i hi1
  rw [hc,Nat.mul_one] at e1
  have e2:(cs.toList.drop i).take 1=[cs.toList[i]]:=by
   rw[List.drop_eq_getElem_cons (by omega)]
   rfl
  rw [e2,List.getElem?_eq_getElem (by omega)] at e1
  obtain⟨z,ez,ex,_⟩:=DataW.trod_int he e1
  have e3:(xs.map (·.1))[i]? = some (.lit (.int k z)):=by
   rw[List.getElem?_map,List.getElem?_eq_getElem (by omega),ex]
   rfl
  rw [←hx.1,List.getElem?_map,List.getElem?_eq_getElem (by omega)] at e3
  simp only [Option.map_some,Option.some.injEq,DataW.lit.injEq,Lit.int.injEq,true_and] at e3
  simp only [List.cons.injEq,and_true] at ez
  rw[ez]
  simp[e3]
 subst hcs
 exact var_block hv0 hg
theorem vok_of{W:World}(h:laidMetH Tryd.prog Rows.dumpBackRow.laid W):VOk W (fun _ _=>False):=by
 have h:laidMet Tryd.prog Rows.dumpBackRow.laid W:=h
 have h3:=h.tail.tail
 have h5:=h3.tail.tail
 have h6:=h5.tail
 obtain⟨aR,_,hvR,_⟩:=laid_sentinel h5 gR gRT Tryd.underlying79 rowE Tryd.underlying147 Tryd.underlying149 rfl rfl Tryd.underlying9 cellsE cellsStr
 obtain⟨aS,_,hvS,_⟩:=laid_sentinel h6 gS gST Tryd.underlying79 rowE Tryd.underlying147 Tryd.underlying149 rfl rfl Tryd.underlying9 cellsE cellsStr
 obtain⟨tR,fR,hbR⟩:=var_block hvR gR
 obtain⟨tS,fS,hbS⟩:=var_block hvS gS
 obtain⟨tT,fT,hbT⟩:=laid_ints (k:=.u64) (zs:=(List.range 20).map fun i=>((10 ^ i:Nat):Int)) h3 gT gTT Tryd.underlying133 Tryd.underlying66 cells64 (by kernel_rfl)
 intro p hp
 unfold evs at hp
 simp only [List.mem_cons,List.not_mem_nil,or_false] at hp
 rcases hp with rfl|rfl|rfl
 ·exact⟨⟨_,tS,fS,hbS,_,_,rfl⟩,fun _ h=>h⟩
 ·exact⟨⟨_,tR,fR,hbR,_,_,rfl⟩,fun _ h=>h⟩
 ·exact⟨⟨_,tT,fT,hbT,rfl⟩,fun _ h=>h⟩
def litCells:DataW Unit→List Value
 | .agg l=>l.flatMap fun
  | .lit (.int k n)=>[.int k n]
  | .agg m=>m.map fun| .lit (.int k n)=>.int k n|_=>.bool false
  |_=>[]
 |_=>[]
def lay(g:Nat)(cs:List Value)(w:World):World :=
 { w with heap:=w.heap.modify g fun
  | .cells _ t frozen=>.cells cs.toArray t frozen
  |o=>o }
abbrev rangeS:ByteArray:={ data:=#[118,97,108,117,101,32,111,117,116,32,111,102,32,114,97,110,103,101] }
abbrev syntaxS:ByteArray:={ data:=#[105,110,118,97,108,105,100,32,115,121,110,116,97,120] }
noncomputable def lowB:Nat:=(World.holding Tryd.prog default ⟨#[],#[],[]⟩).heap.size
noncomputable def laidWorld (os:Os):World :=
 lay 2 [.iface 147 (.pointer (some ⟨lowB,0,none⟩))] <| lay 3 [.iface 147 (.pointer (some ⟨lowB+1,0,none⟩))] <|
  lay 0 (litCells Rows.laid_internal_strconv_uint64pow10) <| lay 4 (litCells Rows.laid_unicode_utf8_first) <| lay 5 (litCells Rows.laid_unicode_utf8_acceptRanges) <|
  lay 6 (litCells Rows.laid_math_bits_deBruijn32tab) <| lay 7 (litCells Rows.laid_math_bits_deBruijn64tab) <|
  World.holding Tryd.prog os ⟨#[.cells #[.string syntaxS] 149,.cells #[.string rangeS] 149],#[],[]⟩
theorem laidWorld_met(os:Os)(args:Array Value):laidMetH Tryd.prog Rows.dumpBackRow.laid ((laidWorld os).forCall (fun _ _=>0) ⟨#[],args,[]⟩).memory :=
 laidMet_of_run' 8 (by kernel_rfl) (by kernel_rfl)
end Go.Proofs.YtdfdlbnojmlpiaaDoor
namespace Go.Proofs.YtdfdlbnojmlpiaaDoor
open Go Go.Eng Go.ChangeShapes Go.WideShapes Go.RowKit
set_option maxRecDepth 100000
theorem DT.slq_inv{P:Program}{t:TypeId}{ds:List DV}{e:TypeId}(h:DT P t ds)(hu:P.underlying t=some (.slice e)):∃ nil n f,ds=[.sl nil n (P.cellsOf e) f]∧∀ i,i<n→DT P e (f i):=by
 cases h with
 |nil _ e' h1=>rw [hu] at h1;cases h1;exact ⟨true,0,_,rfl,fun i hi=>absurd hi (by omega)⟩
 |sl _ e' n f h1 h2 h3=>rw [hu] at h1;cases h1;exact ⟨false,n,f,rfl,h3⟩
 |_=>simp_all
theorem stq_of{ds:List DV}(h:DT Tryd.prog 35 ds):∃ (b:Bool) (l:List (List UInt8)) (d:DV),ds=[d]∧DS d (.sl b l.length 1 (strs l)):=by
 obtain⟨z,n,f,rfl,hf⟩:=DT.slq_inv h Tryd.underlying35
 have cs:Tryd.prog.cellsOf 9=1:=by kernel_rfl
 let g:Nat→List UInt8:=fun i=>if hi:i<n then ((hf i hi).str_inv Tryd.underlying9).choose else []
 have hg:∀ i (hi:i<n),f i=[.str (g i)]:=fun i hi=>by
  have:=((hf i hi).str_inv Tryd.underlying9).choose_spec.1
  simpa only[g,hi,dif_pos] using this
 refine⟨z,(List.range n).map g,_,rfl,?_⟩
 rw[cs,List.length_map,List.length_range]
 refine .rows fun i hi=>?_
 have:strs ((List.range n).map g) i=[.str (g i)]:=by unfold strs;simp[hi]
 rw[this,hg i hi]
 exact DSL.refl _
theorem held_of{ds:List DV}(h:DT Tryd.prog 42 ds):∃ q:Held,DSL ds q.enc∧q.In:=by
 have c1:Tryd.prog.cellsOf 9=1:=by kernel_rfl
 have c2:Tryd.prog.cellsOf 33=1:=by kernel_rfl
 have c3:Tryd.prog.cellsOf 34=1:=by kernel_rfl
 have c4:Tryd.prog.cellsOf 35=1:=by kernel_rfl
 have c5:Tryd.prog.cellsOf 38=1:=by kernel_rfl
 have c6:Tryd.prog.cellsOf 4=1:=by kernel_rfl
 have c7:Tryd.prog.cellsOf 2=1:=by kernel_rfl
 have c8:Tryd.prog.cellsOf 37=4:=by kernel_rfl
 have c9:Tryd.prog.cellsOf 40=7:=by kernel_rfl
 obtain⟨hl,hf⟩:=h.struct_inv Tryd.underlying42
 have cs:Tryd.prog.cellsOf 42=8:=by kernel_rfl
 rw [cs] at hl
 match ds,hl with
 |[a0,a1,a2,a3,a4,a5,a6,a7],_ =>
  simp [c7,c9] at hf
  obtain⟨kf,k7⟩:=hf
  obtain⟨_,hf⟩:=kf.struct_inv Tryd.underlying40
  simp [c5,c6,c8] at hf
  obtain⟨ks,k4,k5,k6⟩:=hf
  obtain⟨_,hf⟩:=ks.struct_inv Tryd.underlying37
  simp [c1,c2,c3,c4] at hf
  obtain⟨k0,k1,k2,k3⟩:=hf
  obtain⟨n0,e0,_⟩:=k0.str_inv Tryd.underlying9
  obtain⟨n1,e1,w1⟩:=k1.int_inv Tryd.underlying33
  obtain⟨n2,e2,w2⟩:=k2.int_inv Tryd.underlying34
  obtain⟨b,l,d,e3,h3⟩:=stq_of k3
  obtain⟨n4,e4,w4⟩:=k4.int_inv Tryd.underlying38
  obtain⟨n5,e5⟩:=k5.bool_inv Tryd.underlying4
  obtain⟨n6,e6⟩:=k6.bool_inv Tryd.underlying4
  obtain⟨n7,e7,w7⟩:=k7.int_inv Tryd.underlying2
  simp only [List.cons.injEq,and_true] at e0 e1 e2 e3 e4 e5 e6 e7
  subst e0 e1 e2 e3 e4 e5 e6 e7
  exact⟨⟨n0,n1,n2,b,l,n4,n5,n6,n7⟩,⟨.refl _,.refl _,.refl _,h3,.refl _,.refl _,.refl _,.refl _,trivial⟩,⟨u_int w1,u_int w2,u_int w4,u_int w7⟩⟩
theorem helds_of{ds:List DV}(h:DT Tryd.prog 22 ds):∃ (b:Bool) (l:List Held) (d:DV),ds=[d]∧DS d (heldsD b l)∧(∀ a ∈ l,a.In):=by
 obtain⟨z,n,f,rfl,hf⟩:=DT.slq_inv h Tryd.underlying22
 have cs:Tryd.prog.cellsOf 42=8:=by kernel_rfl
 let g:Nat→Held:=fun i=>if hi:i<n then (held_of (hf i hi)).choose else default
 have hg:∀ i (hi:i<n),DSL (f i) (g i).enc∧(g i).In:=fun i hi=>by
  have:=(held_of (hf i hi)).choose_spec
  simpa only[g,hi,dif_pos] using this
 refine⟨z,(List.range n).map g,_,rfl,?_,fun a ha=>?_⟩
 ·rw[cs]
  unfold heldsD
  rw[List.length_map,List.length_range]
  refine .rows fun i hi=>?_
  have:((List.range n).map g).getD i default=g i:=by simp[List.getD,hi]
  rw[this]
  exact(hg i hi).1
 ·obtain⟨i,hi,rfl⟩:=List.mem_map.1 ha
  exact(hg i (List.mem_range.1 hi)).2
theorem dumpBack_contract(dss:List (List DV))(h:DTs Tryd.prog Tryd.f3.params.toList dss):FnOk Tryd.prog 3 (argsSV Tryd.prog Tryd.f3.params.toList dss) (.d (.bool true)):=by
 rw [Tryd.params3] at h ⊢
 match dss,h with
 |[a0,a1],⟨h0,h1,_⟩ =>
  obtain⟨z,L,d,rfl,hd,hin⟩:=helds_of h0
  obtain⟨s,rfl,_⟩:=h1.str_inv Tryd.underlying9
  have ha:argsSV Tryd.prog #[22,9].toList [[d],[.str s]]=[.d d,.d (.str s)]:=by
   simp[argsSV,argSV,oneSV,Tryd.underlying9,Tryd.underlying22]
  rw[ha]
  exact(dback_ok z L s hin).conv ⟨hd,DS.refl _,trivial⟩
theorem dumpBack_lifted(os:Os)(started:os.Started)(H:Type)(enc:TypeId × Value→H) :
 ReturnsInHanded {} Tryd.checked os 3 .any (fun w args=>(Rows.dumpBackSpec.pre enc Tryd.prog Tryd.f3 [] false w args∧laidMetH Tryd.prog Rows.dumpBackRow.laid w)∧sizedMet enc Tryd.prog Tryd.f3 (OpenSpec.ofChange Rows.dumpBackSpec) false w args)
  (Rows.dumpBackSpec.post enc Tryd.prog Tryd.f3 false true false false):=by
 refine returnsInHanded_of_change_and (C:=Tryd.checked) (X:=fun w _=>laidMetH Tryd.prog Rows.dumpBackRow.laid w) (fun _ _ _ hh h=>h.of_heap hh) own started (by kernel_rfl) Tryd.func3
  (ChangeSpec.witness_at (enc:=enc) (C:=Tryd.checked) (os:=os) (X:=fun w _=>laidMetH Tryd.prog Rows.dumpBackRow.laid w) false (laidWorld os) #[.slice none 0 0,.string ⟨#[]⟩] 8 rfl (by kernel_rfl) (by kernel_rfl) (by kernel_rfl) (by kernel_rfl) (by kernel_rfl) (laidWorld_met os _)) ?_
 intro W base args ds gs before hval0 hW _ _ hL _
 have hlen:∃ d1 d2,ds=[d1,d2]:=by
  obtain⟨p,q,hA,_⟩:=hW
  have hA:DataW.TrodAll enc Tryd.prog W 0 (fun _=>true) true Tryd.f3.params.toList args.toList ds p:=hA
  have:=trodAll_len hA
  rw [Tryd.params3] at this
  match ds,this with
  |[d1,d2],_=>exact⟨d1,d2,rfl⟩
 obtain⟨d1,d2,rfl⟩:=hlen
 exact law_calls kids full (m:=8) (fun t ht=>by
  rw [Tryd.params3] at ht
  simp at ht
  rcases ht with rfl|rfl <;> exact⟨by kernel_rfl,of_decide_eq_true (by kernel_rfl)⟩) dumpBack_contract hval0 rfl hW (by kernel_rfl) Tryd.underlying4 ⟨rfl,rfl,rfl⟩ (vok_of hL)
theorem dumpBack_row:Rows.DumpBackSaid :=
 OpenClaim.holds_of_wide 3 Tryd.f3 rfl rfl rfl rfl rfl rfl rfl ⟨rfl,rfl,rfl,rfl,rfl⟩ rfl rfl rfl rfl rfl (by kernel_rfl) Tryd.func3 (by kernel_rfl)
  (of_decide_eq_true (by kernel_rfl)) (by unfold Func.isWrapper;rw[if_neg (of_decide_eq_false (by kernel_rfl))];exact⟨rfl,rfl⟩)
  (fun os started H enc _=>dumpBack_lifted os started H enc)
theorem dumpBack_holds:Rows.DumpBackCardSaid :=
 Claim7.holds_tied_plain_at .later [] [.data, .data, .data, .data, .sentinel, .sentinel, .pinned] true (true, "5c0736211064a21b3dc926a974f79451163ac3efd03b0f3f7825bc691d257cea") true
  dumpBack_row (fun _ h=>by cases h) (by kernel_rfl) (fun _ h=>by cases h) dumpBack_row_tie rfl ⟨rfl,rfl⟩ (by kernel_rfl) rfl
  (fun f fn hf hfn=>by
   obtain rfl : f = 3 := Option.some.inj ((show Tryd.prog.funcNamed "hardtack/hardtacklaw38.DumpBack" = some 3 by kernel_rfl).symm.trans hf) |>.symm
   obtain rfl:fn=Tryd.f3:=(Option.some.inj (Tryd.func3.symm.trans hfn)).symm
   exact⟨by kernel_rfl,fun j t ht=>by
    rw [Tryd.params3] at ht
    rcases j with _|j
    ·obtain rfl:t=22:=by simpa using ht.symm
     exact(show Tryd.prog.wantsStandIn 22=false by kernel_rfl)
    ·
     rcases j with _|j
     ·obtain rfl:t=9:=by simpa using ht.symm
      exact(show Tryd.prog.wantsStandIn 9=false by kernel_rfl)
     ·
      simp at ht⟩)
  (by kernel_rfl)
end Go.Proofs.YtdfdlbnojmlpiaaDoor
