/-
  What the rows of this seat need: the listed variables, and a world that holds them. No conditions. Records out of their cells. No conditions. RecordTexts returns true at every input and leaves its arguments as they read. Conditions: the listed variables of the standard library hold what the program text lays (tied by the card).
-/
import Derived.ChangeSame
import Derived.ChangeVars
import Derived.JoinedOf
import Derived.RowKit
import Derived.RowKitTokens
import Derived.LaidLaws
import Derived.LaidHandle
import Derived.Stop.Joined
import Derived.Stop.LaidErr
import Derived.SevenTiedAt
import Derived.Test.YtdfdlbnojmlpiaaGreatDoorTie
import Derived.Test.YtdfdlbnojmlpiaaGreatDoorCards
import Derived.Test.YtdfdlbnojmlpiaaGreatDoorM4
import Derived.Test.YtdfdlbnojmlpiaaGreatDoorB1
import Derived.Test.YtdfdlbnojmlpiaaGreatDoorB4
set_option linter.unusedVariables false
set_option linter.unusedSimpArgs false
namespace Go.Proofs.YtdfdlbnojmlpiaaGreatDoor
open Go Go.Eng Go.ChangeShapes Go.WideShapes Go.RowKit
theorem own:ownKnob Tryz.prog.godebug=none:=by kernel_rfl
theorem kids:Kids Tryz.prog (· < Tryz.prog.types.size):=kids_rows (by kernel_rfl) (by kernel_rfl)
theorem full:∀ t e,t<Tryz.prog.types.size→Tryz.prog.underlying t=some (.slice e)→0<Tryz.prog.cellsOf e:=slices_full_of Tryz.prog (by kernel_rfl)
theorem u_int{k:IntKind}{n:Int}(h:(Lit.int k n).wf=true):k.min≤n∧n≤k.max:=by
 simpa[Lit.wf] using h
theorem gS : Tryz.prog.globalNamed "strconv.ErrSyntax" = some 2 := by kernel_rfl
theorem gR : Tryz.prog.globalNamed "strconv.ErrRange" = some 3 := by kernel_rfl
theorem gT : Tryz.prog.globalNamed "internal/strconv.uint64pow10" = some 1 := by kernel_rfl
theorem gST:(Tryz.prog.globals[2]?).map (·.type)=some 132:=by kernel_rfl
theorem gRT:(Tryz.prog.globals[3]?).map (·.type)=some 132:=by kernel_rfl
theorem gTT:(Tryz.prog.globals[1]?).map (·.type)=some 260:=by kernel_rfl
theorem cellsE:Tryz.prog.cellsOf 273=1:=by kernel_rfl
theorem yu6:Tryz.prog.cellsOf 9=1:=by kernel_rfl
theorem cells64:Tryz.prog.cellsOf 126=1:=by kernel_rfl
theorem star : "*" ++ "errors.errorString" = "*errors.errorString" := by decide
theorem rowE (u : TypeId) (h : Tryz.prog.typeName? 3 u = some "*errors.errorString") : u = 271 :=
 typeName_ptr_named (nm := "errors.errorString") (by rw [star]; kernel_rfl) (by kernel_rfl) (by decide) u (by rw [star]; exact h)
theorem jj8{P:Program}{w:World}{n:String}{g:Nat}{cs:Array Value}(h:w.var? P n=some cs)(hg:P.globalNamed n=some g):∃ t fz,w.heap[g]? = some (.cells cs t fz):=by
 unfold World.var? at h
 rw [hg] at h
 simp only [Option.bind_some] at h
 split at h
 ·rename_i cs' t fz e
  cases h
  exact⟨t,fz,e⟩
 ·cases h
theorem laid_ints{P:Program}{n:String}{k:IntKind}{zs:List Int}{r:List (String × DataW Unit)}{W:World}{g:Nat}{t e:TypeId}{m:Nat}
 (h:laidMet P ((n,.agg (zs.map fun z=>.lit (.int k z))) :: r) W) (hg:P.globalNamed n=some g) (ht:(P.globals[g]?).map (·.type)=some t) (hu:P.underlying t=some (.array m e)) (he:P.underlying e=some (.int k)) (hc:P.cellsOf e=1) (hct:P.cellsOf t=m) :
 ∃ t fz,W.heap[g]? = some (.cells (zs.map fun z=>Value.int k z).toArray t fz):=by
 obtain⟨ps,⟨g0,t0,cs,f0,p0,q0,hg0,ht0,hv0,hd0,_,_⟩,_,_⟩:=h
 obtain rfl:=Option.some.inj (hg.symm.trans hg0)
 obtain rfl:=Option.some.inj (ht.symm.trans ht0)
 obtain⟨xs,f,_,hx,hl,hxl,hi⟩:=DataW.trod_array hu hd0
 have hcs:cs=(zs.map fun z=>Value.int k z).toArray:=by
  simp only [Prod.mk.injEq,DataW.agg.injEq] at hx
  have hzl:zs.length=m:=by
   have:=congrArg List.length hx.1
   simpa[hxl] using this
  rw [hct] at hl
  apply Array.toList_inj.1
  apply List.ext_getElem
  ·simp only[List.length_map];omega
  intro i h1 h2
  have hi1:i<m:=by omega
  have e1:=hi i hi1
  rw [hc,Nat.mul_one] at e1
  have e2:(cs.toList.drop i).take 1=[cs.toList[i]]:=by
   rw[List.drop_eq_getElem_cons (by omega)]
   rfl
  rw [e2,List.getElem?_eq_getElem (by omega)] at e1
  obtain⟨z,ez,ex,_⟩:=DataW.trod_int he e1
  have e3:(xs.map (·.1))[i]? = some (.lit (.int k z)):=by
   rw[List.getElem?_map,List.getElem?_eq_getElem (by omega),ex]
   rfl
  rw [←hx.1,List.getElem?_map,List.getElem?_eq_getElem (by omega)] at e3
  simp only [Option.map_some,Option.some.injEq,DataW.lit.injEq,Lit.int.injEq,true_and] at e3
  simp only [List.cons.injEq,and_true] at ez
  rw[ez]
  simp[e3]
 subst hcs
 exact jj8 hv0 hg
theorem vok_of{W:World}(h:laidMetH Tryz.prog Rows.recordBackRow.laid W):VOk W (fun _ _=>False):=by
 have h:laidMet Tryz.prog Rows.recordBackRow.laid W:=h
 have h3:=h.tail.tail
 have h5:=h3.tail.tail
 have h6:=h5.tail
 obtain⟨aR,_,hvR,_⟩:=laid_sentinel h5 gR gRT Tryz.underlying132 rowE Tryz.underlying271 Tryz.underlying273 rfl rfl Tryz.underlying9 cellsE yu6
 obtain⟨aS,_,hvS,_⟩:=laid_sentinel h6 gS gST Tryz.underlying132 rowE Tryz.underlying271 Tryz.underlying273 rfl rfl Tryz.underlying9 cellsE yu6
 obtain⟨tR,fR,hbR⟩:=jj8 hvR gR
 obtain⟨tS,fS,hbS⟩:=jj8 hvS gS
 obtain⟨tT,fT,hbT⟩:=laid_ints (k:=.u64) (zs:=(List.range 20).map fun i=>((10 ^ i:Nat):Int)) h3 gT gTT Tryz.underlying260 Tryz.underlying126 cells64 (by kernel_rfl)
 intro p hp
 unfold evs at hp
 simp only [List.mem_cons,List.not_mem_nil,or_false] at hp
 rcases hp with rfl|rfl|rfl
 ·exact⟨⟨_,tS,fS,hbS,_,_,rfl⟩,fun _ h=>h⟩
 ·exact⟨⟨_,tR,fR,hbR,_,_,rfl⟩,fun _ h=>h⟩
 ·exact⟨⟨_,tT,fT,hbT,rfl⟩,fun _ h=>h⟩
def jd0:DataW Unit→List Value
 | .agg l=>l.flatMap fun
  | .lit (.int k n)=>[.int k n]
  | .agg m=>m.map fun| .lit (.int k n)=>.int k n|_=>.bool false
  |_=>[]
 |_=>[]
def lay(g:Nat)(cs:List Value)(w:World):World :=
 { w with heap:=w.heap.modify g fun
  | .cells _ t frozen=>.cells cs.toArray t frozen
  |o=>o }
abbrev rangeS:ByteArray:={ data:=#[118,97,108,117,101,32,111,117,116,32,111,102,32,114,97,110,103,101] }
abbrev syntaxS:ByteArray:={ data:=#[105,110,118,97,108,105,100,32,115,121,110,116,97,120] }
noncomputable def lowB:Nat:=(World.holding Tryz.prog default ⟨#[],#[],[]⟩).heap.size
noncomputable def laidWorld (os:Os):World :=
 lay 2 [.iface 271 (.pointer (some ⟨lowB,0,none⟩))] <| lay 3 [.iface 271 (.pointer (some ⟨lowB+1,0,none⟩))] <|
  lay 1 (jd0 Rows.laid_internal_strconv_uint64pow10) <| lay 6 (jd0 Rows.laid_unicode_utf8_first) <| lay 7 (jd0 Rows.laid_unicode_utf8_acceptRanges) <|
  lay 4 (jd0 Rows.laid_math_bits_deBruijn32tab) <| lay 5 (jd0 Rows.laid_math_bits_deBruijn64tab) <|
  World.holding Tryz.prog os ⟨#[.cells #[.string syntaxS] 273,.cells #[.string rangeS] 273],#[],[]⟩
theorem jz4(os:Os)(args:Array Value):laidMetH Tryz.prog Rows.recordBackRow.laid ((laidWorld os).forCall (fun _ _=>0) ⟨#[],args,[]⟩).memory :=
 laidMet_of_run' 8 (by kernel_rfl) (by kernel_rfl)
end Go.Proofs.YtdfdlbnojmlpiaaGreatDoor
namespace Go.Proofs.YtdfdlbnojmlpiaaGreatDoor
open Go Go.Eng Go.ChangeShapes Go.WideShapes Go.RowKit
set_option maxRecDepth 100000 in
theorem rr_of{ds:List DV}(h:DT Tryz.prog 44 ds):∃ q:RR,ds=q.enc∧q.Ok:=by
 obtain⟨hl,hf⟩:=h.struct_inv Tryz.underlying44
 have cs:Tryz.prog.cellsOf 44=5:=by kernel_rfl
 rw [cs] at hl
 match ds,hl with
 |[a0,a1,a2,a3,a4],_ =>
  have c1:Tryz.prog.cellsOf 9=1:=by kernel_rfl
  have c2:Tryz.prog.cellsOf 25=1:=by kernel_rfl
  have c3:Tryz.prog.cellsOf 24=1:=by kernel_rfl
  have c4:Tryz.prog.cellsOf 26=1:=by kernel_rfl
  simp [c1,c2,c3,c4] at hf
  obtain⟨k0,k1,k2,k3,k4⟩:=hf
  obtain⟨n0,e0,q0⟩:=k0.str_inv Tryz.underlying9
  obtain⟨n1,e1,w1⟩:=k1.int_inv Tryz.underlying25
  obtain⟨n2,e2,w2⟩:=k2.int_inv Tryz.underlying24
  obtain⟨n3,e3,w3⟩:=k3.int_inv Tryz.underlying26
  obtain⟨n4,e4,q4⟩:=k4.str_inv Tryz.underlying9
  simp only [List.cons.injEq,and_true] at e0 e1 e2 e3 e4
  subst e0 e1 e2 e3 e4
  exact⟨⟨n0,n1,n2,n3,n4⟩,rfl,⟨u_int w1,u_int w2,u_int w3⟩⟩
end Go.Proofs.YtdfdlbnojmlpiaaGreatDoor
namespace Go.Proofs.YtdfdlbnojmlpiaaGreatDoor
open Go Go.Eng Go.ChangeShapes Go.WideShapes Go.RowKit
set_option maxRecDepth 100000
theorem qy5(dss:List (List DV))(h:DTs Tryz.prog Tryz.f5.params.toList dss):FnOk Tryz.prog 5 (qx2 Tryz.prog Tryz.f5.params.toList dss) (.d (.bool true)):=by
 rw [Tryz.params5] at h ⊢
 match dss,h with
 |[a0,a1],⟨h0,h1,_⟩ =>
  obtain⟨x,rfl,hx⟩:=rr_of h0
  obtain⟨s,rfl,_⟩:=h1.str_inv Tryz.underlying9
  have ha:qx2 Tryz.prog #[44,9].toList [x.enc,[.str s]]=[x.V,.d (.str s)]:=by
   simp[qx2,argSV,oneSV,RR.enc,RR.V,Tryz.underlying44,Tryz.underlying9]
  rw[ha]
  exact rtexts_ok x s ⟨hx.ty,hx.cl,hx.ttl⟩
theorem jb9(os:Os)(started:os.Started)(H:Type)(enc:TypeId × Value→H) :
 ReturnsInHanded {} Tryz.checked os 5 .any (fun w args=>(Rows.recordTextsSpec.pre enc Tryz.prog Tryz.f5 [] false w args∧laidMetH Tryz.prog Rows.recordTextsRow.laid w)∧sizedMet enc Tryz.prog Tryz.f5 (OpenSpec.ofChange Rows.recordTextsSpec) false w args)
  (Rows.recordTextsSpec.post enc Tryz.prog Tryz.f5 false true false false):=by
 refine returnsInHanded_of_change_and (C:=Tryz.checked) (X:=fun w _=>laidMetH Tryz.prog Rows.recordTextsRow.laid w) (fun _ _ _ hh h=>h.of_heap hh) own started (by kernel_rfl) Tryz.func5
  (ChangeSpec.witness_at (enc:=enc) (C:=Tryz.checked) (os:=os) (X:=fun w _=>laidMetH Tryz.prog Rows.recordTextsRow.laid w) false (laidWorld os) #[.agg #[.string ⟨#[]⟩,.int .u16 0,.int .u16 0,.int .u32 0,.string ⟨#[]⟩],.string ⟨#[]⟩] 8 rfl (by kernel_rfl) (by kernel_rfl) (by kernel_rfl) (by kernel_rfl) (by kernel_rfl) (jz4 os _)) ?_
 intro W base args ds gs before hval0 hW _ _ hL _
 have hlen:∃ d1 d2,ds=[d1,d2]:=by
  obtain⟨p,q,hA,_⟩:=hW
  have hA:DataW.TrodAll enc Tryz.prog W 0 (fun _=>true) true Tryz.f5.params.toList args.toList ds p:=hA
  have:=jk1 hA
  rw [Tryz.params5] at this
  match ds,this with
  |[d1,d2],_=>exact⟨d1,d2,rfl⟩
 obtain⟨d1,d2,rfl⟩:=hlen
 exact law_calls kids full (m:=8) (fun t ht=>by
  rw [Tryz.params5] at ht
  simp at ht
  rcases ht with rfl|rfl <;> exact⟨by kernel_rfl,of_decide_eq_true (by kernel_rfl)⟩) qy5 hval0 rfl hW (by kernel_rfl) Tryz.underlying4 ⟨rfl,rfl,rfl⟩ (vok_of hL)
theorem jl9:Rows.RecordTextsSaid :=
 OpenClaim.holds_of_wide 5 Tryz.f5 rfl rfl rfl rfl rfl rfl rfl ⟨rfl,rfl,rfl,rfl,rfl⟩ rfl rfl rfl rfl rfl (by kernel_rfl) Tryz.func5 (by kernel_rfl)
  (of_decide_eq_true (by kernel_rfl)) (by unfold Func.isWrapper;rw[if_neg (of_decide_eq_false (by kernel_rfl))];exact⟨rfl,rfl⟩)
  (fun os started H enc _=>jb9 os started H enc)
theorem recordTexts_holds:Rows.RecordTextsCardSaid :=
 Claim7.holds_tied_plain_at .later [] [.data, .data, .data, .data, .sentinel, .sentinel, .pinned] true (true, "38d2930a37862379994191a27c91185238faff15fb7b1bda91177b532d0f7795") true
  jl9 (fun _ h=>by cases h) (by kernel_rfl) (fun _ h=>by cases h) recordTexts_row_tie rfl ⟨rfl,rfl⟩ (by kernel_rfl) rfl
  (fun f fn hf hfn=>by
   obtain rfl : f = 5 := Option.some.inj ((show Tryz.prog.funcNamed "hardtack/hardtacklaw05.RecordTexts" = some 5 by kernel_rfl).symm.trans hf) |>.symm
   obtain rfl:fn=Tryz.f5:=(Option.some.inj (Tryz.func5.symm.trans hfn)).symm
   exact⟨by kernel_rfl,fun j t ht=>by
    rw [Tryz.params5] at ht
    rcases j with _|j
    ·obtain rfl:t=44:=by simpa using ht.symm
     exact(show Tryz.prog.wantsStandIn 44=false by kernel_rfl)
    ·
     rcases j with _|j
     ·obtain rfl:t=9:=by simpa using ht.symm
      exact(show Tryz.prog.wantsStandIn 9=false by kernel_rfl)
     ·
      simp at ht⟩)
  (by kernel_rfl)
end Go.Proofs.YtdfdlbnojmlpiaaGreatDoor
