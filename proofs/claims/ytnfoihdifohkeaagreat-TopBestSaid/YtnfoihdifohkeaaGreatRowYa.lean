/-
  TopBest returns true at every input and leaves its arguments as they read.
  Conditions: none.
-/
import Derived.ChangeSame
import Derived.ChangeVars
import Derived.JoinedOf
import Derived.RowKit
import Derived.RowKitTokens
import Derived.LaidLaws
import Derived.LaidHandle
import Derived.Stop.Joined
import Derived.SevenTiedAt
import Derived.Test.YtnfoihdifohkeaaGreatM4
import Derived.Test.YtnfoihdifohkeaaGreatB1
import Derived.Test.YtnfoihdifohkeaaGreatB2
import Derived.Test.YtnfoihdifohkeaaGreatB3
set_option linter.unusedVariables false
set_option linter.unusedSimpArgs false
set_option maxRecDepth 100000
namespace Go.Proofs.YtnfoihdifohkeaaGreat
open Go Go.Eng Go.ChangeShapes Go.WideShapes Go.RowKit
theorem own:ownKnob Tryz.prog.godebug=none:=by kernel_rfl
theorem kids:Kids Tryz.prog (· < Tryz.prog.types.size):=kids_rows (by kernel_rfl) (by kernel_rfl)
theorem full:∀ t e,t<Tryz.prog.types.size->Tryz.prog.underlying t=some (.slice e)->0<Tryz.prog.cellsOf e:=slices_full_of Tryz.prog (by kernel_rfl)
theorem xt4{k:IntKind}{n:Int}(h:(Lit.int k n).wf=true):k.min<=n/\n<=k.max:=by
 simpa[Lit.wf] using h
theorem DT.sl_inv2{P:Program}{t:TypeId}{ds:List DV}{e:TypeId}(h:DT P t ds)(hu:P.underlying t=some (.slice e)):∃ nil n f,ds=[.sl nil n (P.cellsOf e) f]/\(nil=true->n=0)/\∀ i,i<n->DT P e (f i):=by
 cases h with
 |nil _ e' h1=>rw [hu] at h1;cases h1;exact ⟨true,0,_,rfl,fun _=>rfl,fun i hi=>absurd hi (by omega)⟩
 |sl _ e' n f h1 h2 h3=>rw [hu] at h1;cases h1;exact ⟨false,n,f,rfl,(fun h=>by cases h),h3⟩
 |_=>simp_all
set_option maxRecDepth 100000 in
theorem ka1{ds:List DV}(h:DT Tryz.prog 94 ds):∃ q:RR,ds=q.enc/\q.Ok:=by
 obtain⟨hl,hf⟩:=h.struct_inv Tryz.underlying94
 have cs:Tryz.prog.cellsOf 94=5:=by kernel_rfl
 rw [cs] at hl
 match ds,hl with
 |[a0,a1,a2,a3,a4],_ =>
  have c1:Tryz.prog.cellsOf 9=1:=by kernel_rfl
  have c2:Tryz.prog.cellsOf 35=1:=by kernel_rfl
  have c3:Tryz.prog.cellsOf 34=1:=by kernel_rfl
  have c4:Tryz.prog.cellsOf 44=1:=by kernel_rfl
  simp [c1,c2,c3,c4] at hf
  obtain⟨k0,k1,k2,k3,k4⟩:=hf
  obtain⟨n0,e0,q0⟩:=k0.str_inv Tryz.underlying9
  obtain⟨n1,e1,w1⟩:=k1.int_inv Tryz.underlying35
  obtain⟨n2,e2,w2⟩:=k2.int_inv Tryz.underlying34
  obtain⟨n3,e3,w3⟩:=k3.int_inv Tryz.underlying44
  obtain⟨n4,e4,q4⟩:=k4.str_inv Tryz.underlying9
  simp only [List.cons.injEq,and_true] at e0 e1 e2 e3 e4
  subst e0 e1 e2 e3 e4
  exact⟨⟨n0,n1,n2,n3,n4⟩,rfl,⟨xt4 w1,xt4 w2,xt4 w3⟩⟩
theorem ka0{ds:List DV}(h:DT Tryz.prog 38 ds):∃ (b:Bool) (l:List RR) (d:DV),ds=[d]/\DS d (rrsD b l)/\(∀ a ∈ l,a.Ok):=by
 obtain⟨z,n,f,rfl,hz,hf⟩:=DT.sl_inv2 h Tryz.underlying38
 have cs:Tryz.prog.cellsOf 94=5:=by kernel_rfl
 let g:Nat->RR:=fun i=>if hi:i<n then (ka1 (hf i hi)).choose else default
 have hg:∀ i (hi:i<n),f i=(g i).enc/\(g i).Ok:=fun i hi=>by
  have:=(ka1 (hf i hi)).choose_spec
  simpa only[g,hi,dif_pos] using this
 refine⟨z,(List.range n).map g,_,rfl,?_,fun a ha=>?_⟩
 ·rw[cs]
  unfold rrsD
  rw[List.length_map,List.length_range]
  refine .rows fun i hi=>?_
  have:((List.range n).map g).getD i default=g i:=by simp[List.getD,hi]
  rw[this,(hg i hi).1]
  exact DSL.refl _
 ·obtain⟨i,hi,rfl⟩:=List.mem_map.1 ha
  exact(hg i (List.mem_range.1 hi)).2
theorem DT.sl_inv3{P:Program}{t:TypeId}{ds:List DV}{e:TypeId}(h:DT P t ds)(hu:P.underlying t=some (.slice e)):∃ nil n f,ds=[.sl nil n (P.cellsOf e) f]/\n<=9223372036854775807/\∀ i,i<n->DT P e (f i):=by
 cases h with
 |nil _ e' h1=>rw [hu] at h1;cases h1;exact ⟨true,0,_,rfl,Nat.zero_le _,fun i hi=>absurd hi (by omega)⟩
 |sl _ e' n f h1 h2 h3=>rw [hu] at h1;cases h1;exact ⟨false,n,f,rfl,(by unfold maxLen at h2;omega),h3⟩
 |_=>simp_all
set_option maxRecDepth 100000 in
theorem zu4{ds:List DV}(h:DT Tryz.prog 40 ds):∃ z:Zo,DSL ds z.enc:=by
 obtain⟨hl,hf⟩:=h.struct_inv Tryz.underlying40
 have cs:Tryz.prog.cellsOf 40=2:=by kernel_rfl
 rw [cs] at hl
 match ds,hl with
 |[a0,a1],_ =>
  have c1:Tryz.prog.cellsOf 9=1:=by kernel_rfl
  have c2:Tryz.prog.cellsOf 38=1:=by kernel_rfl
  simp [c1,c2] at hf
  obtain⟨k0,k1⟩:=hf
  obtain⟨n0,e0,q0⟩:=k0.str_inv Tryz.underlying9
  obtain⟨b,l,d,e1,hd,_⟩:=ka0 k1
  simp only [List.cons.injEq,and_true] at e0 e1
  subst e0 e1
  exact⟨⟨n0,b,l⟩,.refl _,hd,trivial⟩
theorem xi0{ds:List DV}(h:DT Tryz.prog 22 ds):∃ (b:Bool) (l:List Zo) (d:DV),ds=[d]/\DS d (zh9 b l):=by
 obtain⟨z,n,f,rfl,hn,hf⟩:=DT.sl_inv3 h Tryz.underlying22
 have cs:Tryz.prog.cellsOf 40=2:=by kernel_rfl
 let g:Nat->Zo:=fun i=>if hi:i<n then (zu4 (hf i hi)).choose else default
 have hg:∀ i (hi:i<n),DSL (f i) (g i).enc:=fun i hi=>by
  have:=(zu4 (hf i hi)).choose_spec
  simpa only[g,hi,dif_pos] using this
 refine⟨z,(List.range n).map g,_,rfl,?_⟩
 rw[cs]
 unfold zh9
 rw[List.length_map,List.length_range]
 refine .rows fun i hi=>?_
 have:((List.range n).map g).getD i default=g i:=by simp[List.getD,hi]
 rw[this]
 exact hg i hi
theorem xv9{ds:List DV}(h:DT Tryz.prog 95 ds):∃ (b:Bool) (l:List Int) (d:DV),ds=[d]/\DS d (.sl b l.length 1 (fun j=>[.int .i64 (l.getD j 0)]))/\l.length<=9223372036854775807:=by
 obtain⟨z,n,f,rfl,hn,hf⟩:=DT.sl_inv3 h Tryz.underlying95
 have cs:Tryz.prog.cellsOf 3=1:=by kernel_rfl
 let g:Nat->Int:=fun i=>if hi:i<n then ((hf i hi).int_inv Tryz.underlying3).choose else 0
 have hg:∀ i (hi:i<n),f i=[.int .i64 (g i)]:=fun i hi=>by
  have:=((hf i hi).int_inv Tryz.underlying3).choose_spec.1
  simpa only[g,hi,dif_pos] using this
 refine⟨z,(List.range n).map g,_,rfl,?_,by rw[List.length_map,List.length_range];exact hn⟩
 rw[cs,List.length_map,List.length_range]
 refine .rows fun i hi=>?_
 have:((List.range n).map g).getD i 0=g i:=by simp[List.getD,hi]
 rw[this,hg i hi]
 exact DSL.refl _
set_option maxRecDepth 100000 in
theorem xc5{ds:List DV}(h:DT Tryz.prog 97 ds):∃ a:Int × Bool × List Int,DSL ds (xw1 a)/\a.2.2.length<=9223372036854775807:=by
 obtain⟨hl,hf⟩:=h.struct_inv Tryz.underlying97
 have cs:Tryz.prog.cellsOf 97=2:=by kernel_rfl
 rw [cs] at hl
 match ds,hl with
 |[a0,a1],_ =>
  have c1:Tryz.prog.cellsOf 44=1:=by kernel_rfl
  have c2:Tryz.prog.cellsOf 95=1:=by kernel_rfl
  simp [c1,c2] at hf
  obtain⟨k0,k1⟩:=hf
  obtain⟨n0,e0,q0⟩:=k0.int_inv Tryz.underlying44
  obtain⟨b,l,d,e1,hd,hl⟩:=xv9 k1
  simp only [List.cons.injEq,and_true] at e0 e1
  subst e0 e1
  exact⟨(n0,b,l),⟨.refl _,hd,trivial⟩,hl⟩
theorem xn5{ds:List DV}(h:DT Tryz.prog 23 ds):∃ (b:Bool) (l:List (Int × Bool × List Int)) (d:DV),ds=[d]/\DS d (xc4 b l)/\∀ a ∈ l,a.2.2.length<=9223372036854775807:=by
 obtain⟨z,n,f,rfl,hn,hf⟩:=DT.sl_inv3 h Tryz.underlying23
 have cs:Tryz.prog.cellsOf 97=2:=by kernel_rfl
 let g:Nat->Int × Bool × List Int:=fun i=>if hi:i<n then (xc5 (hf i hi)).choose else default
 have hg:∀ i (hi:i<n),DSL (f i) (xw1 (g i))/\(g i).2.2.length<=9223372036854775807:=fun i hi=>by
  have:=(xc5 (hf i hi)).choose_spec
  simpa only[g,hi,dif_pos] using this
 refine⟨z,(List.range n).map g,_,rfl,?_,fun a ha=>?_⟩
 ·rw[cs]
  unfold xc4
  rw[List.length_map,List.length_range]
  refine .rows fun i hi=>?_
  have:((List.range n).map g).getD i default=g i:=by simp[List.getD,hi]
  rw[this]
  exact(hg i hi).1
 ·obtain⟨i,hi,rfl⟩:=List.mem_map.1 ha
  exact(hg i (List.mem_range.1 hi)).2
set_option maxRecDepth 100000 in
theorem xd0{ds:List DV}(h:DT Tryz.prog 25 ds):∃ f:Fo,AEq (.agg (ds.map .d)) f.V/\f.Len:=by
 obtain⟨hl,hf⟩:=h.struct_inv Tryz.underlying25
 have cs:Tryz.prog.cellsOf 25=2:=by kernel_rfl
 rw [cs] at hl
 match ds,hl with
 |[a0,a1],_ =>
  have c1:Tryz.prog.cellsOf 22=1:=by kernel_rfl
  have c2:Tryz.prog.cellsOf 23=1:=by kernel_rfl
  simp [c1,c2] at hf
  obtain⟨k0,k1⟩:=hf
  obtain⟨b,l,d,e0,hd⟩:=xi0 k0
  obtain⟨b',l',d',e1,hd',hl'⟩:=xn5 k1
  simp only [List.cons.injEq,and_true] at e0 e1
  subst e0 e1
  exact⟨⟨b,l,b',l'⟩,AEq.aggL ⟨.d hd,.d hd',trivial⟩,hl'⟩
theorem jr8(dss:List (List DV))(h:DTs Tryz.prog Tryz.f3.params.toList dss):FnOk Tryz.prog 3 (jd7 Tryz.prog Tryz.f3.params.toList dss) (.d (.bool true)):=by
 rw [Tryz.params3] at h ⊢
 match dss,h with
 |[a0,a1],⟨h0,h1,_⟩ =>
  obtain⟨f,hf,hl⟩:=xd0 h0
  obtain⟨n,rfl,_⟩:=h1.str_inv Tryz.underlying9
  have ha2:jd7 Tryz.prog #[25,9].toList [a0,[.str n]]=[.agg (a0.map .d),.d (.str n)]:=by
   simp[jd7,xq2,xl9,Tryz.underlying25,Tryz.underlying9]
  rw[ha2]
  exact(zo7 f hl n).convA ⟨hf,.refl _,True.intro⟩
set_option maxRecDepth 100000 in
theorem yd2(os:Os)(started:os.Started)(H:Type)(enc:TypeId × Value->H) :
 ReturnsInHanded {} Tryz.checked os 3 .any (Rows.topBestSpec.pre6 enc Tryz.prog Tryz.f3 [] false)
  (Rows.topBestSpec.post enc Tryz.prog Tryz.f3 false true false false):=by
 refine returnsInHanded_of_change (C:=Tryz.checked) own started (by kernel_rfl) Tryz.func3
  (ChangeSpec.witness6 (enc:=enc) (C:=Tryz.checked) (os:=os) false ⟨#[],#[.agg #[.slice none 0 0,.slice none 0 0],.string ⟨#[]⟩],[]⟩ 8 (by kernel_rfl) (by kernel_rfl) (by kernel_rfl) (by kernel_rfl) (by kernel_rfl)) ?_
 intro W base args ds gs before hval0 hW _ _
 have hlen:∃ d1 d2,ds=[d1,d2]:=by
  obtain⟨p,q,hA,_⟩:=hW
  have hA:DataW.TrodAll enc Tryz.prog W 0 (fun _=>true) true Tryz.f3.params.toList args.toList ds p:=hA
  have:=ju9 hA
  rw [Tryz.params3] at this
  match ds,this with
  |[d1,d2],_=>exact⟨d1,d2,rfl⟩
 obtain⟨d1,d2,rfl⟩:=hlen
 exact xb5 kids full (m:=8) (fun t ht=>by
  rw [Tryz.params3] at ht
  simp at ht
  rcases ht with rfl|rfl <;> exact⟨by kernel_rfl,of_decide_eq_true (by kernel_rfl)⟩) jr8 hval0 rfl hW (by kernel_rfl) Tryz.underlying4 ⟨rfl,rfl,rfl⟩
theorem topbest_holds:Rows.TopBestSaid :=
 OpenClaim.holds_of_wide 3 Tryz.f3 rfl rfl rfl rfl rfl rfl rfl ⟨rfl,rfl,rfl,rfl,rfl⟩ rfl rfl rfl rfl rfl (by kernel_rfl) Tryz.func3 (by kernel_rfl)
  (of_decide_eq_true (by kernel_rfl)) (by unfold Func.isWrapper;rw[if_neg (of_decide_eq_false (by kernel_rfl))];exact⟨rfl,rfl⟩)
  (fun os started H enc _=>yd2 os started H enc)
end Go.Proofs.YtnfoihdifohkeaaGreat
