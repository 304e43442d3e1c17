/-
  IdealAuth returns true at every input and leaves its arguments as they read.
  Conditions: none.
-/
import Derived.ChangeSame
import Derived.ChangeVars
import Derived.JoinedOf
import Derived.RowKit
import Derived.RowKitTokens
import Derived.LaidLaws
import Derived.LaidHandle
import Derived.Stop.Joined
import Derived.SevenTiedAt
import Derived.Test.YtnfoihdifohkeaaGreatM4
import Derived.Test.YtnfoihdifohkeaaGreatB1
import Derived.Test.YtnfoihdifohkeaaGreatB2
import Derived.Test.YtnfoihdifohkeaaGreatB4
set_option linter.unusedVariables false
set_option linter.unusedSimpArgs false
set_option maxRecDepth 100000
set_option maxHeartbeats 64000000
namespace Go.Proofs.YtnfoihdifohkeaaGreat
open Go Go.Eng Go.ChangeShapes Go.WideShapes Go.RowKit
theorem own:ownKnob Tryz.prog.godebug=none:=by kernel_rfl
theorem kids:Kids Tryz.prog (· < Tryz.prog.types.size):=kids_rows (by kernel_rfl) (by kernel_rfl)
theorem full:∀ t e,t<Tryz.prog.types.size->Tryz.prog.underlying t=some (.slice e)->0<Tryz.prog.cellsOf e:=slices_full_of Tryz.prog (by kernel_rfl)
theorem ju8{k:IntKind}{n:Int}(h:(Lit.int k n).wf=true):k.min<=n/\n<=k.max:=by
 simpa[Lit.wf] using h
theorem DT.sl_inv2{P:Program}{t:TypeId}{ds:List DV}{e:TypeId}(h:DT P t ds)(hu:P.underlying t=some (.slice e)):∃ nil n f,ds=[.sl nil n (P.cellsOf e) f]/\(nil=true->n=0)/\∀ i,i<n->DT P e (f i):=by
 cases h with
 |nil _ e' h1=>rw [hu] at h1;cases h1;exact ⟨true,0,_,rfl,fun _=>rfl,fun i hi=>absurd hi (by omega)⟩
 |sl _ e' n f h1 h2 h3=>rw [hu] at h1;cases h1;exact ⟨false,n,f,rfl,(fun h=>by cases h),h3⟩
 |_=>simp_all
set_option maxRecDepth 100000 in
theorem yy5{ds:List DV}(h:DT Tryz.prog 94 ds):∃ q:RR,ds=q.enc/\q.Ok:=by
 obtain⟨hl,hf⟩:=h.struct_inv Tryz.underlying94;have cs:Tryz.prog.cellsOf 94=5:=by kernel_rfl
 rw [cs] at hl;match ds,hl with
 |[a0,a1,a2,a3,a4],_ =>
  have c1:Tryz.prog.cellsOf 9=1:=by kernel_rfl
  have c2:Tryz.prog.cellsOf 35=1:=by kernel_rfl
  have c3:Tryz.prog.cellsOf 34=1:=by kernel_rfl
  have c4:Tryz.prog.cellsOf 44=1:=by kernel_rfl
  simp [c1,c2,c3,c4] at hf
  obtain⟨k0,k1,k2,k3,k4⟩:=hf;obtain⟨n0,e0,q0⟩:=k0.str_inv Tryz.underlying9;obtain⟨n1,e1,w1⟩:=k1.int_inv Tryz.underlying35;obtain⟨n2,e2,w2⟩:=k2.int_inv Tryz.underlying34;obtain⟨n3,e3,w3⟩:=k3.int_inv Tryz.underlying44;obtain⟨n4,e4,q4⟩:=k4.str_inv Tryz.underlying9;simp only [s7,and_true] at e0 e1 e2 e3 e4
  subst e0 e1 e2 e3 e4;exact⟨⟨n0,n1,n2,n3,n4⟩,rfl,⟨ju8 w1,ju8 w2,ju8 w3⟩⟩
theorem xl8{ds:List DV}(h:DT Tryz.prog 38 ds):∃ (b:Bool) (l:List RR) (d:DV),ds=[d]/\DS d (rrsD b l)/\(∀ a ∈ l,a.Ok):=by
 obtain⟨z,n,f,rfl,hz,hf⟩:=DT.sl_inv2 h Tryz.underlying38;have cs:Tryz.prog.cellsOf 94=5:=by kernel_rfl
 let g:Nat->RR:=fun i=>if hi:i<n then (yy5 (hf i hi)).choose else default
 have hg:∀ i (hi:i<n),f i=(g i).enc/\(g i).Ok:=fun i hi=>by
  have:=(yy5 (hf i hi)).choose_spec
  simpa only[g,hi,dif_pos] using this
 refine⟨z,(List.range n).map g,_,rfl,?_,fun a ha=>?_⟩
 ·rw[cs];unfold rrsD
  rw[o4,cx];refine .rows fun i hi=>?_
  have:((List.range n).map g).getD i default=g i:=by simp[List.getD,hi]
  rw[this,(hg i hi).1];exact DSL.refl _
 ·obtain⟨i,hi,rfl⟩:=o5.1 ha;exact(hg i (lu.1 hi)).2
theorem DT.sl_inv3{P:Program}{t:TypeId}{ds:List DV}{e:TypeId}(h:DT P t ds)(hu:P.underlying t=some (.slice e)):∃ nil n f,ds=[.sl nil n (P.cellsOf e) f]/\n<=9223372036854775807/\∀ i,i<n->DT P e (f i):=by
 cases h with
 |nil _ e' h1=>rw [hu] at h1;cases h1;exact ⟨true,0,_,rfl,pu _,fun i hi=>absurd hi (by omega)⟩
 |sl _ e' n f h1 h2 h3=>rw [hu] at h1;cases h1;exact ⟨false,n,f,rfl,(by unfold maxLen at h2;omega),h3⟩
 |_=>simp_all
set_option maxRecDepth 100000 in
theorem xm1{ds:List DV}(h:DT Tryz.prog 37 ds):∃ q:Q,ds=q.enc:=by
 obtain⟨hl,hf⟩:=h.struct_inv Tryz.underlying37;have cs:Tryz.prog.cellsOf 37=3:=by kernel_rfl
 rw [cs] at hl;match ds,hl with
 |[a0,a1,a2],_ =>
  have c1:Tryz.prog.cellsOf 9=1:=by kernel_rfl
  have c2:Tryz.prog.cellsOf 35=1:=by kernel_rfl
  have c3:Tryz.prog.cellsOf 34=1:=by kernel_rfl
  simp [c1,c2,c3] at hf
  obtain⟨k0,k1,k2⟩:=hf;obtain⟨n0,e0,q0⟩:=k0.str_inv Tryz.underlying9;obtain⟨n1,e1,w1⟩:=k1.int_inv Tryz.underlying35;obtain⟨n2,e2,w2⟩:=k2.int_inv Tryz.underlying34;simp only [s7,and_true] at e0 e1 e2
  subst e0 e1 e2;exact⟨⟨n0,n1,n2⟩,rfl⟩
set_option maxRecDepth 100000 in
theorem yt3{ds:List DV}(h:DT Tryz.prog 40 ds):∃ z:Zo,DSL ds z.enc:=by
 obtain⟨hl,hf⟩:=h.struct_inv Tryz.underlying40;have cs:Tryz.prog.cellsOf 40=2:=by kernel_rfl
 rw [cs] at hl;match ds,hl with
 |[a0,a1],_ =>
  have c1:Tryz.prog.cellsOf 9=1:=by kernel_rfl
  have c2:Tryz.prog.cellsOf 38=1:=by kernel_rfl
  simp [c1,c2] at hf
  obtain⟨k0,k1⟩:=hf;obtain⟨n0,e0,q0⟩:=k0.str_inv Tryz.underlying9;obtain⟨b,l,d,e1,hd,_⟩:=xl8 k1;simp only [s7,and_true] at e0 e1
  subst e0 e1;exact⟨⟨n0,b,l⟩,.refl _,hd,trivial⟩
theorem zy4{ds:List DV}(h:DT Tryz.prog 22 ds):∃ (b:Bool) (l:List Zo) (d:DV),ds=[d]/\DS d (jt1 b l):=by
 obtain⟨z,n,f,rfl,hn,hf⟩:=DT.sl_inv3 h Tryz.underlying22;have cs:Tryz.prog.cellsOf 40=2:=by kernel_rfl
 let g:Nat->Zo:=fun i=>if hi:i<n then (yt3 (hf i hi)).choose else default
 have hg:∀ i (hi:i<n),DSL (f i) (g i).enc:=fun i hi=>by
  have:=(yt3 (hf i hi)).choose_spec
  simpa only[g,hi,dif_pos] using this
 refine⟨z,(List.range n).map g,_,rfl,?_⟩;rw[cs];unfold jt1;rw[o4,cx];refine .rows fun i hi=>?_
 have:((List.range n).map g).getD i default=g i:=by simp[List.getD,hi]
 rw[this];exact hg i hi
theorem xj3{ds:List DV}(h:DT Tryz.prog 95 ds):∃ (b:Bool) (l:List Int) (d:DV),ds=[d]/\DS d (.sl b l.length 1 (fun j=>[.int .i64 (l.getD j 0)]))/\l.length<=9223372036854775807:=by
 obtain⟨z,n,f,rfl,hn,hf⟩:=DT.sl_inv3 h Tryz.underlying95;have cs:Tryz.prog.cellsOf 3=1:=by kernel_rfl
 let g:Nat->Int:=fun i=>if hi:i<n then ((hf i hi).int_inv Tryz.underlying3).choose else 0
 have hg:∀ i (hi:i<n),f i=[.int .i64 (g i)]:=fun i hi=>by
  have:=((hf i hi).int_inv Tryz.underlying3).choose_spec.1
  simpa only[g,hi,dif_pos] using this
 refine⟨z,(List.range n).map g,_,rfl,?_,by rw[o4,cx];exact hn⟩
 rw[cs,o4,cx];refine .rows fun i hi=>?_
 have:((List.range n).map g).getD i 0=g i:=by simp[List.getD,hi]
 rw[this,hg i hi];exact DSL.refl _
set_option maxRecDepth 100000 in
theorem yv2{ds:List DV}(h:DT Tryz.prog 97 ds):∃ a:Int × Bool × List Int,DSL ds (jv2 a)/\a.2.2.length<=9223372036854775807:=by
 obtain⟨hl,hf⟩:=h.struct_inv Tryz.underlying97;have cs:Tryz.prog.cellsOf 97=2:=by kernel_rfl
 rw [cs] at hl;match ds,hl with
 |[a0,a1],_ =>
  have c1:Tryz.prog.cellsOf 44=1:=by kernel_rfl
  have c2:Tryz.prog.cellsOf 95=1:=by kernel_rfl
  simp [c1,c2] at hf
  obtain⟨k0,k1⟩:=hf;obtain⟨n0,e0,q0⟩:=k0.int_inv Tryz.underlying44;obtain⟨b,l,d,e1,hd,hl⟩:=xj3 k1;simp only [s7,and_true] at e0 e1
  subst e0 e1;exact⟨(n0,b,l),⟨.refl _,hd,trivial⟩,hl⟩
theorem xd4{ds:List DV}(h:DT Tryz.prog 23 ds):∃ (b:Bool) (l:List (Int × Bool × List Int)) (d:DV),ds=[d]/\DS d (jt7 b l)/\∀ a ∈ l,a.2.2.length<=9223372036854775807:=by
 obtain⟨z,n,f,rfl,hn,hf⟩:=DT.sl_inv3 h Tryz.underlying23;have cs:Tryz.prog.cellsOf 97=2:=by kernel_rfl
 let g:Nat->Int × Bool × List Int:=fun i=>if hi:i<n then (yv2 (hf i hi)).choose else default
 have hg:∀ i (hi:i<n),DSL (f i) (jv2 (g i))/\(g i).2.2.length<=9223372036854775807:=fun i hi=>by
  have:=(yv2 (hf i hi)).choose_spec
  simpa only[g,hi,dif_pos] using this
 refine⟨z,(List.range n).map g,_,rfl,?_,fun a ha=>?_⟩
 ·rw[cs];unfold jt7
  rw[o4,cx];refine .rows fun i hi=>?_
  have:((List.range n).map g).getD i default=g i:=by simp[List.getD,hi]
  rw[this];exact(hg i hi).1
 ·obtain⟨i,hi,rfl⟩:=o5.1 ha;exact(hg i (lu.1 hi)).2
set_option maxRecDepth 100000 in
theorem zv5{ds:List DV}(h:DT Tryz.prog 25 ds):∃ f:Fo,AEq (.agg (ds.map .d)) f.V/\f.Len:=by
 obtain⟨hl,hf⟩:=h.struct_inv Tryz.underlying25;have cs:Tryz.prog.cellsOf 25=2:=by kernel_rfl
 rw [cs] at hl;match ds,hl with
 |[a0,a1],_ =>
  have c1:Tryz.prog.cellsOf 22=1:=by kernel_rfl
  have c2:Tryz.prog.cellsOf 23=1:=by kernel_rfl
  simp [c1,c2] at hf
  obtain⟨k0,k1⟩:=hf;obtain⟨b,l,d,e0,hd⟩:=zy4 k0;obtain⟨b',l',d',e1,hd',hl'⟩:=xd4 k1;simp only [s7,and_true] at e0 e1
  subst e0 e1;exact⟨⟨b,l,b',l'⟩,AEq.aggL ⟨.d hd,.d hd',trivial⟩,hl'⟩
theorem yz5(dss:List (List DV))(h:DTs Tryz.prog Tryz.f5.params.toList dss):FnOk Tryz.prog 5 (up Tryz.prog Tryz.f5.params.toList dss) (.d (.bool true)):=by
 rw [Tryz.params5] at h ⊢;match dss,h with
 |[a0,a1],⟨h0,h1,_⟩ =>
  obtain⟨f,hf,hl⟩:=zv5 h0;obtain⟨q,rfl⟩:=xm1 h1;have ha2:up Tryz.prog #[25,37].toList [a0,q.enc]=[.agg (a0.map .d),.agg (q.enc.map .d)]:=by
   simp[up,ji1,jh5,Tryz.underlying25,Tryz.underlying37]
  rw[ha2];exact(ze2 f hl q).convA ⟨hf,.refl _,True.intro⟩
set_option maxRecDepth 100000 in
theorem yz8(os:Os)(started:os.Started)(H:Type)(enc:TypeId × Value->H) :
 ReturnsInHanded {} Tryz.checked os 5 .any (Rows.idealAuthSpec.pre6 enc Tryz.prog Tryz.f5 [] false)
  (Rows.idealAuthSpec.post enc Tryz.prog Tryz.f5 false true false false):=by
 refine returnsInHanded_of_change (C:=Tryz.checked) own started (by kernel_rfl) Tryz.func5
  (ChangeSpec.witness6 (enc:=enc) (C:=Tryz.checked) (os:=os) false ⟨#[],#[.agg #[.slice none 0 0,.slice none 0 0],.agg #[.string ⟨#[]⟩,.int .u16 0,.int .u16 0]],[]⟩ 8 (by kernel_rfl) (by kernel_rfl) (by kernel_rfl) (by kernel_rfl) (by kernel_rfl)) ?_
 intro W base args ds gs before hval0 hW _ _;have hlen:∃ d1 d2,ds=[d1,d2]:=by
  obtain⟨p,q,hA,_⟩:=hW;have hA:DataW.TrodAll enc Tryz.prog W 0 (fun _=>true) true Tryz.f5.params.toList args.toList ds p:=hA
  have:=jz0 hA
  rw [Tryz.params5] at this;match ds,this with
  |[d1,d2],_=>exact⟨d1,d2,rfl⟩
 obtain⟨d1,d2,rfl⟩:=hlen;exact zv2 kids full (m:=8) (fun t ht=>by
  rw [Tryz.params5] at ht;simp at ht
  rcases ht with rfl|rfl <;> exact⟨by kernel_rfl,of_decide_eq_true (by kernel_rfl)⟩) yz5 hval0 rfl hW (by kernel_rfl) Tryz.underlying4 ⟨rfl,rfl,rfl⟩
theorem idealauth_holds:Rows.IdealAuthSaid :=
 OpenClaim.holds_of_wide 5 Tryz.f5 rfl rfl rfl rfl rfl rfl rfl ⟨rfl,rfl,rfl,rfl,rfl⟩ rfl rfl rfl rfl rfl (by kernel_rfl) Tryz.func5 (by kernel_rfl)
  (of_decide_eq_true (by kernel_rfl)) (by unfold Func.isWrapper;rw[if_neg (of_decide_eq_false (by kernel_rfl))];exact⟨rfl,rfl⟩)
  (fun os started H enc _=>yz8 os started H enc)
end Go.Proofs.YtnfoihdifohkeaaGreat
