/-
  IdealOne returns true at every input and leaves its arguments as they read. Conditions: none.
-/
import Derived.ChangeSame
import Derived.ChangeVars
import Derived.JoinedOf
import Derived.RowKit
import Derived.RowKitTokens
import Derived.LaidLaws
import Derived.LaidHandle
import Derived.Stop.Joined
import Derived.SevenTiedAt
import Derived.Test.YtnfoihdifohkeaaM4
import Derived.Test.YtnfoihdifohkeaaB1
import Derived.Test.YtnfoihdifohkeaaB3
set_option linter.unusedVariables false
set_option linter.unusedSimpArgs false
namespace Go.Proofs.Ytnfoihdifohkeaa
open Go Go.Eng Go.ChangeShapes Go.WideShapes Go.RowKit
theorem own:ownKnob Try.prog.godebug=none:=by kernel_rfl
theorem kids:Kids Try.prog (· < Try.prog.types.size):=kids_rows (by kernel_rfl) (by kernel_rfl)
theorem full:∀ t e,t<Try.prog.types.size→Try.prog.underlying t=some (.slice e)→0<Try.prog.cellsOf e:=slices_full_of Try.prog (by kernel_rfl)
theorem u_int{k:IntKind}{n:Int}(h:(Lit.int k n).wf=true):k.min≤n∧n≤k.max:=by
 simpa[Lit.wf] using h
end Go.Proofs.Ytnfoihdifohkeaa
namespace Go.Proofs.Ytnfoihdifohkeaa
open Go Go.Eng Go.ChangeShapes Go.WideShapes Go.RowKit
theorem DT.sl_inv2{P:Program}{t:TypeId}{ds:List DV}{e:TypeId}(h:DT P t ds)(hu:P.underlying t=some (.slice e)):∃ nil n f,ds=[.sl nil n (P.cellsOf e) f]∧(nil=true→n=0)∧∀ i,i<n→DT P e (f i):=by
 cases h with
 |nil _ e' h1=>rw [hu] at h1;cases h1;exact ⟨true,0,_,rfl,fun _=>rfl,fun i hi=>absurd hi (by omega)⟩
 |sl _ e' n f h1 h2 h3=>rw [hu] at h1;cases h1;exact ⟨false,n,f,rfl,(fun h=>by cases h),h3⟩
 |_=>simp_all
set_option maxRecDepth 100000 in
theorem rr_of{ds:List DV}(h:DT Try.prog 56 ds):∃ q:RR,ds=q.enc∧q.Ok:=by
 obtain⟨hl,hf⟩:=h.struct_inv Try.underlying56
 have cs:Try.prog.cellsOf 56=5:=by kernel_rfl
 rw [cs] at hl
 match ds,hl with
 |[a0,a1,a2,a3,a4],_ =>
  have c1:Try.prog.cellsOf 9=1:=by kernel_rfl
  have c2:Try.prog.cellsOf 27=1:=by kernel_rfl
  have c3:Try.prog.cellsOf 26=1:=by kernel_rfl
  have c4:Try.prog.cellsOf 35=1:=by kernel_rfl
  simp [c1,c2,c3,c4] at hf
  obtain⟨k0,k1,k2,k3,k4⟩:=hf
  obtain⟨n0,e0,q0⟩:=k0.str_inv Try.underlying9
  obtain⟨n1,e1,w1⟩:=k1.int_inv Try.underlying27
  obtain⟨n2,e2,w2⟩:=k2.int_inv Try.underlying26
  obtain⟨n3,e3,w3⟩:=k3.int_inv Try.underlying35
  obtain⟨n4,e4,q4⟩:=k4.str_inv Try.underlying9
  simp only [List.cons.injEq,and_true] at e0 e1 e2 e3 e4
  subst e0 e1 e2 e3 e4
  exact⟨⟨n0,n1,n2,n3,n4⟩,rfl,⟨u_int w1,u_int w2,u_int w3⟩⟩
theorem rrs_of{ds:List DV}(h:DT Try.prog 47 ds):∃ (b:Bool) (l:List RR) (d:DV),ds=[d]∧DS d (rrsD b l)∧(∀ a ∈ l,a.Ok):=by
 obtain⟨z,n,f,rfl,hz,hf⟩:=DT.sl_inv2 h Try.underlying47
 have cs:Try.prog.cellsOf 56=5:=by kernel_rfl
 let g:Nat→RR:=fun i=>if hi:i<n then (rr_of (hf i hi)).choose else default
 have hg:∀ i (hi:i<n),f i=(g i).enc∧(g i).Ok:=fun i hi=>by
  have:=(rr_of (hf i hi)).choose_spec
  simpa only[g,hi,dif_pos] using this
 refine⟨z,(List.range n).map g,_,rfl,?_,fun a ha=>?_⟩
 ·rw[cs]
  unfold rrsD
  rw[List.length_map,List.length_range]
  refine .rows fun i hi=>?_
  have:((List.range n).map g).getD i default=g i:=by simp[List.getD,hi]
  rw[this,(hg i hi).1]
  exact DSL.refl _
 ·obtain⟨i,hi,rfl⟩:=List.mem_map.1 ha
  exact(hg i (List.mem_range.1 hi)).2
end Go.Proofs.Ytnfoihdifohkeaa
namespace Go.Proofs.Ytnfoihdifohkeaa
open Go Go.Eng Go.ChangeShapes Go.WideShapes Go.RowKit
theorem DT.sl_inv3{P:Program}{t:TypeId}{ds:List DV}{e:TypeId}(h:DT P t ds)(hu:P.underlying t=some (.slice e)):∃ nil n f,ds=[.sl nil n (P.cellsOf e) f]∧n≤9223372036854775807∧∀ i,i<n→DT P e (f i):=by
 cases h with
 |nil _ e' h1=>rw [hu] at h1;cases h1;exact ⟨true,0,_,rfl,Nat.zero_le _,fun i hi=>absurd hi (by omega)⟩
 |sl _ e' n f h1 h2 h3=>rw [hu] at h1;cases h1;exact ⟨false,n,f,rfl,(by unfold maxLen at h2;omega),h3⟩
 |_=>simp_all
set_option maxRecDepth 100000 in
theorem qst_of{ds:List DV}(h:DT Try.prog 29 ds):∃ q:Q,ds=q.enc:=by
 obtain⟨hl,hf⟩:=h.struct_inv Try.underlying29
 have cs:Try.prog.cellsOf 29=3:=by kernel_rfl
 rw [cs] at hl
 match ds,hl with
 |[a0,a1,a2],_ =>
  have c1:Try.prog.cellsOf 9=1:=by kernel_rfl
  have c2:Try.prog.cellsOf 27=1:=by kernel_rfl
  have c3:Try.prog.cellsOf 26=1:=by kernel_rfl
  simp [c1,c2,c3] at hf
  obtain⟨k0,k1,k2⟩:=hf
  obtain⟨n0,e0,q0⟩:=k0.str_inv Try.underlying9
  obtain⟨n1,e1,w1⟩:=k1.int_inv Try.underlying27
  obtain⟨n2,e2,w2⟩:=k2.int_inv Try.underlying26
  simp only [List.cons.injEq,and_true] at e0 e1 e2
  subst e0 e1 e2
  exact⟨⟨n0,n1,n2⟩,rfl⟩
set_option maxRecDepth 100000 in
theorem zone_of{ds:List DV}(h:DT Try.prog 49 ds):∃ z:Zo,DSL ds z.enc:=by
 obtain⟨hl,hf⟩:=h.struct_inv Try.underlying49
 have cs:Try.prog.cellsOf 49=2:=by kernel_rfl
 rw [cs] at hl
 match ds,hl with
 |[a0,a1],_ =>
  have c1:Try.prog.cellsOf 9=1:=by kernel_rfl
  have c2:Try.prog.cellsOf 47=1:=by kernel_rfl
  simp [c1,c2] at hf
  obtain⟨k0,k1⟩:=hf
  obtain⟨n0,e0,q0⟩:=k0.str_inv Try.underlying9
  obtain⟨b,l,d,e1,hd,_⟩:=rrs_of k1
  simp only [List.cons.injEq,and_true] at e0 e1
  subst e0 e1
  exact⟨⟨n0,b,l⟩,.refl _,hd,trivial⟩
theorem zones_of{ds:List DV}(h:DT Try.prog 22 ds):∃ (b:Bool) (l:List Zo) (d:DV),ds=[d]∧DS d (zonesD b l):=by
 obtain⟨z,n,f,rfl,hn,hf⟩:=DT.sl_inv3 h Try.underlying22
 have cs:Try.prog.cellsOf 49=2:=by kernel_rfl
 let g:Nat→Zo:=fun i=>if hi:i<n then (zone_of (hf i hi)).choose else default
 have hg:∀ i (hi:i<n),DSL (f i) (g i).enc:=fun i hi=>by
  have:=(zone_of (hf i hi)).choose_spec
  simpa only[g,hi,dif_pos] using this
 refine⟨z,(List.range n).map g,_,rfl,?_⟩
 rw[cs]
 unfold zonesD
 rw[List.length_map,List.length_range]
 refine .rows fun i hi=>?_
 have:((List.range n).map g).getD i default=g i:=by simp[List.getD,hi]
 rw[this]
 exact hg i hi
theorem ints_of{ds:List DV}(h:DT Try.prog 57 ds):∃ (b:Bool) (l:List Int) (d:DV),ds=[d]∧DS d (.sl b l.length 1 (fun j=>[.int .i64 (l.getD j 0)]))∧l.length≤9223372036854775807:=by
 obtain⟨z,n,f,rfl,hn,hf⟩:=DT.sl_inv3 h Try.underlying57
 have cs:Try.prog.cellsOf 3=1:=by kernel_rfl
 let g:Nat→Int:=fun i=>if hi:i<n then ((hf i hi).int_inv Try.underlying3).choose else 0
 have hg:∀ i (hi:i<n),f i=[.int .i64 (g i)]:=fun i hi=>by
  have:=((hf i hi).int_inv Try.underlying3).choose_spec.1
  simpa only[g,hi,dif_pos] using this
 refine⟨z,(List.range n).map g,_,rfl,?_,by rw[List.length_map,List.length_range];exact hn⟩
 rw[cs,List.length_map,List.length_range]
 refine .rows fun i hi=>?_
 have:((List.range n).map g).getD i 0=g i:=by simp[List.getD,hi]
 rw[this,hg i hi]
 exact DSL.refl _
set_option maxRecDepth 100000 in
theorem host_of{ds:List DV}(h:DT Try.prog 59 ds):∃ a:Int × Bool × List Int,DSL ds (hostE a)∧a.2.2.length≤9223372036854775807:=by
 obtain⟨hl,hf⟩:=h.struct_inv Try.underlying59
 have cs:Try.prog.cellsOf 59=2:=by kernel_rfl
 rw [cs] at hl
 match ds,hl with
 |[a0,a1],_ =>
  have c1:Try.prog.cellsOf 35=1:=by kernel_rfl
  have c2:Try.prog.cellsOf 57=1:=by kernel_rfl
  simp [c1,c2] at hf
  obtain⟨k0,k1⟩:=hf
  obtain⟨n0,e0,q0⟩:=k0.int_inv Try.underlying35
  obtain⟨b,l,d,e1,hd,hl⟩:=ints_of k1
  simp only [List.cons.injEq,and_true] at e0 e1
  subst e0 e1
  exact⟨(n0,b,l),⟨.refl _,hd,trivial⟩,hl⟩
theorem hosts_of{ds:List DV}(h:DT Try.prog 23 ds):∃ (b:Bool) (l:List (Int × Bool × List Int)) (d:DV),ds=[d]∧DS d (hostsD b l)∧∀ a ∈ l,a.2.2.length≤9223372036854775807:=by
 obtain⟨z,n,f,rfl,hn,hf⟩:=DT.sl_inv3 h Try.underlying23
 have cs:Try.prog.cellsOf 59=2:=by kernel_rfl
 let g:Nat→Int × Bool × List Int:=fun i=>if hi:i<n then (host_of (hf i hi)).choose else default
 have hg:∀ i (hi:i<n),DSL (f i) (hostE (g i))∧(g i).2.2.length≤9223372036854775807:=fun i hi=>by
  have:=(host_of (hf i hi)).choose_spec
  simpa only[g,hi,dif_pos] using this
 refine⟨z,(List.range n).map g,_,rfl,?_,fun a ha=>?_⟩
 ·rw[cs]
  unfold hostsD
  rw[List.length_map,List.length_range]
  refine .rows fun i hi=>?_
  have:((List.range n).map g).getD i default=g i:=by simp[List.getD,hi]
  rw[this]
  exact(hg i hi).1
 ·obtain⟨i,hi,rfl⟩:=List.mem_map.1 ha
  exact(hg i (List.mem_range.1 hi)).2
set_option maxRecDepth 100000 in
theorem forest_of{ds:List DV}(h:DT Try.prog 25 ds):∃ f:Fo,AEq (.agg (ds.map .d)) f.V∧f.Len:=by
 obtain⟨hl,hf⟩:=h.struct_inv Try.underlying25
 have cs:Try.prog.cellsOf 25=2:=by kernel_rfl
 rw [cs] at hl
 match ds,hl with
 |[a0,a1],_ =>
  have c1:Try.prog.cellsOf 22=1:=by kernel_rfl
  have c2:Try.prog.cellsOf 23=1:=by kernel_rfl
  simp [c1,c2] at hf
  obtain⟨k0,k1⟩:=hf
  obtain⟨b,l,d,e0,hd⟩:=zones_of k0
  obtain⟨b',l',d',e1,hd',hl'⟩:=hosts_of k1
  simp only [List.cons.injEq,and_true] at e0 e1
  subst e0 e1
  exact⟨⟨b,l,b',l'⟩,AEq.aggL ⟨.d hd,.d hd',trivial⟩,hl'⟩
end Go.Proofs.Ytnfoihdifohkeaa
namespace Go.Proofs.Ytnfoihdifohkeaa
open Go Go.Eng Go.ChangeShapes Go.WideShapes Go.RowKit
theorem idealone_contract(dss:List (List DV))(h:DTs Try.prog Try.f3.params.toList dss):FnOk Try.prog 3 (argsSV Try.prog Try.f3.params.toList dss) (.d (.bool true)):=by
 rw [Try.params3] at h ⊢
 match dss,h with
 |[a0,a1],⟨h0,h1,_⟩ =>
  obtain⟨f,hf,hl⟩:=forest_of h0
  obtain⟨q,rfl⟩:=qst_of h1
  have ha2:argsSV Try.prog #[25,29].toList [a0,q.enc]=[.agg (a0.map .d),.agg (q.enc.map .d)]:=by
   simp[argsSV,argSV,oneSV,Try.underlying25,Try.underlying29]
  rw[ha2]
  exact(idealone_ok f hl q).convA ⟨hf,.refl _,True.intro⟩
set_option maxRecDepth 100000 in
theorem idealone_lifted(os:Os)(started:os.Started)(H:Type)(enc:TypeId × Value→H) :
 ReturnsInHanded {} Try.checked os 3 .any (Rows.idealOneSpec.pre6 enc Try.prog Try.f3 [] false)
  (Rows.idealOneSpec.post enc Try.prog Try.f3 false true false false):=by
 refine returnsInHanded_of_change (C:=Try.checked) own started (by kernel_rfl) Try.func3
  (ChangeSpec.witness6 (enc:=enc) (C:=Try.checked) (os:=os) false ⟨#[],#[.agg #[.slice none 0 0,.slice none 0 0],.agg #[.string ⟨#[]⟩,.int .u16 0,.int .u16 0]],[]⟩ 8 (by kernel_rfl) (by kernel_rfl) (by kernel_rfl) (by kernel_rfl) (by kernel_rfl)) ?_
 intro W base args ds gs before hval0 hW _ _
 have hlen:∃ d1 d2,ds=[d1,d2]:=by
  obtain⟨p,q,hA,_⟩:=hW
  have hA:DataW.TrodAll enc Try.prog W 0 (fun _=>true) true Try.f3.params.toList args.toList ds p:=hA
  have:=trodAll_len hA
  rw [Try.params3] at this
  match ds,this with
  |[d1,d2],_=>exact⟨d1,d2,rfl⟩
 obtain⟨d1,d2,rfl⟩:=hlen
 exact law_calls kids full (m:=8) (fun t ht=>by
  rw [Try.params3] at ht
  simp at ht
  rcases ht with rfl|rfl <;> exact⟨by kernel_rfl,of_decide_eq_true (by kernel_rfl)⟩) idealone_contract hval0 rfl hW (by kernel_rfl) Try.underlying4 ⟨rfl,rfl,rfl⟩
theorem idealone_holds:Rows.IdealOneSaid :=
 OpenClaim.holds_of_wide 3 Try.f3 rfl rfl rfl rfl rfl rfl rfl ⟨rfl,rfl,rfl,rfl,rfl⟩ rfl rfl rfl rfl rfl (by kernel_rfl) Try.func3 (by kernel_rfl)
  (of_decide_eq_true (by kernel_rfl)) (by unfold Func.isWrapper;rw[if_neg (of_decide_eq_false (by kernel_rfl))];exact⟨rfl,rfl⟩)
  (fun os started H enc _=>idealone_lifted os started H enc)
end Go.Proofs.Ytnfoihdifohkeaa
