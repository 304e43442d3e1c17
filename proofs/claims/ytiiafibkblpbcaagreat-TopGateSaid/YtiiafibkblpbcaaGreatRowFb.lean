/-
  TopGate returns true at every input and leaves its arguments as they read.
  Conditions: none.
-/
import Derived.ChangeSame
import Derived.ChangeVars
import Derived.JoinedOf
import Derived.RowKit
import Derived.RowKitTokens
import Derived.LaidLaws
import Derived.LaidHandle
import Derived.Stop.Joined
import Derived.SevenTiedAt
import Derived.Test.YtiiafibkblpbcaaGreatM4
import Derived.Test.YtiiafibkblpbcaaGreatB1
import Derived.Test.YtiiafibkblpbcaaGreatB2
set_option linter.unusedVariables false
set_option linter.unusedSimpArgs false
set_option maxRecDepth 100000
set_option maxHeartbeats 64000000
namespace Go.Proofs.YtiiafibkblpbcaaGreat
open Go Go.Eng Go.ChangeShapes Go.WideShapes Go.RowKit
theorem own:ownKnob Tryz.prog.godebug=none:=by kernel_rfl
theorem kids:Kids Tryz.prog (· < Tryz.prog.types.size):=kids_rows (by kernel_rfl) (by kernel_rfl)
theorem full:∀ t e,t<Tryz.prog.types.size->Tryz.prog.underlying t=some (.slice e)->0<Tryz.prog.cellsOf e:=slices_full_of Tryz.prog (by kernel_rfl)
theorem u_int{k:IntKind}{n:Int}(h:(Lit.int k n).wf=true):k.min<=n/\n<=k.max:=by
 simpa[Lit.wf] using h
theorem DT.sl_inv2{P:Program}{t:TypeId}{ds:List DV}{e:TypeId}(h:DT P t ds)(hu:P.underlying t=some (.slice e)):∃ nil n f,ds=[.sl nil n (P.cellsOf e) f]/\(nil=true->n=0)/\∀ i,i<n->DT P e (f i):=by
 cases h with
 |nil _ e' h1=>rw [hu] at h1;cases h1;exact ⟨true,0,_,rfl,fun _=>rfl,fun i hi=>absurd hi (by omega)⟩
 |sl _ e' n f h1 h2 h3=>rw [hu] at h1;cases h1;exact ⟨false,n,f,rfl,(fun h=>by cases h),h3⟩
 |_=>simp_all
set_option maxRecDepth 100000 in
theorem sm_of{ds:List DV}(h:DT Tryz.prog 334 ds):∃ s:Sm,ds=s.enc:=by
 obtain⟨hl,hf⟩:=h.struct_inv Tryz.underlying334
 have cs:Tryz.prog.cellsOf 334=3:=by kernel_rfl
 rw [cs] at hl
 match ds,hl with
 |[a0,a1,a2],_ =>
  have c1:Tryz.prog.cellsOf 9=1:=by kernel_rfl
  have c3:Tryz.prog.cellsOf 63=1:=by kernel_rfl
  simp [c1,c3] at hf
  obtain⟨k0,k1,k2⟩:=hf
  obtain⟨n0,e0,_⟩:=k0.str_inv Tryz.underlying9
  obtain⟨n1,e1,_⟩:=k1.str_inv Tryz.underlying9
  obtain⟨n2,e2,_⟩:=k2.int_inv Tryz.underlying63
  simp only [List.cons.injEq,and_true] at e0 e1 e2
  subst e0 e1 e2
  exact⟨⟨n0,n1,n2⟩,rfl⟩
theorem sms_of{ds:List DV}(h:DT Tryz.prog 70 ds):∃ (b:Bool) (l:List Sm) (d:DV),ds=[d]/\DS d (smsD b l):=by
 obtain⟨z,n,f,rfl,hz,hf⟩:=DT.sl_inv2 h Tryz.underlying70
 have cs:Tryz.prog.cellsOf 334=3:=by kernel_rfl
 let g:Nat->Sm:=fun i=>if hi:i<n then (sm_of (hf i hi)).choose else default
 have hg:∀ i (hi:i<n),f i=(g i).enc:=fun i hi=>by
  have:=(sm_of (hf i hi)).choose_spec
  simpa only[g,hi,dif_pos] using this
 refine⟨z,(List.range n).map g,_,rfl,?_⟩
 rw[cs]
 unfold smsD
 rw[List.length_map,List.length_range]
 refine .rows fun i hi=>?_
 have:((List.range n).map g).getD i default=g i:=by simp[List.getD,hi]
 rw[this,hg i hi]
 exact DSL.refl _
set_option maxRecDepth 100000 in
theorem hash_of{ds:List DV}(h:DT Tryz.prog 72 ds):∃ hh:Hs,AEqL (ds.map .d) hh.cells:=by
 obtain⟨hl,hf⟩:=h.struct_inv Tryz.underlying72
 have cs:Tryz.prog.cellsOf 72=2:=by kernel_rfl
 rw [cs] at hl
 match ds,hl with
 |[a0,a1],_ =>
  have c1:Tryz.prog.cellsOf 4=1:=by kernel_rfl
  have c3:Tryz.prog.cellsOf 70=1:=by kernel_rfl
  simp [c1,c3] at hf
  obtain⟨k0,k1⟩:=hf
  obtain⟨n0,e0⟩:=k0.bool_inv Tryz.underlying4
  obtain⟨b,l,d,e1,h1⟩:=sms_of k1
  simp only [List.cons.injEq,and_true] at e0 e1
  subst e0 e1
  exact⟨⟨n0,b,l⟩,.refl _,.d h1,True.intro⟩
set_option maxRecDepth 100000 in
theorem lim_of{ds:List DV}(h:DT Tryz.prog 76 ds):∃ l:Lim,ds.map SV.d=l.cells:=by
 obtain⟨hl,hf⟩:=h.struct_inv Tryz.underlying76
 have cs:Tryz.prog.cellsOf 76=5:=by kernel_rfl
 rw [cs] at hl
 match ds,hl with
 |[a0,a1,a2,a3,a4],_ =>
  have c1:Tryz.prog.cellsOf 3=1:=by kernel_rfl
  have c3:Tryz.prog.cellsOf 2=1:=by kernel_rfl
  simp [c1,c3] at hf
  obtain⟨k0,k1,k2,k3,k4⟩:=hf
  obtain⟨n0,e0,_⟩:=k0.int_inv Tryz.underlying3
  obtain⟨n1,e1,_⟩:=k1.int_inv Tryz.underlying2
  obtain⟨n2,e2,_⟩:=k2.int_inv Tryz.underlying3
  obtain⟨n3,e3,_⟩:=k3.int_inv Tryz.underlying3
  obtain⟨n4,e4,_⟩:=k4.int_inv Tryz.underlying3
  simp only [List.cons.injEq,and_true] at e0 e1 e2 e3 e4
  subst e0 e1 e2 e3 e4
  exact⟨⟨n0,n1,n2,n3,n4⟩,rfl⟩
set_option maxRecDepth 100000 in
theorem sec_of{ds:List DV}(h:DT Tryz.prog 74 ds):∃ a b:List UInt8,ds=[.str a,.str b]:=by
 obtain⟨hl,hf⟩:=h.struct_inv Tryz.underlying74
 have cs:Tryz.prog.cellsOf 74=2:=by kernel_rfl
 rw [cs] at hl
 match ds,hl with
 |[a0,a1],_ =>
  have c1:Tryz.prog.cellsOf 9=1:=by kernel_rfl
  simp [c1] at hf
  obtain⟨k0,k1⟩:=hf
  obtain⟨n0,e0,_⟩:=k0.str_inv Tryz.underlying9
  obtain⟨n1,e1,_⟩:=k1.str_inv Tryz.underlying9
  simp only [List.cons.injEq,and_true] at e0 e1
  subst e0 e1
  exact⟨n0,n1,rfl⟩
theorem tg_contract(dss:List (List DV))(h:DTs Tryz.prog Tryz.f7.params.toList dss):FnOk Tryz.prog 7 (k9 Tryz.prog Tryz.f7.params.toList dss) (.d (.bool true)):=by
 rw [Tryz.params7] at h ⊢
 match dss,h with
 |[a0,a1,a2,a3,a4,a5,a6],⟨h0,h1,h2,h3,h4,h5,h6,_⟩ =>
  obtain⟨hh,ha⟩:=hash_of h0
  obtain⟨sn,sw,rfl⟩:=sec_of h1
  obtain⟨l,hl⟩:=lim_of h2
  obtain⟨s,rfl,_⟩:=h3.str_inv Tryz.underlying9
  obtain⟨ad,rfl,_⟩:=h4.int_inv Tryz.underlying47
  obtain⟨nw,rfl,wn⟩:=h5.int_inv Tryz.underlying2
  obtain⟨ct,rfl,wc⟩:=h6.int_inv Tryz.underlying3
  have ha2:k9 Tryz.prog #[72,74,76,9,47,2,3].toList [a0,[.str sn,.str sw],a2,[.str s],[.int .u32 ad],[.int .i64 nw],[.int .i64 ct]]=[.agg (a0.map .d),secV sn sw,.agg (a2.map .d),.d (.str s),.d (.int .u32 ad),.d (.int .i64 nw),.d (.int .i64 ct)]:=by
   simp[k9,argSV,oneSV,secV,Tryz.underlying9,Tryz.underlying72,Tryz.underlying74,Tryz.underlying76,Tryz.underlying47,Tryz.underlying2,Tryz.underlying3]
  rw[ha2,hl]
  exact(fgate_ok hh sn sw l s ad nw ct (u_int wn) (u_int wc)).convA ⟨AEq.aggL ha,.refl _,.refl _,.refl _,.refl _,.refl _,.refl _,True.intro⟩
set_option maxRecDepth 100000 in
theorem tg_lifted(os:Os)(started:os.Started)(H:Type)(enc:TypeId × Value->H) :
 ReturnsInHanded {} Tryz.checked os 7 .any (Rows.topGateSpec.pre6 enc Tryz.prog Tryz.f7 [] false)
  (Rows.topGateSpec.post enc Tryz.prog Tryz.f7 false true false false):=by
 refine returnsInHanded_of_change (C:=Tryz.checked) own started (by kernel_rfl) Tryz.func7
  (ChangeSpec.witness6 (enc:=enc) (C:=Tryz.checked) (os:=os) false ⟨#[],#[.agg #[.bool false,.slice none 0 0],.agg #[.string ⟨#[]⟩,.string ⟨#[]⟩],.agg #[.int .i64 0,.int .i64 0,.int .i64 0,.int .i64 0,.int .i64 0],.string ⟨#[]⟩,.int .u32 0,.int .i64 0,.int .i64 0],[]⟩ 8 (by kernel_rfl) (by kernel_rfl) (by kernel_rfl) (by kernel_rfl) (by kernel_rfl)) ?_
 intro W base args ds gs before hval0 hW _ _
 have hlen:∃ d1 d2 d3 d4 d5 d6 d7,ds=[d1,d2,d3,d4,d5,d6,d7]:=by
  obtain⟨p,q,hA,_⟩:=hW
  have hA:DataW.TrodAll enc Tryz.prog W 0 (fun _=>true) true Tryz.f7.params.toList args.toList ds p:=hA
  have:=qy7 hA
  rw [Tryz.params7] at this
  match ds,this with
  |[d1,d2,d3,d4,d5,d6,d7],_=>exact⟨d1,d2,d3,d4,d5,d6,d7,rfl⟩
 obtain⟨d1,d2,d3,d4,d5,d6,d7,rfl⟩:=hlen
 exact law_calls kids full (m:=8) (fun t ht=>by
  rw [Tryz.params7] at ht
  simp at ht
  rcases ht with rfl|rfl|rfl|rfl|rfl|rfl|rfl <;> exact⟨by kernel_rfl,of_decide_eq_true (by kernel_rfl)⟩) tg_contract hval0 rfl hW (by kernel_rfl) Tryz.underlying4 ⟨rfl,rfl,rfl⟩
theorem topgate_holds:Rows.TopGateSaid :=
 OpenClaim.holds_of_wide 7 Tryz.f7 rfl rfl rfl rfl rfl rfl rfl ⟨rfl,rfl,rfl,rfl,rfl⟩ rfl rfl rfl rfl rfl (by kernel_rfl) Tryz.func7 (by kernel_rfl)
  (of_decide_eq_true (by kernel_rfl)) (by unfold Func.isWrapper;rw[if_neg (of_decide_eq_false (by kernel_rfl))];exact⟨rfl,rfl⟩)
  (fun os started H enc _=>tg_lifted os started H enc)
end Go.Proofs.YtiiafibkblpbcaaGreat
