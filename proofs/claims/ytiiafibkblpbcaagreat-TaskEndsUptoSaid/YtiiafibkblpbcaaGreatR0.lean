/-
  Part of the proof: lemmas about the functions that the row calls, and about the steps of a run. Conditions: those ahead of each lemma.
-/
import Derived.ChangeSame
import Derived.ChangeVars
import Derived.JoinedOf
import Derived.RowKit
import Derived.RowKitTokens
import Derived.LaidLaws
import Derived.LaidHandle
import Derived.Stop.Joined
import Derived.SevenTiedAt
import Derived.Deep.DeepHandedRow
import Derived.JoinedCond
import Derived.Test.YtiiafibkblpbcaaGreatM4
import Derived.Test.YtiiafibkblpbcaaGreatB1
import Derived.Test.YtiiafibkblpbcaaGreatB2
set_option linter.unusedVariables false
set_option linter.unusedSimpArgs false
set_option maxRecDepth 100000
set_option maxHeartbeats 64000000
namespace Go.Proofs.YtiiafibkblpbcaaGreat
open Go Go.Eng Go.ChangeShapes Go.WideShapes Go.RowKit
theorem own:ownKnob Tryz.prog.godebug=none:=by kernel_rfl
theorem kids:Kids Tryz.prog (· < Tryz.prog.types.size):=kids_rows (by kernel_rfl) (by kernel_rfl)
theorem full:∀ t e,t<Tryz.prog.types.size->Tryz.prog.underlying t=some (.slice e)->0<Tryz.prog.cellsOf e:=slices_full_of Tryz.prog (by kernel_rfl)
theorem u_int{k:IntKind}{n:Int}(h:(Lit.int k n).wf=true):k.min<=n/\n<=k.max:=by
 simpa[Lit.wf] using h
theorem bulk_part{H:Type}{d:DataW H}{l:List (DataW H)}(h:d ∈ l):Rows.uptoBulk d<=Rows.uptoBulkAll l:=by
 induction l with
 |nil=>cases h
 |cons x r ih =>
  simp only[Rows.uptoBulkAll]
  rcases List.mem_cons.1 h with e|e
  ·subst e;omega
  ·have:=ih e;omega
theorem bulk_one{H:Type}(d:DataW H):1<=Rows.uptoBulk d:=by
 cases d with
 |lit l=>cases l <;> simp[Rows.uptoBulk]
 |_=>simp[Rows.uptoBulk]
theorem bulk_len{H:Type}(l:List (DataW H)):l.length<=Rows.uptoBulkAll l:=by
 induction l with
 |nil=>simp[Rows.uptoBulkAll]
 |cons x r ih=>have:=bulk_one x;simp only[Rows.uptoBulkAll,List.length_cons];omega
theorem bulks{H:Type}:Blk (Rows.uptoBulk (H:=H)) where
 str b:=by simp[Rows.uptoBulk]
 slice l r d hd:=by have:=bulk_part hd;simp only[Rows.uptoBulk];omega
 len l r:=by have:=bulk_len l;simp only[Rows.uptoBulk];omega
 agg l d hd:=by have:=bulk_part hd;simp only[Rows.uptoBulk];omega
theorem FitD.ds{N:Nat}{x y:DV}(h:DS x y):FitD N x->FitD N y:=by
 induction h with
 |refl x=>exact id
 |bt=>exact fun _=>by constructor
 |bf=>exact fun _=>by constructor
 |tb=>exact fun _=>by constructor
 |fb=>exact fun _=>by constructor
 |sl b n sz f g hl _ ih =>
  intro h
  cases h with
  |sl _ _ _ _ h1 h2 =>
   refine .sl _ _ _ _ h1 fun i hi d hd=>?_
   obtain⟨j,hj,rfl⟩:=List.mem_iff_getElem.1 hd
   have hl:=hl i hi
   exact ih i j ((f i)[j]) _ hi (List.getElem?_eq_getElem (by omega)) (List.getElem?_eq_getElem hj) (h2 i hi _ (List.getElem_mem _))
 |none b sz sz' f g=>exact fun _=>.sl _ _ _ _ (Nat.zero_le _) fun i hi=>absurd hi (Nat.not_lt_zero _)
theorem DT.slq_inv{P:Program}{t:TypeId}{ds:List DV}{e:TypeId}(h:DT P t ds)(hu:P.underlying t=some (.slice e)):∃ nil n f,ds=[.sl nil n (P.cellsOf e) f]/\(nil=true->n=0)/\∀ i,i<n->DT P e (f i):=by
 cases h with
 |nil _ e' h1=>rw [hu] at h1;cases h1;exact ⟨true,0,_,rfl,fun _=>rfl,fun i hi=>absurd hi (by omega)⟩
 |sl _ e' n f h1 h2 h3=>rw [hu] at h1;cases h1;exact ⟨false,n,f,rfl,(fun h=>by cases h),h3⟩
 |_=>simp_all
theorem stq_of{ds:List DV}(h:DT Tryz.prog 41 ds):∃ (b:Bool) (l:List (List UInt8)) (d:DV),ds=[d]/\DS d (.sl b l.length 1 (strs l))/\(b=true->l.length=0):=by
 obtain⟨z,n,f,rfl,hz,hf⟩:=DT.slq_inv h Tryz.underlying41
 have cs:Tryz.prog.cellsOf 9=1:=by kernel_rfl
 let g:Nat->List UInt8:=fun i=>if hi:i<n then ((hf i hi).str_inv Tryz.underlying9).choose else []
 have hg:∀ i (hi:i<n),f i=[.str (g i)]:=fun i hi=>by
  have:=((hf i hi).str_inv Tryz.underlying9).choose_spec.1
  simpa only[g,hi,dif_pos] using this
 refine⟨z,(List.range n).map g,_,rfl,?_,fun h=>by rw[List.length_map,List.length_range];exact hz h⟩
 rw[cs,List.length_map,List.length_range]
 refine .rows fun i hi=>?_
 have:strs ((List.range n).map g) i=[.str (g i)]:=by unfold strs;simp[hi]
 rw[this,hg i hi]
 exact DSL.refl _
structure Pu.Rd(p:Pu):Prop where
 ty:0<=p.ty/\p.ty<=65535
 ttl:0<=p.ttl/\p.ttl<=4294967295
 z:p.z=true->p.data.length=0
theorem pu_of{ds:List DV}(h:DT Tryz.prog 127 ds):∃ q:Pu,DSL ds q.enc/\q.Rd:=by
 have c1:Tryz.prog.cellsOf 9=1:=by kernel_rfl
 have c2:Tryz.prog.cellsOf 25=1:=by kernel_rfl
 have c3:Tryz.prog.cellsOf 47=1:=by kernel_rfl
 have c4:Tryz.prog.cellsOf 41=1:=by kernel_rfl
 have c5:Tryz.prog.cellsOf 123=1:=by kernel_rfl
 have c7:Tryz.prog.cellsOf 2=1:=by kernel_rfl
 have c8:Tryz.prog.cellsOf 49=4:=by kernel_rfl
 obtain⟨hl,hf⟩:=h.struct_inv Tryz.underlying127
 have cs:Tryz.prog.cellsOf 127=6:=by kernel_rfl
 rw [cs] at hl
 match ds,hl with
 |[a0,a1,a2,a3,a4,a5],_ =>
  simp [c5,c7,c8] at hf
  obtain⟨ks,k4,k5⟩:=hf
  obtain⟨_,hf⟩:=ks.struct_inv Tryz.underlying49
  simp [c1,c2,c3,c4] at hf
  obtain⟨k0,k1,k2,k3⟩:=hf
  obtain⟨n0,e0,_⟩:=k0.str_inv Tryz.underlying9
  obtain⟨n1,e1,w1⟩:=k1.int_inv Tryz.underlying25
  obtain⟨n2,e2,w2⟩:=k2.int_inv Tryz.underlying47
  obtain⟨b,l,d,e3,h3,hz⟩:=stq_of k3
  obtain⟨n4,e4,w4⟩:=k4.int_inv Tryz.underlying123
  obtain⟨n5,e5,w5⟩:=k5.int_inv Tryz.underlying2
  simp only [List.cons.injEq,and_true] at e0 e1 e2 e3 e4 e5
  subst e0 e1 e2 e3 e4 e5
  exact⟨⟨n0,n1,n2,b,l,n4,n5⟩,⟨.refl _,.refl _,.refl _,h3,.refl _,.refl _,trivial⟩,⟨u_int w1,u_int w2,hz⟩⟩
theorem pus_of{ds:List DV}(h:DT Tryz.prog 22 ds):∃ (b:Bool) (l:List Pu) (d:DV),ds=[d]/\DS d (pusD b l)/\(∀ a ∈ l,a.Rd):=by
 obtain⟨z,n,f,rfl,_,hf⟩:=DT.slq_inv h Tryz.underlying22
 have cs:Tryz.prog.cellsOf 127=6:=by kernel_rfl
 let g:Nat->Pu:=fun i=>if hi:i<n then (pu_of (hf i hi)).choose else default
 have hg:∀ i (hi:i<n),DSL (f i) (g i).enc/\(g i).Rd:=fun i hi=>by
  have:=(pu_of (hf i hi)).choose_spec
  simpa only[g,hi,dif_pos] using this
 refine⟨z,(List.range n).map g,_,rfl,?_,fun a ha=>?_⟩
 ·rw[cs]
  unfold pusD
  rw[List.length_map,List.length_range]
  refine .rows fun i hi=>?_
  have:((List.range n).map g).getD i default=g i:=by simp[List.getD,hi]
  rw[this]
  exact(hg i hi).1
 ·obtain⟨i,hi,rfl⟩:=List.mem_map.1 ha
  exact(hg i (List.mem_range.1 hi)).2
theorem ints_of{ds:List DV}(h:DT Tryz.prog 23 ds):∃ (b:Bool) (l:List Int) (d:DV),ds=[d]/\DS d (.sl b l.length 1 (jg l)):=by
 obtain⟨z,n,f,rfl,_,hf⟩:=DT.slq_inv h Tryz.underlying23
 have cs:Tryz.prog.cellsOf 47=1:=by kernel_rfl
 let g:Nat->Int:=fun i=>if hi:i<n then ((hf i hi).int_inv Tryz.underlying47).choose else 0
 have hg:∀ i (hi:i<n),f i=[.int .u32 (g i)]:=fun i hi=>by
  have:=((hf i hi).int_inv Tryz.underlying47).choose_spec.1
  simpa only[g,hi,dif_pos] using this
 refine⟨z,(List.range n).map g,_,rfl,?_⟩
 rw[cs,List.length_map,List.length_range]
 refine .rows fun i hi=>?_
 have:jg ((List.range n).map g) i=[.int .u32 (g i)]:=by unfold jg;simp[List.getD,hi]
 rw[this,hg i hi]
 exact DSL.refl _
theorem qst_of{ds:List DV}(h:DT Tryz.prog 27 ds):∃ q:Q,ds=[.str q.nm,.int .u16 q.ty,.int .u16 q.cl]:=by
 have c1:Tryz.prog.cellsOf 9=1:=by kernel_rfl
 have c2:Tryz.prog.cellsOf 25=1:=by kernel_rfl
 have c3:Tryz.prog.cellsOf 24=1:=by kernel_rfl
 obtain⟨hl,hf⟩:=h.struct_inv Tryz.underlying27
 have cs:Tryz.prog.cellsOf 27=3:=by kernel_rfl
 rw [cs] at hl
 match ds,hl with
 |[a0,a1,a2],_ =>
  simp [c1,c2,c3] at hf
  obtain⟨k0,k1,k2⟩:=hf
  obtain⟨n0,e0,_⟩:=k0.str_inv Tryz.underlying9
  obtain⟨n1,e1,_⟩:=k1.int_inv Tryz.underlying25
  obtain⟨n2,e2,_⟩:=k2.int_inv Tryz.underlying24
  simp only [List.cons.injEq,and_true] at e0 e1 e2
  subst e0 e1 e2
  exact⟨⟨n0,n1,n2⟩,rfl⟩
theorem pus_fit{z:Bool}{L:List Pu}{d:DV}(hd:DS d (pusD z L))(hin:∀ a ∈ L,a.Rd){N:Nat}(hN:N<=1048576)(hf:FitD N d):L.length<=1048576/\∀ p ∈ L,p.Ok:=by
 have f3:=FitD.ds hd hf
 unfold pusD at f3
 refine⟨?_,fun p hp=>?_⟩
 ·cases f3 with
  |sl _ _ _ _ h4 _=>omega
 ·cases f3 with
  |sl _ _ _ _ _ h4 =>
   have hr:=hin p hp
   refine⟨hr.ty,hr.z,hr.ttl,fun x hx=>?_⟩
   obtain⟨i,hi,rfl⟩:=List.mem_iff_getElem.1 hp
   have h5:=h4 i hi (.sl (L[i]).z (L[i]).data.length 1 (strs (L[i]).data)) (by show _ ∈ (L.getD i default).enc;rw[List.getD_eq_getElem?_getD,List.getElem?_eq_getElem hi];simp[Pu.enc])
   cases h5 with
   |sl _ _ _ _ _ h6 =>
    obtain⟨j,hj,rfl⟩:=List.mem_iff_getElem.1 hx
    have h7:=h6 j hj (.str ((L[i]).data[j])) (by unfold strs;rw[List.getElem?_eq_getElem hj];simp)
    cases h7 with
    |str _ hs=>omega
end Go.Proofs.YtiiafibkblpbcaaGreat
