/-
  Part of the proof: lemmas about the functions that the row calls, and about the steps of a run. Conditions: those ahead of each lemma.
-/
import Derived.Test.YtiiafibkblpbcaaGreatB2
import Derived.Test.YtiiafibkblpbcaaGreatB1
set_option linter.unusedVariables false
set_option linter.unusedSimpArgs false
set_option maxRecDepth 100000
set_option maxHeartbeats 64000000
namespace Go.Proofs.YtiiafibkblpbcaaGreat
open Go Go.Eng
theorem qn2(z:Zo)(hz:∀ r ∈ z.rrs,r.nm.length<=100000/\r.d.length<=100000)(ks:List KB):COk Tryz.prog 188 [z.V] ks (fun s k=>∃ S N,s = .tup [.agg [.d (.str z.apex),.d (rrsD z.z z.rrs),.map (lenB ks),.map (lenB ks+1)],.d (.bool z.ok)]/\k=appB ks [wx S,ke N .free]) :=
 (COk.frameX (see_ok z hz) [] rfl rfl rfl).imp fun r k ⟨s0,k0,⟨S,N,h1,h2⟩,h3,h4⟩=>by
  refine⟨S,N,?_,?_⟩
  ·rw[h3,h1];rfl
  ·rw[h4,h2]
   show appB ks [KB.mapx _ _ _ (mapM _ (aenc zk intV S)) _,KB.mapx _ _ _ (mapM _ (aenc strK Hd.enc N)) _]=_
   rw[qx5,qy2]
   rfl
def rtS:RR:=⟨[0],6,1,9,[0,0]++List.replicate 20 0⟩
def rtN:RR:=⟨[0],2,1,9,[1,110,0]⟩
def rtA:RR:=⟨[1,97,0],5,1,9,[1,98,0]⟩
def rtZ:Zo:=⟨[0],false,[rtS,rtN,rtA]⟩
theorem rt_ok:rtZ.ok=true:=by kernel_rfl
theorem qi9:∀ r ∈ rtZ.rrs,r.nm.length<=100000/\r.d.length<=100000:=by decide
theorem rt_cut:∀ r ∈ rtZ.rrs,cutZ rtZ.apex r=false:=fun r hr=>by
 have h:(rtZ.rrs.all fun r=>!cutZ rtZ.apex r)=true:=by kernel_rfl
 simpa using List.all_eq_true.1 h r hr
def rtR:List DV:=rtS.enc++(rtN.enc++rtA.enc)
def rtV:SV:=.agg [.d (.str [0]),.d (.sl false 3 5 (qz rtR 5))]
theorem rt_rows:DS (.sl false 3 5 (qz rtR 5)) (rrsD false [rtS,rtN,rtA]):=DS.rows fun i hi=>(match i,hi with
 |0,_=>DSL.refl _
 |1,_=>DSL.refl _
 |2,_=>DSL.refl _)
theorem rt_a:AEq rtV rtZ.V:=AEq.aggL ⟨.refl _,.d rt_rows,trivial⟩
theorem rtcheck':FnOk Tryz.prog 223 [rtZ.V] (.d (.int .i64 0)):=by
 refine qn (TT:=TT) (IN:=qd []) qf qe mixed 1000 Tryz.func223 rfl (qc Tryz.func223 (by kernel_rfl) rfl) rfl 11 (by kernel_rfl) ?_
 conv=>whnf
 refine .rel _ (qn2 rtZ qi9 _) (fun r ks' hR=>?_)
 obtain⟨S,N,rfl,rfl⟩:=hR
 rw[rt_ok]
 conv=>whnf
 refine brF rfl ?_
 conv=>whnf
theorem rtcheck:FnOk Tryz.prog 223 [rtV] (.d (.int .i64 0)):=rtcheck'.convA ⟨rt_a,trivial⟩
theorem rtcuts':FnOk Tryz.prog 141 [rtZ.V] nilS:=by
 refine qn (TT:=TT) (IN:=qd []) qf qe mixed 1000 Tryz.func141 rfl (qc Tryz.func141 (by kernel_rfl) rfl) rfl 12 (by kernel_rfl) ?_
 conv=>whnf
 refine .rel _ (qn2 rtZ qi9 _) (fun r ks' hR=>?_)
 obtain⟨S,N,rfl,rfl⟩:=hR
 rw[rt_ok]
 conv=>whnf
 refine brF rfl ?_
 conv=>whnf
 refine .rel _ (COk.frameX (cuts_nil rtZ S N (by decide) rt_cut) [3,1,2] rfl rfl (by rw[qd9];rfl)) (fun x ks' hR=>?_)
 obtain⟨s0,k0,⟨rfl,rfl⟩,rfl,rfl⟩:=hR
 conv=>whnf
 repeat'(first|exact ⟨⟩|exact rfl|exact .inr rfl|exact .inl rfl|exact fun _ _=>rfl|exact noI|apply And.intro)
theorem rtcuts:FnOk Tryz.prog 141 [rtV] nilS:=rtcuts'.convA ⟨rt_a,trivial⟩
theorem rtcut'(n:List UInt8):FnOk Tryz.prog 226 [rtZ.V,.d (.str n)] (.tup [.agg [.d (.str []),.d (.int .u16 0),.d (.int .u32 0),nilS],.d (.int .i64 3)]):=by
 refine qn (TT:=TT) (IN:=qd []) qf qe mixed 1000 Tryz.func226 rfl (qc Tryz.func226 (by kernel_rfl) rfl) rfl 51 (by kernel_rfl) ?_
 conv=>whnf
 refine .rel _ (qn2 rtZ qi9 _) (fun r ks' hR=>?_)
 obtain⟨S,N,rfl,rfl⟩:=hR
 rw[rt_ok]
 conv=>whnf
 refine brF rfl ?_
 conv=>whnf
 refine .rel _ (COk.frameX (cuts_nil rtZ S N (by decide) rt_cut) [4,2,3] rfl rfl (by rw[qd9];rfl)) (fun x ks' hR=>?_)
 obtain⟨s0,k0,⟨rfl,rfl⟩,rfl,rfl⟩:=hR
 conv=>whnf
 refine .once ?_
 conv=>whnf
 refine brF rfl ?_
 conv=>whnf
 refine brT rfl ?_
 conv=>whnf
 repeat'(first|exact ⟨⟩|exact rfl|exact .inr rfl|exact .inl rfl|exact fun _ _=>rfl|exact noI|apply And.intro)
theorem rtcut(n:List UInt8):FnOk Tryz.prog 226 [rtV,.d (.str n)] (.tup [.agg [.d (.str []),.d (.int .u16 0),.d (.int .u32 0),nilS],.d (.int .i64 3)]):=(rtcut' n).convA ⟨rt_a,.refl _,trivial⟩
theorem rtget'(n:List UInt8)(t:Int)(hn:n.length<=100000):FnOk Tryz.prog 184 [rtZ.V,.d (.str n),.d (.int .u16 t)] (.tup [(vg n t rtZ.rrs).1.V,.d (.int .i64 (vg n t rtZ.rrs).2)]):=by
 refine qn (TT:=TT) (IN:=qd []) qf qe mixed 1000 Tryz.func184 rfl (qc Tryz.func184 (by kernel_rfl) rfl) rfl 23 (by kernel_rfl) ?_
 conv=>whnf
 refine .rel _ (qn2 rtZ qi9 _) (fun r ks' hR=>?_)
 obtain⟨S,N,rfl,rfl⟩:=hR
 rw[rt_ok]
 conv=>whnf
 refine brF rfl ?_
 conv=>whnf
 refine oD (find_ok n t rtZ.z rtZ.rrs (by decide) hn (fun r hr=>(qi9 r hr).1)) rfl rfl ?_
 conv=>whnf
 repeat'(first|exact ⟨⟩|exact rfl|exact .inr rfl|exact .inl rfl|exact fun _ _=>rfl|exact noI|apply And.intro)
theorem rtget(n:List UInt8)(t:Int)(hn:n.length<=100000):FnOk Tryz.prog 184 [rtV,.d (.str n),.d (.int .u16 t)] (.tup [(vg n t rtZ.rrs).1.V,.d (.int .i64 (vg n t rtZ.rrs).2)]):=(rtget' n t hn).convA ⟨rt_a,.refl _,.refl _,trivial⟩
theorem rtexists':FnOk Tryz.prog 185 [rtZ.V,.d (.str [1,98,0])] (.d (.bool false)):=by
 refine qn (TT:=TT) (IN:=qd []) qf qe mixed 1000 Tryz.func185 rfl (qc Tryz.func185 (by kernel_rfl) rfl) rfl 35 (by kernel_rfl) ?_
 conv=>whnf
 refine .rel _ (qn2 rtZ qi9 _) (fun r ks' hR=>?_)
 obtain⟨S,N,rfl,rfl⟩:=hR
 rw[rt_ok]
 conv=>whnf
 refine brF rfl ?_
 conv=>whnf
 refine oD (ql1 _ _) rfl rfl ?_
 rw[show zy [1,98,0] rtZ.apex=true by kernel_rfl]
 conv=>whnf
 refine brF rfl ?_
 conv=>whnf
 refine .once ?_
 conv=>whnf
 refine brT rfl ?_
 conv=>whnf
 refine⟨by decide,?_⟩
 conv=>whnf
 refine oD (ql1 _ _) rfl rfl ?_
 conv=>whnf
 refine brF (by kernel_rfl) ?_
 conv=>whnf
 refine .once ?_
 conv=>whnf
 refine brT rfl ?_
 conv=>whnf
 refine⟨by decide,?_⟩
 conv=>whnf
 refine oD (ql1 _ _) rfl rfl ?_
 conv=>whnf
 refine brF (by kernel_rfl) ?_
 conv=>whnf
 refine .once ?_
 conv=>whnf
 refine brT rfl ?_
 conv=>whnf
 refine⟨by decide,?_⟩
 conv=>whnf
 refine oD (ql1 _ _) rfl rfl ?_
 conv=>whnf
 refine brF (by kernel_rfl) ?_
 conv=>whnf
 refine .once ?_
 conv=>whnf
 refine brF rfl ?_
 conv=>whnf
theorem rtexists:FnOk Tryz.prog 185 [rtV,.d (.str [1,98,0])] (.d (.bool false)):=rtexists'.convA ⟨rt_a,.refl _,trivial⟩
def rtF:SV:=.agg [.d (.sl false 1 2 (qz [.str [0],.sl false 3 5 (qz rtR 5)] 2)),.d (.sl false 1 2 (qz [.int .u32 5,.sl false 1 1 (qz [.int .i64 0] 1)] 2))]
def noF:SV:=.agg [nilS,nilS]
def rtB:KB:=.map [.str] false false [([.str [0]],[.d (.int .i64 0)])]
theorem rthoused:FnOk Tryz.prog 225 [rtF] (.d (.bool true)):=by
 refine qn (TT:=TT) (IN:=qd [(253,Tryz.f253,2),(277,Tryz.f277,2),(252,Tryz.f252,2)]) qf (qv (qv (qv qe Tryz.func252 (by kernel_rfl) (by kernel_rfl)) Tryz.func277 (by kernel_rfl) (by kernel_rfl)) Tryz.func253 (by kernel_rfl) (by kernel_rfl)) mixed 1000 Tryz.func225 rfl (qc Tryz.func225 (by kernel_rfl) rfl) rfl 32 (by kernel_rfl) ?_
 conv=>whnf
 repeat(first
  |(refine .once ?_;conv=>whnf)
  |(refine brT rfl ?_;conv=>whnf)
  |(refine brF rfl ?_;conv=>whnf)
  |(refine⟨_,rfl,?_⟩;conv=>whnf)
  |(refine⟨by decide,?_⟩;conv=>whnf))
theorem rthang:COk Tryz.prog 224 [rtF,.map 0] [rtB] (fun s k=>s = .d (.bool true)/\k=[rtB]):=by
 refine ji (TT:=TT) (IN:=qd []) qf qe mixed 1000 Tryz.func224 rfl (qc Tryz.func224 (by kernel_rfl) rfl) 78 (by kernel_rfl) ?_
 conv=>whnf
 repeat(first
  |(refine .once ?_;conv=>whnf)
  |(refine brT rfl ?_;conv=>whnf)
  |(refine brF rfl ?_;conv=>whnf)
  |(refine⟨_,rfl,?_⟩;conv=>whnf)
  |(refine⟨by decide,?_⟩;conv=>whnf))
 refine oD rtcuts rfl rfl ?_
 conv=>whnf
 repeat(first
  |(refine .once ?_;conv=>whnf)
  |(refine brT rfl ?_;conv=>whnf)
  |(refine brF rfl ?_;conv=>whnf)
  |(refine⟨_,rfl,?_⟩;conv=>whnf)
  |(refine⟨by decide,?_⟩;conv=>whnf))
 refine⟨[0],_,[rtB],rfl,rfl,?_,?_,rfl,rfl⟩
 ·exact rfl
 ·conv=>whnf
  repeat'(first|exact ⟨⟩|exact rfl|exact qa _|exact .inr rfl|exact fun _ _=>rfl|exact noI|apply And.intro)
theorem rtsurvey:COk Tryz.prog 182 [rtF] [] (fun s k=>s = .tup [.map 0,.d (.int .i64 0)]/\k=[rtB]):=by
 refine ji (TT:=TT) (IN:=qd []) qf qe mixed 1000 Tryz.func182 rfl (qc Tryz.func182 (by kernel_rfl) rfl) 72 (by kernel_rfl) ?_
 conv=>whnf
 repeat(first
  |(refine .once ?_;conv=>whnf)
  |(refine brT rfl ?_;conv=>whnf)
  |(refine brF rfl ?_;conv=>whnf)
  |(refine⟨_,rfl,?_⟩;conv=>whnf)
  |(refine⟨by decide,?_⟩;conv=>whnf))
 refine oD rtcheck rfl rfl ?_
 conv=>whnf
 repeat(first
  |(refine .once ?_;conv=>whnf)
  |(refine brT rfl ?_;conv=>whnf)
  |(refine brF rfl ?_;conv=>whnf)
  |(refine⟨_,rfl,?_⟩;conv=>whnf)
  |(refine⟨by decide,?_⟩;conv=>whnf))
 refine oD (xo [0] (by decide)) rfl rfl ?_
 rw[show fold [0]=[0] by kernel_rfl]
 conv=>whnf
 repeat(first
  |(refine .once ?_;conv=>whnf)
  |(refine brT rfl ?_;conv=>whnf)
  |(refine brF rfl ?_;conv=>whnf)
  |(refine⟨_,rfl,?_⟩;conv=>whnf)
  |(refine⟨by decide,?_⟩;conv=>whnf))
 refine .rel _ (COk.frameX rthang [1] rfl rfl rfl) (fun x ks' hR=>?_)
 obtain⟨s0,k0,⟨rfl,rfl⟩,rfl,rfl⟩:=hR
 conv=>whnf
 repeat(first
  |(refine .once ?_;conv=>whnf)
  |(refine brT rfl ?_;conv=>whnf)
  |(refine brF rfl ?_;conv=>whnf)
  |(refine⟨_,rfl,?_⟩;conv=>whnf)
  |(refine⟨by decide,?_⟩;conv=>whnf))
 refine oD rthoused rfl rfl ?_
 conv=>whnf
 repeat(first
  |(refine .once ?_;conv=>whnf)
  |(refine brT rfl ?_;conv=>whnf)
  |(refine brF rfl ?_;conv=>whnf)
  |(refine⟨_,rfl,?_⟩;conv=>whnf)
  |(refine⟨by decide,?_⟩;conv=>whnf))
 refine⟨[1],_,[rtB],rfl,rfl,?_,?_,rfl,rfl⟩
 ·exact rfl
 ·conv=>whnf
  repeat'(first|exact ⟨⟩|exact rfl|exact qa _|exact .inr rfl|exact fun _ _=>rfl|exact noI|apply And.intro)
theorem jd1(ks:List KB):COk Tryz.prog 182 [rtF] ks (fun s k=>s = .tup [.map (lenB ks),.d (.int .i64 0)]/\k=appB ks [rtB]) :=
 (COk.frameX rtsurvey [] rfl rfl rfl).imp fun r k ⟨s0,k0,⟨h1,h2⟩,h3,h4⟩=>by
  refine⟨?_,?_⟩
  ·rw[h3,h1];rfl
  ·rw[h4,h2];rfl
theorem rticheck:FnOk Tryz.prog 138 [rtF] (.d (.int .i64 0)):=by
 refine qn (TT:=TT) (IN:=qd []) qf qe mixed 1000 Tryz.func138 rfl (qc Tryz.func138 (by kernel_rfl) rfl) rfl 10 (by kernel_rfl) ?_
 conv=>whnf
 refine .rel _ (jd1 _) (fun r ks' hR=>?_)
 obtain⟨rfl,rfl⟩:=hR
 conv=>whnf
 repeat(first
  |(refine .once ?_;conv=>whnf)
  |(refine brT rfl ?_;conv=>whnf)
  |(refine brF rfl ?_;conv=>whnf)
  |(refine⟨_,rfl,?_⟩;conv=>whnf)
  |(refine⟨by decide,?_⟩;conv=>whnf))
theorem noicheck:FnOk Tryz.prog 138 [noF] (.d (.int .i64 2)):=by
 refine qn (TT:=TT) (IN:=qd [(182,Tryz.f182,1)]) qf (qv qe Tryz.func182 (by kernel_rfl) (by kernel_rfl)) mixed 1000 Tryz.func138 rfl (qc Tryz.func138 (by kernel_rfl) rfl) rfl 10 (by kernel_rfl) ?_
 conv=>whnf
 repeat(first
  |(refine .once ?_;conv=>whnf)
  |(refine brT rfl ?_;conv=>whnf)
  |(refine brF rfl ?_;conv=>whnf)
  |(refine⟨_,rfl,?_⟩;conv=>whnf)
  |(refine⟨by decide,?_⟩;conv=>whnf))
theorem rtdown(n:List UInt8)(hn:qh n):COk Tryz.prog 183 [rtF,.map 0,.d (.str n)] [rtB] (fun s k=>s = .tup [.d (.int .i64 0),.d (.int .i64 0)]/\k=[rtB]):=by
 refine ji (TT:=TT) (IN:=qd []) qf qe mixed 1000 Tryz.func183 rfl (qc Tryz.func183 (by kernel_rfl) rfl) 37 (by kernel_rfl) ?_
 conv=>whnf
 refine oD (j5 n) rfl rfl ?_
 rw[if_pos hn]
 conv=>whnf
 repeat(first
  |(refine .once ?_;conv=>whnf)
  |(refine brT rfl ?_;conv=>whnf)
  |(refine brF rfl ?_;conv=>whnf)
  |(refine⟨_,rfl,?_⟩;conv=>whnf)
  |(refine⟨by decide,?_⟩;conv=>whnf))
 refine oD (rtcut n) rfl rfl ?_
 conv=>whnf
 repeat(first
  |(refine .once ?_;conv=>whnf)
  |(refine brT rfl ?_;conv=>whnf)
  |(refine brF rfl ?_;conv=>whnf)
  |(refine⟨_,rfl,?_⟩;conv=>whnf)
  |(refine⟨by decide,?_⟩;conv=>whnf))
 refine⟨[0],_,[rtB],rfl,rfl,?_,?_,rfl,rfl⟩
 ·exact rfl
 ·conv=>whnf
  repeat'(first|exact ⟨⟩|exact rfl|exact qa _|exact .inr rfl|exact fun _ _=>rfl|exact noI|apply And.intro)
def rtL:St:=⟨[1,97,0],5,9,false,[[1,98,0]]⟩
theorem rt_g1:vg [1,97,0] 1 rtZ.rrs=(St.no,3):=by kernel_rfl
theorem rt_g2:vg [1,97,0] 5 rtZ.rrs=(rtL,0):=by kernel_rfl
theorem rt_g3:vg [1,98,0] 1 rtZ.rrs=(St.no,3):=by kernel_rfl
theorem rt_g4:vg [1,98,0] 5 rtZ.rrs=(St.no,3):=by kernel_rfl
theorem rt_na:qh [1,97,0]:=of_decide_eq_true (by kernel_rfl)
theorem rt_nb:qh [1,98,0]:=of_decide_eq_true (by kernel_rfl)
theorem rtof:FnOk Tryz.prog 137 [rtF,.agg [.d (.str [1,97,0]),.d (.int .u16 1),.d (.int .u16 1)]] (.tup [.agg [.d (.int .i64 3),.d (.sl false 1 4 (qz [.str [1,97,0],.int .u16 5,.int .u32 9,.sl false 1 1 (strs [[1,98,0]])] 4)),.d (.str []),.d (.int .u16 0),.d (.int .u32 0),nilS],.d (.int .i64 0)]):=by
 have g1:=rtget [1,97,0] 1 (by decide)
 have g2:=rtget [1,97,0] 5 (by decide)
 have g3:=rtget [1,98,0] 1 (by decide)
 have g4:=rtget [1,98,0] 5 (by decide)
 rw [rt_g1] at g1
 rw [rt_g2] at g2
 rw [rt_g3] at g3
 rw [rt_g4] at g4
 refine qn (TT:=TT) (IN:=qd []) qf qe mixed 1000 Tryz.func137 rfl (qc Tryz.func137 (by kernel_rfl) rfl) rfl 95 (by kernel_rfl) ?_
 conv=>whnf
 refine .rel _ (jd1 _) (fun r ks' hR=>?_)
 obtain⟨rfl,rfl⟩:=hR
 refine brF rfl ?_
 conv=>whnf
 refine .nilC 4 1 49 4 (fun _=>[]) _ _ _ _ rfl rfl ?_
 conv=>whnf
 repeat(first
  |(refine .once ?_;conv=>whnf)
  |(refine brT rfl ?_;conv=>whnf)
  |(refine brF rfl ?_;conv=>whnf)
  |(refine⟨_,rfl,?_⟩;conv=>whnf)
  |(refine⟨by decide,?_⟩;conv=>whnf))
 refine .rel _ (COk.frameX (rtdown [1,97,0] rt_na) [3] rfl rfl rfl) (fun x ks' hR=>?_)
 obtain⟨s0,k0,⟨rfl,rfl⟩,rfl,rfl⟩:=hR
 conv=>whnf
 repeat(first
  |(refine .once ?_;conv=>whnf)
  |(refine brT rfl ?_;conv=>whnf)
  |(refine brF rfl ?_;conv=>whnf)
  |(refine⟨_,rfl,?_⟩;conv=>whnf)
  |(refine⟨by decide,?_⟩;conv=>whnf))
 refine oD g1 rfl rfl ?_
 conv=>whnf
 repeat(first
  |(refine .once ?_;conv=>whnf)
  |(refine brT rfl ?_;conv=>whnf)
  |(refine brF rfl ?_;conv=>whnf)
  |(refine⟨_,rfl,?_⟩;conv=>whnf)
  |(refine⟨by decide,?_⟩;conv=>whnf))
 refine oD g2 rfl rfl ?_
 conv=>whnf
 repeat(first
  |(refine .once ?_;conv=>whnf)
  |(refine brT rfl ?_;conv=>whnf)
  |(refine brF rfl ?_;conv=>whnf)
  |(refine⟨_,rfl,?_⟩;conv=>whnf)
  |(refine⟨by decide,?_⟩;conv=>whnf))
 rw[show(rtL,(0:Int)).fst.data[Int.toNat 0]?.getD []=[1,98,0] from rfl]
 refine .rel _ (COk.frameX (rtdown [1,98,0] rt_nb) [3] rfl rfl rfl) (fun x ks' hR=>?_)
 obtain⟨s0,k0,⟨rfl,rfl⟩,rfl,rfl⟩:=hR
 conv=>whnf
 repeat(first
  |(refine .once ?_;conv=>whnf)
  |(refine brT rfl ?_;conv=>whnf)
  |(refine brF rfl ?_;conv=>whnf)
  |(refine⟨_,rfl,?_⟩;conv=>whnf)
  |(refine⟨by decide,?_⟩;conv=>whnf))
 refine oD g3 rfl rfl ?_
 conv=>whnf
 repeat(first
  |(refine .once ?_;conv=>whnf)
  |(refine brT rfl ?_;conv=>whnf)
  |(refine brF rfl ?_;conv=>whnf)
  |(refine⟨_,rfl,?_⟩;conv=>whnf)
  |(refine⟨by decide,?_⟩;conv=>whnf))
 refine oD g4 rfl rfl ?_
 conv=>whnf
 repeat(first
  |(refine .once ?_;conv=>whnf)
  |(refine brT rfl ?_;conv=>whnf)
  |(refine brF rfl ?_;conv=>whnf)
  |(refine⟨_,rfl,?_⟩;conv=>whnf)
  |(refine⟨by decide,?_⟩;conv=>whnf))
 refine oD rtexists rfl rfl ?_
 conv=>whnf
 repeat(first
  |(refine .once ?_;conv=>whnf)
  |(refine brT rfl ?_;conv=>whnf)
  |(refine brF rfl ?_;conv=>whnf)
  |(refine⟨_,rfl,?_⟩;conv=>whnf)
  |(refine⟨by decide,?_⟩;conv=>whnf))
 repeat'(first|exact ⟨⟩|exact rfl|exact .inr rfl|exact .inl rfl|exact fun _ _=>rfl|exact noI|apply And.intro)
 all_goals first
  |exact .inr rfl
  |exact fun _ _=>rfl
  |trace_state
def rtQ:SV:=.agg [.d (.str [1,97,0]),.d (.int .u16 1),.d (.int .u16 1)]
theorem rtway:FnOk Tryz.prog 75 [rtF,rtQ] (.tup [.d (.sl false 2 1 (strs [[1,97,0],[1,98,0]])),.d (.int .i64 0)]):=by
 refine qn (TT:=TT) (IN:=qd []) qf qe mixed 1000 Tryz.func75 rfl (qc Tryz.func75 (by kernel_rfl) rfl) rfl 41 (by kernel_rfl) ?_
 conv=>whnf
 repeat(first
  |(refine .once ?_;conv=>whnf)
  |(refine brT rfl ?_;conv=>whnf)
  |(refine brF rfl ?_;conv=>whnf)
  |(refine⟨_,rfl,?_⟩;conv=>whnf)
  |(refine⟨by decide,?_⟩;conv=>whnf))
 refine oD rtof rfl rfl ?_
 conv=>whnf
 repeat(first
  |(refine .once ?_;conv=>whnf)
  |(refine brT rfl ?_;conv=>whnf)
  |(refine brF rfl ?_;conv=>whnf)
  |(refine⟨_,rfl,?_⟩;conv=>whnf)
  |(refine⟨by decide,?_⟩;conv=>whnf))
 repeat'(first|exact ⟨⟩|exact rfl|exact .inr rfl|exact .inl rfl|exact fun _ _=>rfl|exact noI|apply And.intro)
 try exact .inr rfl
 ·intro i hi
  match i,hi with
  |0,_=>rfl
  |1,_=>rfl
theorem noway:FnOk Tryz.prog 77 [noF,rtQ] (.tup [.d (.int .i64 0),.d (.int .i64 2)]):=by
 refine qn (TT:=TT) (IN:=qd [(75,Tryz.f75,2),(137,Tryz.f137,2),(182,Tryz.f182,1)]) qf (qv (qv (qv qe Tryz.func182 (by kernel_rfl) (by kernel_rfl)) Tryz.func137 (by kernel_rfl) (by kernel_rfl)) Tryz.func75 (by kernel_rfl) (by kernel_rfl)) mixed 1000 Tryz.func77 rfl (qc Tryz.func77 (by kernel_rfl) rfl) rfl 45 (by kernel_rfl) ?_
 conv=>whnf
 repeat(first
  |(refine .once ?_;conv=>whnf)
  |(refine brT rfl ?_;conv=>whnf)
  |(refine brF rfl ?_;conv=>whnf)
  |(refine⟨_,rfl,?_⟩;conv=>whnf)
  |(refine⟨by decide,?_⟩;conv=>whnf))
 repeat'(first|exact ⟨⟩|exact rfl|exact .inr rfl|exact .inl rfl|exact fun _ _=>rfl|exact noI|apply And.intro)
theorem rtwork:FnOk Tryz.prog 77 [rtF,rtQ] (.tup [.d (.int .i64 2),.d (.int .i64 0)]):=by
 refine qn (TT:=TT) (IN:=qd []) qf qe mixed 1000 Tryz.func77 rfl (qc Tryz.func77 (by kernel_rfl) rfl) rfl 45 (by kernel_rfl) ?_
 conv=>whnf
 repeat(first
  |(refine .once ?_;conv=>whnf)
  |(refine brT rfl ?_;conv=>whnf)
  |(refine brF rfl ?_;conv=>whnf)
  |(refine⟨_,rfl,?_⟩;conv=>whnf)
  |(refine⟨by decide,?_⟩;conv=>whnf))
 refine oD rtway rfl rfl ?_
 conv=>whnf
 repeat(first
  |(refine .once ?_;conv=>whnf)
  |(refine brT rfl ?_;conv=>whnf)
  |(refine brF rfl ?_;conv=>whnf)
  |(refine⟨_,rfl,?_⟩;conv=>whnf)
  |(refine⟨by decide,?_⟩;conv=>whnf))
 exact⟨rfl,rfl,trivial⟩
theorem rthints:FnOk Tryz.prog 81 [rtF] (.d (.sl false 1 1 (qz [.int .u32 5] 1))):=by
 refine qn (TT:=TT) (IN:=qd [(140,Tryz.f140,4),(187,Tryz.f187,4),(186,Tryz.f186,2),(227,Tryz.f227,2)]) qf (qv (qv (qv (qv qe Tryz.func227 (by kernel_rfl) (by kernel_rfl)) Tryz.func186 (by kernel_rfl) (by kernel_rfl)) Tryz.func187 (by kernel_rfl) (by kernel_rfl)) Tryz.func140 (by kernel_rfl) (by kernel_rfl)) mixed 1000 Tryz.func81 rfl (qc Tryz.func81 (by kernel_rfl) rfl) rfl 29 (by kernel_rfl) ?_
 conv=>whnf
 repeat(first
  |(refine .once ?_;conv=>whnf)
  |(refine brT rfl ?_;conv=>whnf)
  |(refine brF rfl ?_;conv=>whnf)
  |(refine⟨_,rfl,?_⟩;conv=>whnf)
  |(refine⟨by decide,?_⟩;conv=>whnf))
 refine oD rticheck rfl rfl ?_
 conv=>whnf
 repeat(first
  |(refine .once ?_;conv=>whnf)
  |(refine brT rfl ?_;conv=>whnf)
  |(refine brF rfl ?_;conv=>whnf)
  |(refine⟨_,rfl,?_⟩;conv=>whnf)
  |(refine⟨by decide,?_⟩;conv=>whnf))
 exact fun _ _=>rfl
theorem noeasy:FnOk Tryz.prog 78 [noF] (.d (.bool false)):=by
 refine qn (TT:=TT) (IN:=qd []) qf qe mixed 1000 Tryz.func78 rfl (qc Tryz.func78 (by kernel_rfl) rfl) rfl 59 (by kernel_rfl) ?_
 conv=>whnf
 repeat(first
  |(refine .once ?_;conv=>whnf)
  |(refine brT rfl ?_;conv=>whnf)
  |(refine brF rfl ?_;conv=>whnf)
  |(refine⟨_,rfl,?_⟩;conv=>whnf)
  |(refine⟨by decide,?_⟩;conv=>whnf))
 refine oD noicheck rfl rfl ?_
 conv=>whnf
 repeat(first
  |(refine .once ?_;conv=>whnf)
  |(refine brT rfl ?_;conv=>whnf)
  |(refine brF rfl ?_;conv=>whnf)
  |(refine⟨_,rfl,?_⟩;conv=>whnf)
  |(refine⟨by decide,?_⟩;conv=>whnf))
theorem rteasy:FnOk Tryz.prog 78 [rtF] (.d (.bool true)):=by
 refine qn (TT:=TT) (IN:=qd [(139,Tryz.f139,1),(140,Tryz.f140,4),(187,Tryz.f187,4),(186,Tryz.f186,2),(227,Tryz.f227,2)]) qf (qv (qv (qv (qv (qv qe Tryz.func227 (by kernel_rfl) (by kernel_rfl)) Tryz.func186 (by kernel_rfl) (by kernel_rfl)) Tryz.func187 (by kernel_rfl) (by kernel_rfl)) Tryz.func140 (by kernel_rfl) (by kernel_rfl)) Tryz.func139 (by kernel_rfl) (by kernel_rfl)) mixed 1000 Tryz.func78 rfl (qc Tryz.func78 (by kernel_rfl) rfl) rfl 59 (by kernel_rfl) ?_
 conv=>whnf
 repeat(first
  |(refine .once ?_;conv=>whnf)
  |(refine brT rfl ?_;conv=>whnf)
  |(refine brF rfl ?_;conv=>whnf)
  |(refine⟨_,rfl,?_⟩;conv=>whnf)
  |(refine⟨by decide,?_⟩;conv=>whnf))
 refine oD rticheck rfl rfl ?_
 conv=>whnf
 repeat(first
  |(refine .once ?_;conv=>whnf)
  |(refine brT rfl ?_;conv=>whnf)
  |(refine brF rfl ?_;conv=>whnf)
  |(refine⟨_,rfl,?_⟩;conv=>whnf)
  |(refine⟨by decide,?_⟩;conv=>whnf))
 refine .data _ (xo [0] (by decide)) rfl rfl ?_
 rw[show fold [0]=[0] by kernel_rfl]
 conv=>whnf
 repeat(first
  |(refine .once ?_;conv=>whnf)
  |(refine brT rfl ?_;conv=>whnf)
  |(refine brF rfl ?_;conv=>whnf)
  |(refine⟨_,rfl,?_⟩;conv=>whnf)
  |(refine⟨by decide,?_⟩;conv=>whnf))
 refine oD rtcuts rfl rfl ?_
 conv=>whnf
 repeat(first
  |(refine .once ?_;conv=>whnf)
  |(refine brT rfl ?_;conv=>whnf)
  |(refine brF rfl ?_;conv=>whnf)
  |(refine⟨_,rfl,?_⟩;conv=>whnf)
  |(refine⟨by decide,?_⟩;conv=>whnf))
theorem bsmall_ok(n:List UInt8)(hn:qh n):FnOk Tryz.prog 29 [.d (.str n)] (.tup [.d (.int .i64 ((55+n.length:Nat):Int)),.d (.int .i64 0)]):=by
 refine qn (TT:=TT) (IN:=qd []) qf qe mixed 1000 Tryz.func29 rfl (qc Tryz.func29 (by kernel_rfl) rfl) rfl 12 (by kernel_rfl) ?_
 have hl:=hn.2.1
 have hw:IntKind.i64.wrap (55+(n.length:Int))=((55+n.length:Nat):Int):=by rw[qg _ (by omega)];omega
 conv=>whnf
 refine oD (j5 n) rfl rfl ?_
 rw[if_pos hn]
 conv=>whnf
 refine brF rfl ?_
 conv=>whnf
 rw[hw]
 exact⟨rfl,rfl,trivial⟩
theorem bsmall_no(n:List UInt8)(hn:¬ qh n):FnOk Tryz.prog 29 [.d (.str n)] (.tup [.d (.int .i64 0),.d (.int .i64 2)]):=by
 refine qn (TT:=TT) (IN:=qd []) qf qe mixed 1000 Tryz.func29 rfl (qc Tryz.func29 (by kernel_rfl) rfl) rfl 12 (by kernel_rfl) ?_
 conv=>whnf
 refine oD (j5 n) rfl rfl ?_
 rw[if_neg hn]
 conv=>whnf
 refine brT rfl ?_
 conv=>whnf
 exact⟨rfl,rfl,trivial⟩
theorem qp3:FnOk Tryz.prog 76 [] rtF:=by
 refine qn (TT:=TT) (IN:=qd []) qf qe mixed 1000 Tryz.func76 rfl (qc Tryz.func76 (by kernel_rfl) rfl) rfl 20 (by kernel_rfl) ?_
 conv=>whnf
 repeat(first
  |(refine .once ?_;conv=>whnf)
  |(refine brT rfl ?_;conv=>whnf)
  |(refine brF rfl ?_;conv=>whnf)
  |(refine⟨_,rfl,?_⟩;conv=>whnf)
  |(refine⟨by decide,?_⟩;conv=>whnf))
 refine⟨fun i _=>⟨0,rfl⟩,?_⟩
 conv=>whnf
 repeat(first
  |(refine .once ?_;conv=>whnf)
  |(refine brT rfl ?_;conv=>whnf)
  |(refine brF rfl ?_;conv=>whnf)
  |(refine⟨_,rfl,?_⟩;conv=>whnf)
  |(refine⟨by decide,?_⟩;conv=>whnf))
 repeat'(first|exact ⟨⟩|exact rfl|exact .inr rfl|exact .inl rfl|exact fun _ _=>rfl|exact noI|apply And.intro)
 all_goals exact Nat.zero_lt_succ _
theorem tx37_ok:FnOk Tryz.prog 79 [.d (.sl false 2 1 (strs [[1,97,0],[1,98,0]])),.d (.sl false 2 1 (qz [.str [1,97,0],.str [1,98,0]] 1))] (.d (.bool true)):=by
 refine qn (TT:=TT) (IN:=qd []) qf qe mixed 1000 Tryz.func79 rfl (qc Tryz.func79 (by kernel_rfl) rfl) rfl 24 (by kernel_rfl) ?_
 conv=>whnf
 repeat(first
  |(refine .once ?_;conv=>whnf)
  |(refine brT rfl ?_;conv=>whnf)
  |(refine brF rfl ?_;conv=>whnf)
  |(refine⟨_,rfl,?_⟩;conv=>whnf)
  |(refine⟨by decide,?_⟩;conv=>whnf))
theorem nu37_ok:FnOk Tryz.prog 80 [.d (.sl false 1 1 (qz [.int .u32 5] 1)),.d (.sl false 1 1 (qz [.int .u32 5] 1))] (.d (.bool true)):=by
 refine qn (TT:=TT) (IN:=qd []) qf qe mixed 1000 Tryz.func80 rfl (qc Tryz.func80 (by kernel_rfl) rfl) rfl 24 (by kernel_rfl) ?_
 conv=>whnf
 repeat(first
  |(refine .once ?_;conv=>whnf)
  |(refine brT rfl ?_;conv=>whnf)
  |(refine brF rfl ?_;conv=>whnf)
  |(refine⟨_,rfl,?_⟩;conv=>whnf)
  |(refine⟨by decide,?_⟩;conv=>whnf))
theorem lives37_ok:FnOk Tryz.prog 28 [] (.d (.bool true)):=by
 have k1:=bsmall_ok [1,97,0] rt_na
 have k2:=bsmall_no [] (by decide)
 refine qn (TT:=TT) (IN:=qd []) qf qe mixed 1000 Tryz.func28 rfl (qc Tryz.func28 (by kernel_rfl) rfl) rfl 85 (by kernel_rfl) ?_
 conv=>whnf
 repeat(first
  |(refine .once ?_;conv=>whnf)
  |(refine brT rfl ?_;conv=>whnf)
  |(refine brF rfl ?_;conv=>whnf)
  |(refine⟨_,rfl,?_⟩;conv=>whnf)
  |(refine⟨by decide,?_⟩;conv=>whnf))
 refine .data _ qp3 rfl rfl ?_
 conv=>whnf
 repeat(first
  |(refine .once ?_;conv=>whnf)
  |(refine brT rfl ?_;conv=>whnf)
  |(refine brF rfl ?_;conv=>whnf)
  |(refine⟨_,rfl,?_⟩;conv=>whnf)
  |(refine⟨by decide,?_⟩;conv=>whnf))
 refine .data _ rtway rfl rfl ?_
 conv=>whnf
 repeat(first
  |(refine .once ?_;conv=>whnf)
  |(refine brT rfl ?_;conv=>whnf)
  |(refine brF rfl ?_;conv=>whnf)
  |(refine⟨_,rfl,?_⟩;conv=>whnf)
  |(refine⟨by decide,?_⟩;conv=>whnf))
 refine .data _ qp3 rfl rfl ?_
 conv=>whnf
 repeat(first
  |(refine .once ?_;conv=>whnf)
  |(refine brT rfl ?_;conv=>whnf)
  |(refine brF rfl ?_;conv=>whnf)
  |(refine⟨_,rfl,?_⟩;conv=>whnf)
  |(refine⟨by decide,?_⟩;conv=>whnf))
 refine .data _ rtwork rfl rfl ?_
 conv=>whnf
 repeat(first
  |(refine .once ?_;conv=>whnf)
  |(refine brT rfl ?_;conv=>whnf)
  |(refine brF rfl ?_;conv=>whnf)
  |(refine⟨_,rfl,?_⟩;conv=>whnf)
  |(refine⟨by decide,?_⟩;conv=>whnf))
 refine oD k1 rfl rfl ?_
 conv=>whnf
 repeat(first
  |(refine .once ?_;conv=>whnf)
  |(refine brT rfl ?_;conv=>whnf)
  |(refine brF rfl ?_;conv=>whnf)
  |(refine⟨_,rfl,?_⟩;conv=>whnf)
  |(refine⟨by decide,?_⟩;conv=>whnf))
 refine oD k2 rfl rfl ?_
 conv=>whnf
 repeat(first
  |(refine .once ?_;conv=>whnf)
  |(refine brT rfl ?_;conv=>whnf)
  |(refine brF rfl ?_;conv=>whnf)
  |(refine⟨_,rfl,?_⟩;conv=>whnf)
  |(refine⟨by decide,?_⟩;conv=>whnf))
 refine oD noway rfl rfl ?_
 conv=>whnf
 repeat(first
  |(refine .once ?_;conv=>whnf)
  |(refine brT rfl ?_;conv=>whnf)
  |(refine brF rfl ?_;conv=>whnf)
  |(refine⟨_,rfl,?_⟩;conv=>whnf)
  |(refine⟨by decide,?_⟩;conv=>whnf))
 refine oD qp3 rfl rfl ?_
 conv=>whnf
 repeat(first
  |(refine .once ?_;conv=>whnf)
  |(refine brT rfl ?_;conv=>whnf)
  |(refine brF rfl ?_;conv=>whnf)
  |(refine⟨_,rfl,?_⟩;conv=>whnf)
  |(refine⟨by decide,?_⟩;conv=>whnf))
 refine oD rteasy rfl rfl ?_
 conv=>whnf
 repeat(first
  |(refine .once ?_;conv=>whnf)
  |(refine brT rfl ?_;conv=>whnf)
  |(refine brF rfl ?_;conv=>whnf)
  |(refine⟨_,rfl,?_⟩;conv=>whnf)
  |(refine⟨by decide,?_⟩;conv=>whnf))
 refine .one (.view _ _ [1] tx37_ok ?_ rfl rfl ?_)
 ·conv=>whnf
  exact⟨rfl,rfl⟩
 conv=>whnf
 repeat(first
  |(refine .once ?_;conv=>whnf)
  |(refine brT rfl ?_;conv=>whnf)
  |(refine brF rfl ?_;conv=>whnf)
  |(refine⟨_,rfl,?_⟩;conv=>whnf)
  |(refine⟨by decide,?_⟩;conv=>whnf))
 refine oD qp3 rfl rfl ?_
 conv=>whnf
 repeat(first
  |(refine .once ?_;conv=>whnf)
  |(refine brT rfl ?_;conv=>whnf)
  |(refine brF rfl ?_;conv=>whnf)
  |(refine⟨_,rfl,?_⟩;conv=>whnf)
  |(refine⟨by decide,?_⟩;conv=>whnf))
 refine oD rthints rfl rfl ?_
 conv=>whnf
 repeat(first
  |(refine .once ?_;conv=>whnf)
  |(refine brT rfl ?_;conv=>whnf)
  |(refine brF rfl ?_;conv=>whnf)
  |(refine⟨_,rfl,?_⟩;conv=>whnf)
  |(refine⟨by decide,?_⟩;conv=>whnf))
 refine .one (.view _ _ [2] nu37_ok ?_ rfl rfl ?_)
 ·conv=>whnf
  exact⟨rfl,rfl⟩
 conv=>whnf
 repeat(first
  |(refine .once ?_;conv=>whnf)
  |(refine brT rfl ?_;conv=>whnf)
  |(refine brF rfl ?_;conv=>whnf)
  |(refine⟨_,rfl,?_⟩;conv=>whnf)
  |(refine⟨by decide,?_⟩;conv=>whnf))
 refine oD noeasy rfl rfl ?_
 conv=>whnf
 repeat(first
  |(refine .once ?_;conv=>whnf)
  |(refine brT rfl ?_;conv=>whnf)
  |(refine brF rfl ?_;conv=>whnf)
  |(refine⟨_,rfl,?_⟩;conv=>whnf)
  |(refine⟨by decide,?_⟩;conv=>whnf))
 exact rfl
def Rdr.has(r:Rdr):Bool:=!r.bad && decide (r.p<r.s.length)
def Rdr.opt(r:Rdr):Rdr × Opt :=
 let a:=r.num 2
 let b:=a.1.num 2
 let c:=b.1.raw (IntKind.i64.wrap b.2)
 (c.1,⟨IntKind.u16.wrap a.2,c.2⟩)
def Rdr.opts:Nat->Rdr->List Opt->Option (List Opt)
 |0,_,l=>some l
 |n+1,r,l=>bif r.has then bif r.opt.1.bad then none else Rdr.opts n r.opt.1 (l++[r.opt.2]) else some l
def Ed.of(r:RR)(l:List Opt):Ed:=⟨true,r.cl,IntKind.u8.wrap (r.ttl.fdiv (2 ^ 24)),IntKind.u8.wrap (r.ttl.fdiv (2 ^ 16)),IntKind.u16.wrap r.ttl,Nat.beq l.length 0,l⟩
def optRec(r:RR):Ed × Int :=
 if r.nm≠[0] then (Ed.no,2) else match Rdr.opts r.d.length ⟨r.d,0,false⟩ [] with
  |some l=>(Ed.of r l,0)
  |none=>(Ed.no,2)
def optI(l:List RR):Int:=idxI (fun r=>r.ty == 41) l
def Msg.get(m:Msg):Ed × Int :=
 if 0<=optI m.says\/0<=optI m.heads then (Ed.no,2) else
 if optI m.extra<0 then (Ed.no,0) else
 if 0<=optI (m.extra.drop ((optI m.extra).toNat+1)) then (Ed.no,4) else
 optRec (m.extra.getD (optI m.extra).toNat default)
theorem Rdr.opt_lt{r:Rdr}(h:r.opt.1.bad=false):r.p<r.opt.1.p:=by
 have hm:∀ (r:Rdr) (n:Int),(r.raw n).1.bad=false->r.bad=false/\(r.raw n).1.p=r.p+n.toNat:=fun r n h=>by
  unfold Rdr.raw at h ⊢
  split
  ·rename_i hb;rw [if_pos hb] at h;rw [hb] at h;cases h
  ·rename_i hb
   rw [if_neg hb] at h
   split
   ·rename_i hc;rw [if_pos hc] at h;cases h
   ·exact⟨by simpa using hb,rfl⟩
 unfold Rdr.opt at h ⊢
 dsimp only at h ⊢
 obtain⟨h1,e1⟩:=hm _ _ h
 obtain⟨h2,e2⟩:=hm _ _ h1
 obtain⟨h3,e3⟩:=hm _ _ h2
 rw[e1]
 have e2:((r.num 2).1.num 2).1.p=(r.num 2).1.p+2:=e2
 have e3:(r.num 2).1.p=r.p+2:=e3
 omega
theorem Rdr.opt_s(r:Rdr):r.opt.1.s=r.s:=by
 unfold Rdr.opt
 dsimp only
 rw[Rdr.raw_s,Rdr.num_s,Rdr.num_s]
theorem opt_cat(l:List Opt)(q:Opt)(j:Nat)(hj:j<l.length+1):catF l.length (fun j=>(l.getD j default).enc) (qz q.enc 2) j=((l++[q]).getD j default).enc:=by
 unfold catF
 split
 ·rename_i h
  show(l.getD j default).enc=_
  rw[List.getD,List.getD,List.getElem?_append_left h]
 ·rename_i h
  have:j=l.length:=by omega
  subst this
  rw[Nat.sub_self,List.getD,List.getElem?_append_right (Nat.le_refl _),Nat.sub_self]
  rfl
theorem Rdr.opts_end{n:Nat}{r:Rdr}{l:List Opt}(h:r.has=false):Rdr.opts n r l=some l:=by
 cases n with
 |zero=>rfl
 |succ n=>unfold Rdr.opts;rw[h];rfl
structure OpS where
 r:Rdr
 l:List Opt
 n:Nat
theorem drop_rrs(z:Bool)(l:List RR)(i:Nat):AEq (.d (.sl z (l.length - i) 5 (fun j=>(l.getD (i+j) default).enc))) (.d (rrsD z (l.drop i))):=by
 have:(l.drop i).length=l.length - i:=by simp
 unfold rrsD
 rw[this]
 refine AEq.row (fun j hj=>?_)
 rw[List.getD,List.getD,List.getElem?_drop]
set_option maxRecDepth 100000 in
theorem get_ok(m:Msg)(h1:m.says.length<4611686018427387904)(h2:m.heads.length<4611686018427387904)(h3:m.extra.length<4611686018427387904)(hd:∀ r ∈ m.extra,r.d.length<1099511627776):FnOk Tryz.prog 26 [.agg m.cells] (.tup [.agg m.get.1.cells,.d (.int .i64 m.get.2)]):=by
 refine qn (TT:=TT) (IN:=qd [(74,Tryz.f74,1),(136,Tryz.f136,2),(67,Tryz.f67,1),(70,Tryz.f70,1)]) qf (qv (qv (qv (qv qe Tryz.func70 (by kernel_rfl) (by kernel_rfl)) Tryz.func67 (by kernel_rfl) (by kernel_rfl)) Tryz.func136 (by kernel_rfl) (by kernel_rfl)) Tryz.func74 (by kernel_rfl) (by kernel_rfl)) mixed 1000 Tryz.func26 rfl (qc Tryz.func26 (by kernel_rfl) rfl) rfl 74 (by kernel_rfl) ?_
 have hsp:m.get=m.get:=rfl
 conv at hsp=>rhs;unfold Msg.get
 conv=>whnf
 refine oD (typed_ok 41) rfl rfl ?_
 conv=>whnf
 refine oD (qy0 m.zs m.says 41 h1) rfl rfl ?_
 conv=>whnf
 refine⟨fun c1=>?_,fun c1=>?_⟩
 ·have c1:0<=optI m.says:=of_decide_eq_true c1
  rw [if_pos (.inl c1)] at hsp
  rw[hsp]
  conv=>whnf
  repeat(first|(refine brT rfl ?_;conv=>whnf)|(refine brF rfl ?_;conv=>whnf))
  repeat'(first|exact ⟨⟩|exact rfl|exact .inr rfl|exact .inl rfl|exact fun _ _=>rfl|exact noI|apply And.intro)
 have c1:¬ 0<=optI m.says:=of_decide_eq_false c1
 conv=>whnf
 refine oD (qy0 m.zh m.heads 41 h2) rfl rfl ?_
 conv=>whnf
 refine⟨fun c2=>?_,fun c2=>?_⟩
 ·have c2:0<=optI m.heads:=of_decide_eq_true c2
  rw [if_pos (.inr c2)] at hsp
  rw[hsp]
  conv=>whnf
  repeat(first|(refine brT rfl ?_;conv=>whnf)|(refine brF rfl ?_;conv=>whnf))
  repeat'(first|exact ⟨⟩|exact rfl|exact .inr rfl|exact .inl rfl|exact fun _ _=>rfl|exact noI|apply And.intro)
 have c2:¬ 0<=optI m.heads:=of_decide_eq_false c2
 rw [if_neg (by rintro (h|h) <;> contradiction)] at hsp
 conv=>whnf
 refine oD (qv7 m.ze m.extra 41 h3) rfl rfl ?_
 conv=>whnf
 have hlt:=idxI_lt (fun r:RR=>r.ty == 41) m.extra
 unfold optI at hsp
 generalize idxI (fun r:RR=>r.ty == 41) m.extra=i at hlt hsp ⊢
 refine⟨fun c3=>?_,fun c3=>?_⟩
 ·have c3:i<0:=of_decide_eq_true c3
  rw [if_pos c3] at hsp
  rw[hsp]
  conv=>whnf
  repeat'(first|exact ⟨⟩|exact rfl|exact .inr rfl|exact .inl rfl|exact fun _ _=>rfl|exact noI|apply And.intro)
 have c3:¬ i<0:=of_decide_eq_false c3
 rw [if_neg c3] at hsp
 obtain⟨k,rfl⟩:∃ k:Nat,i=k:=⟨i.toNat,by omega⟩
 have hw1:=w64s k (by omega)
 conv=>whnf
 rw[hw1]
 refine⟨by omega,?_⟩
 conv=>whnf
 rw [Int.toNat_natCast] at hsp
 rw[show((m.extra.length:Int) - ((k+1:Nat):Int)).toNat=m.extra.length - (k+1) by omega,Int.toNat_natCast]
 refine oD ((qy0 m.ze (m.extra.drop (k+1)) 41 (by simp;omega)).convA ⟨drop_rrs _ _ _,.refl _,True.intro⟩) rfl rfl ?_
 conv=>whnf
 refine⟨fun c4=>?_,fun c4=>?_⟩
 ·have c4:0<=idxI (fun r:RR=>r.ty == 41) (m.extra.drop (k+1)):=of_decide_eq_true c4
  rw [if_pos c4] at hsp
  rw[hsp]
  conv=>whnf
  repeat'(first|exact ⟨⟩|exact rfl|exact .inr rfl|exact .inl rfl|exact fun _ _=>rfl|exact noI|apply And.intro)
 have c4:¬ 0<=idxI (fun r:RR=>r.ty == 41) (m.extra.drop (k+1)):=of_decide_eq_false c4
 rw [if_neg c4] at hsp
 conv=>whnf
 refine⟨by omega,?_⟩
 conv=>whnf
 rw[Int.toNat_natCast]
 have hq2:m.extra[k]? = some (m.extra.getD k default):=by rw[List.getD,List.getElem?_eq_getElem (by omega)];rfl
 have hqd:=hd _ (List.mem_of_getElem? hq2)
 generalize m.extra.getD k default=q at hsp hqd ⊢
 unfold optRec at hsp
 refine⟨fun c5=>?_,fun c5=>?_⟩
 ·have c5:q.nm≠[0]:=by simpa using c5
  rw [if_pos c5] at hsp
  rw[hsp]
  conv=>whnf
  repeat'(first|exact ⟨⟩|exact rfl|exact .inr rfl|exact .inl rfl|exact fun _ _=>rfl|exact noI|apply And.intro)
 have c5:¬ q.nm≠[0]:=by simpa using c5
 rw [if_neg c5] at hsp
 conv=>whnf
 refine⟨by decide,?_⟩
 conv=>whnf
 refine⟨by decide,?_⟩
 conv=>whnf
 refine .rel _ (ql5 (fun _=>rfl) (open_ok q.d) [_,_,_,_,_,_,_] (fun _=>rfl)) (fun x ks' hR=>?_)
 obtain⟨rfl,rfl⟩:=hR
 conv=>whnf
 refine .nilC 4 5 192 2 (fun _=>[]) _ _ _ _ rfl rfl ?_
 have hr0:(Rdr.mk q.d 0 false).Ok:=⟨by show q.d.length<=_;omega,Nat.zero_le _⟩
 refine .inv OpS (fun x=>x.r.Ok/\x.r.s.length<1099511627776/\x.r.s.length - x.r.p<=x.n/\x.l.length+x.n=q.d.length/\Rdr.opts x.n x.r x.l=Rdr.opts q.d.length ⟨q.d,0,false⟩ []) (fun _=>[]) (fun x=>[(7,x.r.kb),(8,.row 192 2 x.l.length .iff (fun j=>(x.l.getD j default).enc))])
  (fun x=>x.n) ⟨⟨⟨q.d,0,false⟩,[],q.d.length⟩,[0,1,2,3,4,5,6,7,8],⟨hr0,hqd,Nat.sub_le _ _,Nat.zero_add _,rfl⟩,?_⟩ ?_
 ·conv=>whnf
  repeat'(first|exact ⟨⟩|exact rfl|(intro i hi;exact absurd hi (Nat.not_lt_zero _))|apply And.intro)
 intro x hx
 obtain⟨kr,ks,kn,kl,hrest⟩:=hx
 conv=>whnf
 generalize x.r=r at kr ks kn hrest ⊢
 generalize x.l=l at kl hrest ⊢
 generalize x.n=n at kn kl hrest ⊢
 have hql:=kr.len
 have hqp:=kr.p
 have hsub:IntKind.i64.wrap ((r.s.length:Int) - r.p)=(r.s.length:Int) - r.p:=qg _ (by omega)
 refine⟨fun c6=>?_,fun c6=>?_⟩
 ·have c6:r.bad=true:=c6
  rw [Rdr.opts_end (by unfold Rdr.has;rw [c6];rfl)] at hrest
  rw [<-hrest] at hsp
  have hsp:m.get=(Ed.of q l,0):=hsp
  rw[hsp]
  conv=>whnf
  try (refine brF rfl ?_;conv=>whnf)
  repeat'(first|exact ⟨⟩|exact rfl|exact .inr rfl|exact .inl rfl|exact fun _ _=>rfl|exact noI|apply And.intro)
 have c6:r.bad=false:=c6
 conv=>whnf
 rw[hsub]
 refine⟨fun c7=>?_,fun c7=>?_⟩
 ·have c7:r.p<r.s.length:=by
   have h:(r.s.length:Int) - r.p > 0:=of_decide_eq_true c7
   omega
  obtain⟨n,rfl⟩:∃ k,n=k+1:=⟨n - 1,by omega⟩
  have hhas:r.has=true:=by unfold Rdr.has;rw[c6,decide_eq_true c7];rfl
  conv at hrest=>lhs;unfold Rdr.opts
  rw [hhas,cond_true] at hrest
  have hlt:=r.opt_lt
  have hos:=r.opt_s
  unfold Rdr.opt at hrest hlt hos
  dsimp only at hrest hlt hos
  conv=>whnf
  refine .rel _ (jk (zn r kr 2 (.inr (.inl rfl))) [_,_,_,_,_,_,_] [_] _ rfl rfl) (fun x ks' hR=>?_)
  obtain⟨_,q1,⟨rfl,rfl⟩,rfl,rfl⟩:=hR
  have ka:=kr.num 2
  generalize r.num 2=a at ka hrest hlt hos ⊢
  conv=>whnf
  refine .rel _ (jk (zn a.1 ka 2 (.inr (.inl rfl))) [_,_,_,_,_,_,_] [_] _ rfl rfl) (fun x ks' hR=>?_)
  obtain⟨_,q1,⟨rfl,rfl⟩,rfl,rfl⟩:=hR
  have kb:=ka.num 2
  generalize a.1.num 2=b at kb hrest hlt hos ⊢
  conv=>whnf
  refine .rel _ (jk (um b.1 kb (IntKind.i64.wrap b.2) (by rw[IntKind.wrap_i64];omega)) [_,_,_,_,_,_,_] [_] _ rfl rfl) (fun x ks' hR=>?_)
  obtain⟨_,q1,⟨rfl,rfl⟩,rfl,rfl⟩:=hR
  have kc:=kb.raw (IntKind.i64.wrap b.2)
  generalize b.1.raw (IntKind.i64.wrap b.2)=c at kc hrest hlt hos ⊢
  conv=>whnf
  refine⟨fun c8=>?_,fun c8=>?_⟩
  ·have c8:c.1.bad=true:=c8
   rw [c8,cond_true] at hrest
   rw [<-hrest] at hsp
   have hsp:m.get=(Ed.no,2):=hsp
   rw[hsp]
   conv=>whnf
   try (refine brT rfl ?_;conv=>whnf)
   repeat'(first|exact ⟨⟩|exact rfl|exact .inr rfl|exact .inl rfl|exact fun _ _=>rfl|exact noI|apply And.intro)
  have c8:c.1.bad=false:=c8
  rw [c8,cond_false] at hrest
  have hlt:=hlt c8
  conv=>whnf
  refine⟨by omega,?_⟩
  conv=>whnf
  refine⟨⟨c.1,l++[⟨IntKind.u16.wrap a.2,c.2⟩],n⟩,[0,1,2,3,4,5,6,7,11],⟨kc,by rw[hos];exact ks,by rw[hos];show r.s.length - c.1.p<=n;omega,by rw[List.length_append];simp only[List.length_cons,List.length_nil];omega,hrest⟩,Nat.lt_succ_self n,?_⟩
  conv=>whnf
  repeat'(first|exact ⟨⟩|exact rfl|apply And.intro)
  all_goals try exact fun _ _=>rfl
  ·show l.length+1=(l++[_]).length
   rw[List.length_append]
   rfl
  ·intro j hj
   exact opt_cat l ⟨IntKind.u16.wrap a.2,c.2⟩ j hj
 ·have c7:¬ r.p<r.s.length:=by
   have h:¬ (r.s.length:Int) - r.p > 0:=of_decide_eq_false c7
   omega
  rw [Rdr.opts_end (by unfold Rdr.has;rw [decide_eq_false c7,Bool.and_false])] at hrest
  rw [<-hrest] at hsp
  have hsp:m.get=(Ed.of q l,0):=hsp
  rw[hsp]
  conv=>whnf
  repeat'(first|exact ⟨⟩|exact rfl|exact .inr rfl|exact .inl rfl|exact fun _ _=>rfl|exact noI|apply And.intro)
def wt(s:List UInt8):Int × Int × Int :=
 if s.length<12 then (0,0,5) else
 let a:=(Rdr.mk s 0 false).num 2
 (IntKind.u16.wrap a.2,IntKind.u16.wrap (a.1.num 2).2,0)
set_option maxRecDepth 100000 in
theorem mhead_ok(s:List UInt8)(hs:s.length<=9223372036854775807):FnOk Tryz.prog 54 [.d (.str s)] (.tup [.d (.int .u16 (wt s).1),.d (.int .u16 (wt s).2.1),.d (.int .i64 (wt s).2.2)]):=by
 refine qn (TT:=TT) (IN:=qd []) qf qe mixed 1000 Tryz.func54 rfl (qc Tryz.func54 (by kernel_rfl) rfl) rfl 18 (by kernel_rfl) ?_
 conv=>whnf
 refine⟨fun h1=>?_,fun h1=>?_⟩
 ·have h:s.length<12:=by
   have h:(s.length:Int)<12:=of_decide_eq_true h1
   omega
  have e:wt s=(0,0,5):=by unfold wt;rw[if_pos h]
  rw[e]
  conv=>whnf
  exact⟨rfl,rfl,rfl,True.intro⟩
 have h:¬ s.length<12:=by
  have h:¬ (s.length:Int)<12:=of_decide_eq_false h1
  omega
 have e:wt s=(IntKind.u16.wrap ((Rdr.mk s 0 false).num 2).2,IntKind.u16.wrap (((Rdr.mk s 0 false).num 2).1.num 2).2,0):=by unfold wt;rw[if_neg h]
 rw[e]
 have hr:(Rdr.mk s 0 false).Ok:=⟨hs,Nat.zero_le _⟩
 conv=>whnf
 refine .rel _ (open_ok s) (fun x ks' hR=>?_)
 obtain⟨rfl,rfl⟩:=hR
 conv=>whnf
 refine .rel _ (jk (zn ⟨s,0,false⟩ hr 2 (.inr (.inl rfl))) [] [] _ rfl rfl) (fun x ks' hR=>?_)
 obtain⟨_,q,⟨rfl,rfl⟩,rfl,rfl⟩:=hR
 have ha:=hr.num 2
 generalize (Rdr.mk s 0 false).num 2=a at ha ⊢
 conv=>whnf
 refine .rel _ (jk (zn a.1 ha 2 (.inr (.inl rfl))) [] [] _ rfl rfl) (fun x ks' hR=>?_)
 obtain⟨_,q,⟨rfl,rfl⟩,rfl,rfl⟩:=hR
 conv=>whnf
 exact⟨rfl,rfl,rfl,True.intro⟩
set_option maxRecDepth 100000 in
theorem qv8(y:Bool)(a:List Q)(h:y=true->a=[])(ha:a.length<=1000000):FnOk Tryz.prog 45 [.d (qsD y a)] (.d (qsD y a)):=by
 refine qn (TT:=TT) (IN:=qd []) qf qe mixed 1000 Tryz.func45 rfl (qc Tryz.func45 (by kernel_rfl) rfl) rfl 7 (by kernel_rfl) ?_
 conv=>whnf
 refine⟨fun h1=>?_,fun h1=>?_⟩
 ·have h1:y=true:=h1
  rw[h h1,h1]
  conv=>whnf
  exact⟨rfl,rfl,.inl rfl,fun i hi=>absurd hi (Nat.not_lt_zero _)⟩
 ·have h1:y=false:=h1
  rw[h1]
  conv=>whnf
  refine⟨by omega,?_⟩
  conv=>whnf
  refine⟨rfl,Nat.zero_add _,.inr rfl,fun i hi=>?_⟩
  unfold catF
  rw[if_neg (Nat.not_lt_zero _),Nat.sub_zero]
inductive NA (s:List UInt8):Nat->Nat->List (List UInt8)->Nat->Prop
 |done {b p:Nat}:p<s.length->bt s p=0->NA s b p [] (p+1)
 |lab {b p:Nat} {l:List UInt8} {ls:List (List UInt8)} {e:Nat}:okL l->(s.drop p).take (1+l.length)=lab l->NA s b (p+1+l.length) ls e->NA s b p (l :: ls) e
 |ptr {b p t:Nat} {ls:List (List UInt8)} {e:Nat}:p+1<s.length->192<=bt s p->t=(bt s p - 192) * 256+bt s (p+1)->t<b->NA s t t ls e->NA s b p ls (p+2)
theorem bt_app(s t:List UInt8)(p:Nat)(h:p<s.length):bt (s++t) p=bt s p:=by
 unfold bt
 rw[List.getElem?_append_left h]
theorem jb7{s l:List UInt8}{p:Nat}(h:(s.drop p).take (1+l.length)=lab l):p+1+l.length<=s.length:=by
 have:=congrArg List.length h
 rw [zg,List.length_take,List.length_drop] at this
 omega
theorem bt_of_take{s l:List UInt8}{p:Nat}(hl:okL l)(h:(s.drop p).take (1+l.length)=lab l):bt s p=l.length:=by
 have h1:bt (lab l++[]) 0=l.length:=x7 l [] hl
 rw [List.append_nil,<-h] at h1
 rw[<-h1]
 unfold bt
 rw[List.getElem?_take,if_pos (by omega),List.getElem?_drop,Nat.add_zero]
theorem NA.app{s:List UInt8}(t:List UInt8){b p:Nat}{ls:List (List UInt8)}{e:Nat}(h:NA s b p ls e):NA (s++t) b p ls e:=by
 induction h with
 |done h1 h2=>exact .done (by rw[List.length_append];omega) (by rw[bt_app _ _ _ h1];exact h2)
 |lab h1 h2 _ ih =>
  have h3:=jb7 h2
  refine .lab h1 ?_ ih
  rw[List.drop_append_of_le_length (by omega),List.take_append_of_le_length (by rw[List.length_drop];omega)]
  exact h2
 |ptr h1 h2 h3 h4 _ ih =>
  refine .ptr (by rw[List.length_append];omega) (by rw[bt_app _ _ _ (by omega)];exact h2) ?_ h4 ih
  rw[bt_app _ _ _ (by omega),bt_app _ _ _ h1]
  exact h3
theorem rnGo_na{s:List UInt8}{b p:Nat}{ls:List (List UInt8)}{e:Nat}(h:NA s b p ls e):∀ (f:Nat) (bh:Option Nat) (nm:List UInt8),nm.length+(mk ls).length<=255->(400 - nm.length) * (s.length+1)+b+1<=f ->
 rnGo s f b p bh nm=(nm++mk ls,some (bh.getD e)):=by
 induction h with
 |done h1 h2 =>
  intro f bh nm hn hf
  have:(mk []).length=1:=rfl
  cases f with
  |zero=>omega
  |succ f =>
   unfold rnGo
   rw[if_pos ⟨h1,by omega⟩,if_pos h2]
   rfl
 |@lab b p l ls e h1 h2 _ ih =>
  intro f bh nm hn hf
  have h3:=jb7 h2
  have h4:=bt_of_take h1 h2
  have h5:=h1.1
  have h6:=h1.2
  have hp:=uo ls
  have hlen:(mk (l :: ls)).length=1+l.length+(mk ls).length:=by simp[mk,zg]
  cases f with
  |zero=>omega
  |succ f =>
   unfold rnGo
   rw[if_pos ⟨by omega,by omega⟩,if_neg (by omega),if_pos (by omega),h4,h2]
   have h7:(nm++lab l).length=nm.length+1+l.length:=by rw[List.length_append,zg];omega
   rw[ih f bh (nm++lab l) (by omega) ?_]
   ·simp[mk]
   ·rw[h7]
    have h8:(400 - (nm.length+1+l.length)+1) * (s.length+1)<=(400 - nm.length) * (s.length+1):=Nat.mul_le_mul_right _ (by omega)
    rw [Nat.add_mul] at h8
    omega
 |@ptr b p t ls e h1 h2 h3 h4 _ ih =>
  intro f bh nm hn hf
  have hp:=uo ls
  cases f with
  |zero=>omega
  |succ f =>
   unfold rnGo
   rw[if_pos ⟨by omega,by omega⟩,if_neg (by omega),if_neg (by omega),if_pos ⟨h2,h1⟩,<-h3,if_neg (by omega)]
   rw[ih f (some (bh.getD (p+2))) nm hn (by omega)]
   rfl
theorem name_na{s:List UInt8}{p:Nat}{ls:List (List UInt8)}{e:Nat}(h:NA s p p ls e)(hl:∀ l ∈ ls,okL l)(hn:(mk ls).length<=255):(Rdr.mk s p false).name=(⟨s,e,false⟩,mk ls):=by
 have h1:y8 s p=(mk ls,some e):=by
  have:=rnGo_na h (uk s p []+1) none [] (by simpa using hn) (Nat.le_refl _)
  unfold y8
  simpa using this
 exact Rdr.name_ok rfl h1 ((qe0 _).2 ⟨hn,ls,hl,rfl⟩)
def RO(w:Wr):Prop:=∀ x ∈ w.rests,∃ ls k e,(∀ l ∈ ls,okL l)/\x.1=mk ls/\x.2=((k:Nat):Int)/\k<16384/\k<w.buf.length/\NA w.buf k k ls e
theorem ql4{w:Wr}{s:List UInt8}(h:(w.piece s).full=false):w.fits s=true/\w.piece s = { w with buf:=w.buf++s }/\w.full=false:=by
 unfold Wr.piece at h ⊢
 split at h
 ·rename_i hf
  refine⟨hf,by rw[if_pos hf],?_⟩
  unfold Wr.fits at hf
  cases hw:w.full
  ·rfl
  ·rw [hw] at hf;simp at hf
 ·cases h
theorem RO.more{w w':Wr}(h:RO w){d:List UInt8}(hb:w'.buf=w.buf++d)(hr:w'.rests=w.rests):RO w':=by
 intro x hx
 rw [hr] at hx
 obtain⟨ls,k,e,h1,h2,h3,h4,h5,h6⟩:=h x hx
 refine⟨ls,k,e,h1,h2,h3,h4,by rw[hb,List.length_append];omega,?_⟩
 rw[hb]
 exact h6.app d
theorem be2(n:Nat)(h:n<65536):be 2 (n:Int)=[UInt8.ofNat (n / 256),UInt8.ofNat (n % 256)]:=by
 have h1:be 2 (n:Int)=[UInt8.ofNat (IntKind.u8.wrap ((n:Int).fdiv 256)).toNat,UInt8.ofNat (IntKind.u8.wrap ((n:Int).fdiv 1)).toNat]:=rfl
 rw[h1,Int.fdiv_eq_ediv_of_nonneg _ (by decide),Int.fdiv_eq_ediv_of_nonneg _ (by decide),IntKind.wrap_u8,IntKind.wrap_u8]
 congr 2
 ·omega
 ·congr 1
  omega
theorem qf7{w:Wr}{s:List UInt8}(h:(w.piece s).full=false):(w.piece s).rests=w.rests/\(w.piece s).buf=w.buf++s/\(w.piece s).limit=w.limit:=by
 rw[(ql4 h).2.1]
 exact⟨rfl,rfl,rfl⟩
theorem jd9(l:List UInt8)(ls:List (List UInt8)):(mk (l :: ls)).length=1+l.length+(mk ls).length:=by simp[mk,zg]
theorem NA.fin(s:List UInt8)(b:Nat):NA (s++[0]) b s.length [] (s.length+1):=by
 refine .done (by simp) ?_
 unfold bt
 rw[List.getElem?_append_right (Nat.le_refl _),Nat.sub_self]
 rfl
theorem nameGo_back(p:Bool)(st:Nat):∀ (m:Nat) (w:Wr) (ls:List (List UInt8)),(∀ l ∈ ls,okL l)->ls.length<=m->st<=w.buf.length ->
 (∀ x ∈ w.rests,(mk ls).length<x.1.length\/∃ ls' k e,(∀ l ∈ ls',okL l)/\x.1=mk ls'/\x.2=((k:Nat):Int)/\k<16384/\k<st/\NA w.buf k k ls' e) ->
 (Wr.nameGo p m w (mk ls)).full=false ->
 ∃ d new,(Wr.nameGo p m w (mk ls)).buf=w.buf++d/\(Wr.nameGo p m w (mk ls)).rests=w.rests++new /\
  (∀ b,st<=b->NA (w.buf++d) b w.buf.length ls (w.buf.length+d.length)) /\
  (∀ x ∈ new,∃ ls' k,(∀ l ∈ ls',okL l)/\x.1=mk ls'/\x.2=((k:Nat):Int)/\k<16384/\w.buf.length<=k/\k<w.buf.length+d.length/\NA (w.buf++d) k k ls' (w.buf.length+d.length)):=by
 have nil:∀ w:Wr,(w.piece (mk [])).full=false->∃ d new,(w.piece (mk [])).buf=w.buf++d/\(w.piece (mk [])).rests=w.rests++new /\
  (∀ b,st<=b->NA (w.buf++d) b w.buf.length [] (w.buf.length+d.length)) /\
  (∀ x ∈ new,∃ ls' k,(∀ l ∈ ls',okL l)/\x.1=mk ls'/\x.2=((k:Nat):Int)/\k<16384/\w.buf.length<=k/\k<w.buf.length+d.length/\NA (w.buf++d) k k ls' (w.buf.length+d.length)):=by
  intro w h
  obtain⟨h1,h2,_⟩:=qf7 h
  exact⟨[0],[],h2,by rw[h1,List.append_nil],fun b _=>NA.fin w.buf b,fun x hx=>by cases hx⟩
 intro m
 induction m with
 |zero =>
  intro w ls hl hm hst hr hf
  cases ls with
  |nil=>exact nil w hf
  |cons l ls=>simp at hm
 |succ m ih =>
  intro w ls hl hm hst hr hf
  cases ls with
  |nil =>
   have e:Wr.nameGo p (m+1) w (mk [])=w.piece (mk []):=by
    show(if 1<(mk []).length then _ else w.piece (mk []))=_
    exact if_neg (by decide)
   rw [e] at hf ⊢
   exact nil w hf
  |cons l ls =>
   have hol:=hl l (List.mem_cons_self ..)
   have hls:∀ x ∈ ls,okL x:=fun x hx=>hl x (List.mem_cons_of_mem _ hx)
   have hlen:=jd9 l ls
   have hp:=uo ls
   have h1:bt (mk (l :: ls)) 0=l.length:=x7 l (mk ls) hol
   have h2:(mk (l :: ls)).take (1+l.length)=lab l:=qq4 l (mk ls)
   have h3:(mk (l :: ls)).drop (1+l.length)=mk ls:=u7 l (mk ls)
   have hol1:=hol.1
   -- one label,then the rest
   have go:∀ (w1:Wr) (add:List (List UInt8 × Int)),w1.buf=w.buf++lab l->w1.rests=w.rests++add->(∀ x ∈ add,x=(mk (l :: ls),(w.buf.length:Int))/\w.buf.length<16384) ->
    (Wr.nameGo p m w1 (mk ls)).full=false->∃ d new,(Wr.nameGo p m w1 (mk ls)).buf=w.buf++d/\(Wr.nameGo p m w1 (mk ls)).rests=w.rests++new /\
    (∀ b,st<=b->NA (w.buf++d) b w.buf.length (l :: ls) (w.buf.length+d.length)) /\
    (∀ x ∈ new,∃ ls' k,(∀ l ∈ ls',okL l)/\x.1=mk ls'/\x.2=((k:Nat):Int)/\k<16384/\w.buf.length<=k/\k<w.buf.length+d.length/\NA (w.buf++d) k k ls' (w.buf.length+d.length)):=by
    intro w1 add hb1 hr1 hadd hf1
    have hbl:w1.buf.length=w.buf.length+1+l.length:=by rw[hb1,List.length_append,zg];omega
    obtain⟨d,new,k1,k2,k3,k4⟩:=ih w1 ls hls (by simpa using hm) (by omega) (fun x hx=>by
     rw [hr1] at hx
     rcases List.mem_append.1 hx with hx|hx
     ·rcases hr x hx with h|⟨ls',k,e,a1,a2,a3,a4,a5,a6⟩
      ·exact .inl (by omega)
      ·exact .inr ⟨ls',k,e,a1,a2,a3,a4,a5,by rw[hb1];exact a6.app _⟩
     ·rw[(hadd x hx).1]
      exact .inl (by show(mk ls).length<(mk (l :: ls)).length;omega)) hf1
    have hdd:(lab l++d).length=1+l.length+d.length:=by rw[List.length_append,zg]
    have hww:w1.buf++d=w.buf++(lab l++d):=by rw[hb1,List.append_assoc]
    have hna:∀ b,st<=b->NA (w.buf++(lab l++d)) b w.buf.length (l :: ls) (w.buf.length+(lab l++d).length):=by
     intro b hb
     refine .lab hol ?_ ?_
     ·rw[List.drop_left,<-zg,List.take_left]
     ·have:=k3 b hb
      rw [hww,hbl] at this
      rw[hdd,show w.buf.length+(1+l.length+d.length)=w.buf.length+1+l.length+d.length by omega]
      exact this
    refine⟨lab l++d,add++new,by rw[k1,hww],by rw[k2,hr1,List.append_assoc],hna,fun x hx=>?_⟩
    rcases List.mem_append.1 hx with hx|hx
    ·obtain⟨rfl,hlt⟩:=hadd x hx
     exact⟨l :: ls,w.buf.length,hl,rfl,rfl,hlt,Nat.le_refl _,by omega,hna _ hst⟩
    ·obtain⟨ls',k,a1,a2,a3,a4,a5,a6,a7⟩:=k4 x hx
     refine⟨ls',k,a1,a2,a3,a4,by omega,by omega,?_⟩
     rw [hww,hbl] at a7
     rw[hdd,show w.buf.length+(1+l.length+d.length)=w.buf.length+1+l.length+d.length by omega]
     exact a7
   have e:Wr.nameGo p (m+1) w (mk (l :: ls))=(match fndS w.rests (mk (l :: ls)) with
    |some a=>if p then w.num 2 (49152+a) else
     if w.fits (lab l) then Wr.nameGo p m (w.piece (lab l)) (mk ls) else w.piece (lab l)
    |none =>
     if w.fits (lab l) then Wr.nameGo p m (if w.buf.length<16384 then { w.piece (lab l) with rests:=w.rests++[(mk (l :: ls),(w.buf.length:Int))] } else w.piece (lab l)) (mk ls)
     else w.piece (lab l)):=by
    show(if 1<(mk (l :: ls)).length then _ else _)=_
    rw[if_pos (by omega),h1,h2,h3]
    try rfl
   rw [e] at hf ⊢
   clear e
   have fit:∀ {X:Wr},(if w.fits (lab l) then X else w.piece (lab l)).full=false->w.fits (lab l)=true:=by
    intro X h
    cases hx:w.fits (lab l)
    ·rw [hx,if_neg (by simp)] at h
     rw [(ql4 h).1] at hx
     cases hx
    ·rfl
   cases hfd:fndS w.rests (mk (l :: ls)) with
   |some a =>
    rw [hfd] at hf
    cases p with
    |false =>
     simp only [Bool.false_eq_true,if_false] at hf ⊢
     have hfit:=fit hf
     rw [if_pos hfit] at hf ⊢
     exact go (w.piece (lab l)) [] (by unfold Wr.piece;rw[if_pos hfit]) (by unfold Wr.piece;rw[if_pos hfit];exact(List.append_nil _).symm) (fun x hx=>by cases hx) hf
    |true =>
     simp only [if_true] at hf ⊢
     rcases hr _ (fndS_mem hfd) with h|⟨ls',k,e,a1,a2,a3,a4,a5,a6⟩
     ·exact absurd h (Nat.lt_irrefl _)
     ·have a2:mk (l :: ls)=mk ls':=a2
      have a3:a=(k:Int):=a3
      have:=mk_inj hl a1 a2
      subst this
      subst a3
      have hbe:be 2 (49152+(k:Int))=[UInt8.ofNat ((49152+k) / 256),UInt8.ofNat ((49152+k) % 256)]:=be2 (49152+k) (by omega)
      unfold Wr.num at hf ⊢
      rw [hbe] at hf ⊢
      obtain⟨b1,b2,_⟩:=qf7 hf
      refine⟨_,[],b2,by rw[b1,List.append_nil],fun b hb=>?_,fun x hx=>by cases hx⟩
      have c1:bt (w.buf++[UInt8.ofNat ((49152+k) / 256),UInt8.ofNat ((49152+k) % 256)]) w.buf.length=(49152+k) / 256:=by
       unfold bt
       rw[List.getElem?_append_right (Nat.le_refl _),Nat.sub_self]
       show(UInt8.ofNat ((49152+k) / 256)).toNat=_
       exact qd4 (by omega)
      have c2:bt (w.buf++[UInt8.ofNat ((49152+k) / 256),UInt8.ofNat ((49152+k) % 256)]) (w.buf.length+1)=(49152+k) % 256:=by
       unfold bt
       rw[List.getElem?_append_right (by omega),show w.buf.length+1 - w.buf.length=1 by omega]
       show(UInt8.ofNat ((49152+k) % 256)).toNat=_
       exact qd4 (by omega)
      exact .ptr (t:=k) (by simp) (by rw[c1];omega) (by rw[c1,c2];omega) (by omega) (a6.app _)
   |none =>
    rw [hfd] at hf
    simp only at hf ⊢
    have hfit:=fit hf
    rw [if_pos hfit] at hf ⊢
    have hpc:w.piece (lab l) = { w with buf:=w.buf++lab l }:=by unfold Wr.piece;rw[if_pos hfit]
    by_cases hlt:w.buf.length<16384
    ·rw [if_pos hlt] at hf ⊢
     rw [hpc] at hf ⊢
     exact go _ [(mk (l :: ls),(w.buf.length:Int))] rfl rfl (fun x hx=>⟨List.mem_singleton.1 hx,hlt⟩) hf
    ·rw [if_neg hlt] at hf ⊢
     rw [hpc] at hf ⊢
     exact go _ [] rfl (List.append_nil _).symm (fun x hx=>by cases hx) hf
theorem mk_many(ls:List (List UInt8)):ls.length<=(mk ls).length:=by
 induction ls with
 |nil=>exact Nat.zero_le _
 |cons l ls ih=>rw[jd9];simp only[List.length_cons];omega
def Reads{α:Type}(w w1:Wr)(f:Rdr->Rdr × α)(v:α):Prop:=∀ S,w1.buf <+: S->f ⟨S,w.buf.length,false⟩=(⟨S,w1.buf.length,false⟩,v)
theorem qw0{w:Wr}(hw:w.full=false)(hro:RO w){n:List UInt8}(hn:qh n)(p:Bool)(hf:(w.name n p).full=false) :
 RO (w.name n p)/\w.buf <+: (w.name n p).buf/\Reads w (w.name n p) Rdr.name n:=by
 obtain⟨h255,ls,hl,rfl⟩:=(qe0 n).1 hn
 have e:w.name (mk ls) p=Wr.nameGo p (mk ls).length w (mk ls):=by
  unfold Wr.name
  rw[if_neg (by rw[hw];simp[hn])]
 rw [e] at hf ⊢
 obtain⟨d,new,h1,h2,h3,h4⟩:=nameGo_back p w.buf.length _ w ls hl (mk_many ls) (Nat.le_refl _) (fun x hx=>by
  obtain⟨ls',k,e,a1,a2,a3,a4,a5,a6⟩:=hro x hx
  exact .inr ⟨ls',k,e,a1,a2,a3,a4,a5,a6⟩) hf
 refine⟨fun x hx=>?_,⟨d,h1.symm⟩,fun S ⟨t,ht⟩=>?_⟩
 ·rw [h2] at hx
  rw[h1]
  rcases List.mem_append.1 hx with hx|hx
  ·obtain⟨ls',k,e,a1,a2,a3,a4,a5,a6⟩:=hro x hx
   exact⟨ls',k,e,a1,a2,a3,a4,by rw[List.length_append];omega,a6.app d⟩
  ·obtain⟨ls',k,a1,a2,a3,a4,a5,a6,a7⟩:=h4 x hx
   exact⟨ls',k,_,a1,a2,a3,a4,by rw[List.length_append];omega,a7⟩
 ·rw[<-ht,h1]
  have:=name_na ((h3 _ (Nat.le_refl _)).app t) hl h255
  rw[this,List.length_append]
theorem raw_back(b x t:List UInt8):(Rdr.mk (b++x++t) b.length false).raw x.length=(⟨b++x++t,(b++x).length,false⟩,x):=by
 unfold Rdr.raw
 rw[if_neg (by simp),if_neg (by simp;omega)]
 have e1:(((b++x++t).drop b.length).take x.length)=x:=by
  rw[List.append_assoc,List.drop_left,List.take_left]
 simp only[Int.toNat_natCast]
 rw[e1,List.length_append]
theorem numOf2(n:Nat)(h:n<65536):yt (be 2 (n:Int))=n:=by
 rw[be2 n h]
 show(0 * 256+(UInt8.ofNat (n / 256)).toNat) * 256+(UInt8.ofNat (n % 256)).toNat=n
 rw[qd4 (by omega),qd4 (by omega)]
 omega
theorem numOf4(n:Nat)(h:n<4294967296):yt (be 4 (n:Int))=n:=by
 have h1:be 4 (n:Int)=[UInt8.ofNat (IntKind.u8.wrap ((n:Int).fdiv 16777216)).toNat,UInt8.ofNat (IntKind.u8.wrap ((n:Int).fdiv 65536)).toNat,UInt8.ofNat (IntKind.u8.wrap ((n:Int).fdiv 256)).toNat,UInt8.ofNat (IntKind.u8.wrap ((n:Int).fdiv 1)).toNat]:=rfl
 rw[h1]
 rw[Int.fdiv_eq_ediv_of_nonneg _ (by decide),Int.fdiv_eq_ediv_of_nonneg _ (by decide),Int.fdiv_eq_ediv_of_nonneg _ (by decide),Int.fdiv_eq_ediv_of_nonneg _ (by decide)]
 show(((0 * 256+(UInt8.ofNat _).toNat) * 256+(UInt8.ofNat _).toNat) * 256+(UInt8.ofNat _).toNat) * 256+(UInt8.ofNat _).toNat=n
 have e:=u8_byte
 have e1:=e ((n:Int) / 16777216)
 have e2:=e ((n:Int) / 65536)
 have e3:=e ((n:Int) / 256)
 have e4:=e ((n:Int) / 1)
 rw [IntKind.wrap_u8] at e1 e2 e3 e4
 rw[IntKind.wrap_u8,IntKind.wrap_u8,IntKind.wrap_u8,IntKind.wrap_u8]
 omega
theorem wo{w:Wr}(hro:RO w)(k:Nat)(n:Nat)(hk:k=2/\n<65536\/k=4/\n<4294967296)(hf:(w.num k (n:Int)).full=false) :
 w.full=false/\RO (w.num k (n:Int))/\w.buf <+: (w.num k (n:Int)).buf/\Reads w (w.num k (n:Int)) (fun r=>r.num k) n:=by
 have hlen:(be k (n:Int)).length=k:=by rcases hk with⟨rfl,_⟩|⟨rfl,_⟩ <;> rfl
 have hnum:yt (be k (n:Int))=n:=by
  rcases hk with⟨rfl,h⟩|⟨rfl,h⟩
  ·exact numOf2 n h
  ·exact numOf4 n h
 unfold Wr.num at hf ⊢
 obtain⟨h1,h2,h3⟩:=qf7 hf
 refine⟨(ql4 hf).2.2,hro.more h2 h1,⟨_,h2.symm⟩,fun S ⟨t,ht⟩=>?_⟩
 rw[<-ht,h2]
 have:=raw_back w.buf (be k (n:Int)) t
 rw [hlen] at this
 show(Rdr.mk (w.buf++be k (n:Int)++t) w.buf.length false).num k=_
 unfold Rdr.num
 rw[this]
 show(_,if false=true then 0 else yt (be k (n:Int)))=_
 rw[if_neg (by simp),hnum]
def Wr.re(w:Wr)(b:List UInt8):Wr:={ w with buf:=b }
structure WOp(f:Wr->Wr):Prop where
 blind:∀ w,∃ d,(f w).buf=w.buf++d/\∀ b,b.length=w.buf.length->f (w.re b)=(f w).re (b++d)
 full:∀ w,(f w).full=false->w.full=false
 lim:∀ w,(f w).limit=w.limit
theorem WOp.id:WOp (fun w=>w):=⟨fun w=>⟨[],(List.append_nil _).symm,fun b _=>by rw[List.append_nil]⟩,fun _ h=>h,fun _=>rfl⟩
theorem WOp.comp{f g:Wr->Wr}(hf:WOp f)(hg:WOp g):WOp (fun w=>g (f w)):=by
 refine⟨fun w=>?_,fun w h=>hf.full w (hg.full _ h),fun w=>(hg.lim _).trans (hf.lim w)⟩
 obtain⟨d1,a1,a2⟩:=hf.blind w
 obtain⟨d2,b1,b2⟩:=hg.blind (f w)
 refine⟨d1++d2,by rw[b1,a1,List.append_assoc],fun b hb=>?_⟩
 show g (f (w.re b))=_
 rw[a2 b hb,b2 (b++d1) (by rw[a1,List.length_append,List.length_append,hb]),List.append_assoc]
theorem WOp.of{f:Wr->Wr}(h:∀ w,∃ g,WOp g/\f w=g w/\∀ b,b.length=w.buf.length->f (w.re b)=g (w.re b)):WOp f:=by
 refine⟨fun w=>?_,fun w=>?_,fun w=>?_⟩ <;> obtain⟨g,hg,h1,h2⟩:=h w
 ·obtain⟨d,a1,a2⟩:=hg.blind w
  refine⟨d,by rw[h1,a1],fun b hb=>?_⟩
  rw[h2 b hb,h1]
  exact a2 b hb
 ·rw[h1]
  exact hg.full w
 ·rw[h1]
  exact hg.lim w
theorem qf5(w:Wr){b:List UInt8}(s:List UInt8)(h:b.length=w.buf.length):(w.re b).fits s=w.fits s:=by
 show(!w.full && (decide (s.length=0) || decide ((s.length:Int)<=w.limit - b.length)))=_
 rw[h]
 rfl
theorem qh1(s:List UInt8):WOp (fun w=>w.piece s):=by
 refine⟨fun w=>?_,fun w h=>(ql4 h).2.2,fun w=>by show(w.piece s).limit=_;unfold Wr.piece;split <;> rfl⟩
 cases hf:w.fits s
 ·refine⟨[],by show(w.piece s).buf=_;unfold Wr.piece;rw[hf,List.append_nil];rfl,fun b hb=>?_⟩
  show(w.re b).piece s=(w.piece s).re (b++[])
  unfold Wr.piece
  rw[qf5 w s hb,hf,List.append_nil]
  rfl
 ·refine⟨s,by show(w.piece s).buf=_;unfold Wr.piece;rw[hf];rfl,fun b hb=>?_⟩
  show(w.re b).piece s=(w.piece s).re (b++s)
  unfold Wr.piece
  rw[qf5 w s hb,hf]
  rfl
theorem add_op(e:List UInt8 × Int):WOp (fun w=>{ w with rests:=w.rests++[e] }) :=
 ⟨fun w=>⟨[],(List.append_nil _).symm,fun b _=>by rw[List.append_nil];rfl⟩,fun _ h=>h,fun _=>rfl⟩
theorem nameGo_op(p:Bool):∀ (m:Nat) (n:List UInt8),WOp (fun w=>Wr.nameGo p m w n)
 |0,n=>qh1 n
 |m+1,n=>by
  have ih:=nameGo_op p m (n.drop (1+bt n 0))
  have hpc:=qh1 (n.take (1+bt n 0))
  refine WOp.of fun w=>?_
  by_cases h1:1<n.length
  ·cases h2:fndS w.rests n with
   |some a =>
    cases p with
    |true =>
     refine⟨fun w=>w.num 2 (49152+a),qh1 _,?_,fun b _=>?_⟩
     ·simp only[Wr.nameGo,if_pos h1,h2,if_true]
     ·simp only[Wr.nameGo,if_pos h1,Wr.re,h2,if_true]
    |false =>
     cases h3:w.fits (n.take (1+bt n 0)) with
     |true =>
      refine⟨_,hpc.comp ih,?_,fun b hb=>?_⟩
      ·simp only[Wr.nameGo,if_pos h1,h2,h3,if_true,Bool.false_eq_true,if_false]
      ·have h4:(w.re b).fits (n.take (1+bt n 0))=true:=(qf5 w _ hb).trans h3
       have h5:fndS (w.re b).rests n=some a:=h2
       simp only[Wr.nameGo,if_pos h1,h5,h4,if_true,Bool.false_eq_true,if_false]
     |false =>
      refine⟨_,hpc,?_,fun b hb=>?_⟩
      ·simp only[Wr.nameGo,if_pos h1,h2,h3,Bool.false_eq_true,if_false]
      ·have h4:(w.re b).fits (n.take (1+bt n 0))=false:=(qf5 w _ hb).trans h3
       have h5:fndS (w.re b).rests n=some a:=h2
       simp only[Wr.nameGo,if_pos h1,h5,h4,Bool.false_eq_true,if_false]
   |none =>
    cases h3:w.fits (n.take (1+bt n 0)) with
    |true =>
     have hpb:∀ w:Wr,w.fits (n.take (1+bt n 0))=true->(w.piece (n.take (1+bt n 0))).rests=w.rests:=fun w h=>by unfold Wr.piece;rw[if_pos h]
     by_cases h6:w.buf.length<16384
     ·refine⟨_,(hpc.comp (add_op (n,(w.buf.length:Int)))).comp ih,?_,fun b hb=>?_⟩
      ·simp only[Wr.nameGo,if_pos h1,h2,h3,if_true,if_pos h6,hpb w h3]
      ·have h4:(w.re b).fits (n.take (1+bt n 0))=true:=(qf5 w _ hb).trans h3
       have h5:fndS (w.re b).rests n=none:=h2
       have h7:(w.re b).buf.length=w.buf.length:=hb
       simp only[Wr.nameGo,if_pos h1,h5,h4,if_true,h7,if_pos h6,hpb _ h4]
     ·refine⟨_,hpc.comp ih,?_,fun b hb=>?_⟩
      ·simp only[Wr.nameGo,if_pos h1,h2,h3,if_true,if_neg h6]
      ·have h4:(w.re b).fits (n.take (1+bt n 0))=true:=(qf5 w _ hb).trans h3
       have h5:fndS (w.re b).rests n=none:=h2
       have h7:(w.re b).buf.length=w.buf.length:=hb
       simp only[Wr.nameGo,if_pos h1,h5,h4,if_true,h7,if_neg h6]
    |false =>
     refine⟨_,hpc,?_,fun b hb=>?_⟩
     ·simp only[Wr.nameGo,if_pos h1,h2,h3,Bool.false_eq_true,if_false]
     ·have h4:(w.re b).fits (n.take (1+bt n 0))=false:=(qf5 w _ hb).trans h3
      have h5:fndS (w.re b).rests n=none:=h2
      simp only[Wr.nameGo,if_pos h1,h5,h4,Bool.false_eq_true,if_false]
  ·refine⟨_,qh1 n,?_,fun b _=>?_⟩
   ·simp only[Wr.nameGo,if_neg h1]
   ·simp only[Wr.nameGo,if_neg h1]
theorem qc6(n:List UInt8)(p:Bool):WOp (fun w=>w.name n p):=by
 refine WOp.of fun w=>?_
 by_cases h:w.full=true\/¬ qh n
 ·exact⟨_,WOp.id,by show w.name n p=_;unfold Wr.name;rw[if_pos h],fun b _=>by show(w.re b).name n p=_;unfold Wr.name;exact if_pos h⟩
 ·exact⟨_,nameGo_op p n.length n,by show w.name n p=_;unfold Wr.name;rw[if_neg h],fun b _=>by show(w.re b).name n p=_;unfold Wr.name;exact if_neg h⟩
theorem qm4(p:Bool)(l:List (List UInt8)):WOp (fun w=>w.names p l):=by
 induction l with
 |nil=>exact WOp.id
 |cons n l ih=>exact(qc6 n p).comp ih
theorem jq(k:Nat)(n:Int):WOp (fun w=>w.num k n):=qh1 _
theorem qg7(width:Nat):∀ (m:Nat) (r:Rdr),WOp (fun w=>(w.copies width m r).1)
 |0,_=>WOp.id
 |m+1,_=>(jq width _).comp (qg7 width m _)
theorem qc0(t:Int)(s:List UInt8):WOp (fun w=>(w.rdata t s).1):=by
 cases h:yb t s
 ·have e:(fun w:Wr=>(w.rdata t s).1)=fun w=>w:=funext fun w=>by unfold Wr.rdata;rw[h];rfl
  rw[e]
  exact WOp.id
 ·cases hl:yf t s with
  |none =>
   have e:(fun w:Wr=>(w.rdata t s).1)=fun w=>w.piece s:=funext fun w=>by unfold Wr.rdata;rw[h,hl];rfl
   rw[e]
   exact qh1 s
  |some q =>
   obtain⟨p,x,l,r⟩:=q
   have e:(fun w:Wr=>(w.rdata t s).1)=fun w=>(((w.copies 2 p.1 ⟨x,0,false⟩).1.names (t != 33) l).copies 4 p.2.2 ⟨r,0,false⟩).1:=funext fun w=>by unfold Wr.rdata;rw[h,hl];rfl
   rw[e]
   exact((qg7 2 p.1 _).comp (qm4 _ l)).comp (qg7 4 p.2.2 _)
theorem WOp.pre{f:Wr->Wr}(h:WOp f)(w:Wr):w.buf <+: (f w).buf:=by
 obtain⟨d,h1,_⟩:=h.blind w
 exact⟨d,h1.symm⟩
theorem namesF_eq:∀ (n:Nat) (s:List UInt8) (l:List (List UInt8)) (r:List UInt8),z8 n s=some (l,r)->l.flatten++r=s/\l.length=n/\∀ x ∈ l,qh x
 |0,s,l,r,h=>by
  obtain⟨rfl,rfl⟩:=Prod.mk.inj (Option.some.inj h)
  exact⟨rfl,rfl,fun x hx=>by cases hx⟩
 |n+1,s,l,r,h=>by
  simp only [z8] at h
  split at h
  ·cases h
  ·rename_i h0
   obtain⟨p,hp,h2⟩:=Option.map_eq_some_iff.1 h
   obtain⟨rfl,rfl⟩:=Prod.mk.inj h2
   obtain⟨a1,a2,a3⟩:=namesF_eq n _ _ _ hp
   refine⟨?_,by simp[a2],fun x hx=>?_⟩
   ·rw[List.flatten_cons,List.append_assoc,a1,List.take_append_drop]
   ·rcases List.mem_cons.1 hx with rfl|hx
    ·exact firstF_name s _ _ h0
    ·exact a3 x hx
theorem numOf_be(k:Nat)(hk:k=2\/k=4)(x:List UInt8)(hx:x.length=k):be k (yt x:Nat)=x/\(k=2/\yt x<65536\/k=4/\yt x<4294967296):=by
 rcases hk with rfl|rfl
 ·obtain⟨a,b,rfl⟩:∃ a b,x=[a,b]:=(match x,hx with|[a,b],_=>⟨a,b,rfl⟩)
  have ha:=UInt8.toNat_lt a
  have hb:=UInt8.toNat_lt b
  have e:yt [a,b]=a.toNat * 256+b.toNat:=by show(0 * 256+a.toNat) * 256+b.toNat=_;omega
  rw[e]
  refine⟨?_,.inl ⟨rfl,by omega⟩⟩
  rw[be2 _ (by omega)]
  have e1:(a.toNat * 256+b.toNat) / 256=a.toNat:=by omega
  have e2:(a.toNat * 256+b.toNat) % 256=b.toNat:=by omega
  rw[e1,e2,UInt8.ofNat_toNat,UInt8.ofNat_toNat]
 ·obtain⟨a,b,c,d,rfl⟩:∃ a b c d,x=[a,b,c,d]:=(match x,hx with|[a,b,c,d],_=>⟨a,b,c,d,rfl⟩)
  have ha:=UInt8.toNat_lt a
  have hb:=UInt8.toNat_lt b
  have hc:=UInt8.toNat_lt c
  have hd:=UInt8.toNat_lt d
  have e:yt [a,b,c,d]=((a.toNat * 256+b.toNat) * 256+c.toNat) * 256+d.toNat:=by show(((0 * 256+a.toNat) * 256+b.toNat) * 256+c.toNat) * 256+d.toNat=_;omega
  rw[e]
  refine⟨?_,.inr ⟨rfl,by omega⟩⟩
  have h1:∀ n:Nat,be 4 (n:Int)=[UInt8.ofNat (IntKind.u8.wrap ((n:Int).fdiv 16777216)).toNat,UInt8.ofNat (IntKind.u8.wrap ((n:Int).fdiv 65536)).toNat,UInt8.ofNat (IntKind.u8.wrap ((n:Int).fdiv 256)).toNat,UInt8.ofNat (IntKind.u8.wrap ((n:Int).fdiv 1)).toNat]:=fun n=>rfl
  rw[h1]
  rw[Int.fdiv_eq_ediv_of_nonneg _ (by decide),Int.fdiv_eq_ediv_of_nonneg _ (by decide),Int.fdiv_eq_ediv_of_nonneg _ (by decide),Int.fdiv_eq_ediv_of_nonneg _ (by decide)]
  rw[IntKind.wrap_u8,IntKind.wrap_u8,IntKind.wrap_u8,IntKind.wrap_u8]
  generalize hN:((a.toNat * 256+b.toNat) * 256+c.toNat) * 256+d.toNat=N
  have e1:(((N:Int) / 16777216 % 256).toNat)=a.toNat:=by omega
  have e2:(((N:Int) / 65536 % 256).toNat)=b.toNat:=by omega
  have e3:(((N:Int) / 256 % 256).toNat)=c.toNat:=by omega
  have e4:(((N:Int) / 1 % 256).toNat)=d.toNat:=by omega
  rw[e1,e2,e3,e4,UInt8.ofNat_toNat,UInt8.ofNat_toNat,UInt8.ofNat_toNat,UInt8.ofNat_toNat]
theorem qu0(k:Nat)(hk:k=2\/k=4):∀ (m:Nat) (w:Wr) (x:List UInt8) (p:Nat),p+k * m=x.length->(w.copies k m ⟨x,p,false⟩).1.full=false ->
 (w.copies k m ⟨x,p,false⟩).1.buf=w.buf++x.drop p/\(w.copies k m ⟨x,p,false⟩).1.rests=w.rests
 |0,w,x,p,hp,_=>by
  show w.buf=w.buf++x.drop p/\_
  rw[List.drop_of_length_le (by omega),List.append_nil]
  exact⟨rfl,rfl⟩
 |m+1,w,x,p,hp,hf=>by
  have hmul:k * (m+1)=k * m+k:=rfl
  have hk0:0<k:=by omega
  have hraw:(Rdr.mk x p false).raw (k:Nat)=(⟨x,p+k,false⟩,(x.drop p).take k):=by
   unfold Rdr.raw
   rw[if_neg (by simp),if_neg (by show ¬ (((k:Nat):Int)<0\/((k:Nat):Int) > (x.length:Int) - p);omega),Int.toNat_natCast]
  have hnum:(Rdr.mk x p false).num k=(⟨x,p+k,false⟩,yt ((x.drop p).take k)):=by
   unfold Rdr.num
   rw[hraw]
   rfl
  have hxl:((x.drop p).take k).length=k:=by rw[List.length_take,List.length_drop];omega
  obtain⟨hbe,_⟩:=numOf_be k hk _ hxl
  have e:w.copies k (m+1) ⟨x,p,false⟩=(w.piece ((x.drop p).take k)).copies k m ⟨x,p+k,false⟩:=by
   show(w.num k ((Rdr.mk x p false).num k).2).copies k m ((Rdr.mk x p false).num k).1=_
   rw[hnum]
   show(w.piece (be k ((yt ((x.drop p).take k):Nat):Int))).copies k m _=_
   rw[hbe]
  rw [e] at hf ⊢
  obtain⟨a1,a2⟩:=qu0 k hk m _ x (p+k) (by omega) hf
  have hpf:(w.piece ((x.drop p).take k)).full=false:=(qg7 k m _).full _ hf
  obtain⟨b1,b2,_⟩:=qf7 hpf
  refine⟨?_,a2.trans b1⟩
  rw[a1,b2,List.append_assoc,<-List.drop_drop,List.take_append_drop]
theorem jh1(p:Bool):∀ (l:List (List UInt8)) (w:Wr),(∀ n ∈ l,qh n)->RO w->(w.names p l).full=false ->
 RO (w.names p l)/\∀ b,Reads w (w.names p l) (fun r=>Rdr.names l.length r b) (b++l.flatten)
 |[],w,_,hro,_=>⟨hro,fun b S _=>by show(_,b)=_;simp[Wr.names]⟩
 |n :: l,w,hl,hro,hf=>by
  have hf:((w.name n p).names p l).full=false:=hf
  have h1:=(qm4 p l).full _ hf
  have h0:=(qc6 n p).full _ h1
  obtain⟨a1,_,a3⟩:=qw0 h0 hro (hl n (List.mem_cons_self ..)) p h1
  obtain⟨b1,b2⟩:=jh1 p l (w.name n p) (fun x hx=>hl x (List.mem_cons_of_mem _ hx)) a1 hf
  refine⟨b1,fun b S hS=>?_⟩
  show Rdr.names l.length (Rdr.mk S w.buf.length false).name.1 (b++(Rdr.mk S w.buf.length false).name.2)=_
  rw[a3 S (((qm4 p l).pre _).trans hS)]
  rw[List.flatten_cons,<-List.append_assoc]
  exact b2 (b++n) S hS
theorem formOf_cases{t:Int}{f:Nat × Nat × Nat}(h:ya t=some f):t≠1/\t≠28/\t≠16:=by
 unfold ya at h
 repeat'(split at h)
 all_goals first|omega|cases h
theorem qp5{w w1:Wr}{x:List UInt8}(h:w1.buf=w.buf++x):Reads w w1 (fun r=>r.raw x.length) x:=by
 intro S ⟨t,ht⟩
 have:=raw_back w.buf x t
 rw [<-h,ht] at this
 exact this
theorem rdata_back{w:Wr}(hro:RO w){t:Int}{s:List UInt8}(hs:yb t s=true)(hf:(w.rdata t s).1.full=false) :
 RO (w.rdata t s).1/\∀ S,(w.rdata t s).1.buf <+: S->(Rdr.mk S w.buf.length false).rdata t ((w.rdata t s).1.buf.length - w.buf.length:Nat)=(s,0) /\
  ((Rdr.mk S w.buf.length false).part ((w.rdata t s).1.buf.length - w.buf.length:Nat)).1=⟨S,(w.rdata t s).1.buf.length,false⟩:=by
 obtain⟨d,hd⟩:=(qc0 t s).pre w
 have hd:w.buf++d=(w.rdata t s).1.buf:=hd
 have hdl:(w.rdata t s).1.buf.length - w.buf.length=d.length:=by rw[<-hd,List.length_append];omega
 -- what lies there
 have body:RO (w.rdata t s).1/\(Rdr.mk (w.rdata t s).1.buf w.buf.length false).body t d.length=(⟨(w.rdata t s).1.buf,(w.rdata t s).1.buf.length,false⟩,s):=by
  cases hfo:ya t with
  |none =>
   have hl:yf t s=none:=by unfold yf;rw[hfo];split <;> rfl
   have e:(w.rdata t s).1=w.piece s:=by unfold Wr.rdata;rw[hs,hl];rfl
   rw [e] at hf hd ⊢
   obtain⟨b1,b2,_⟩:=qf7 hf
   have:d=s:=List.append_cancel_left (hd.trans b2)
   subst this
   refine⟨hro.more b2 b1,?_⟩
   unfold Rdr.body
   rw[hfo]
   exact qp5 b2 _ (List.prefix_refl _)
  |some f =>
   obtain⟨t1,t2,t3⟩:=formOf_cases hfo
   have hcs:=hs
   unfold yb xg at hcs
   rw [if_neg t1,if_neg t2,if_neg t3,hfo] at hcs
   simp only [Bool.and_eq_true,decide_eq_true_eq] at hcs
   obtain⟨c1,c2⟩:=hcs
   obtain⟨⟨x,l,r⟩,hcut⟩:=Option.isSome_iff_exists.1 c2
   have hl:yf t s=some (f,x,l,r):=by unfold yf;rw[if_pos c1,hfo];show(cutF f.1 f.2.1 f.2.2 s).map _=_;rw[hcut];rfl
   obtain⟨_,_,e1,e2,e3,e4⟩:=lookF_le hl
   obtain⟨n1,n2,n3⟩:=namesF_eq _ _ _ _ e3
   have hx:x.length=2 * f.1:=by rw[e1,List.length_take];omega
   have hcat:x++l.flatten++r=s:=by rw[List.append_assoc,n1,e1,List.take_append_drop]
   have e:(w.rdata t s).1=(((w.copies 2 f.1 ⟨x,0,false⟩).1.names (t != 33) l).copies 4 f.2.2 ⟨r,0,false⟩).1:=by unfold Wr.rdata;rw[hs,hl];rfl
   rw [e] at hf hd ⊢
   have f2:=(qg7 4 f.2.2 _).full _ hf
   have f1:=(qm4 _ l).full _ f2
   obtain⟨g1,g2⟩:=qu0 2 (.inl rfl) f.1 w x 0 (by omega) f1
   obtain⟨g3,g4⟩:=qu0 4 (.inr rfl) f.2.2 _ r 0 (by omega) hf
   rw [List.drop_zero] at g1 g3
   obtain⟨k1,k2⟩:=jh1 (t != 33) l _ n3 (hro.more g1 g2) f2
   refine⟨k1.more g3 g4,?_⟩
   have p2:((w.copies 2 f.1 ⟨x,0,false⟩).1.names (t != 33) l).buf <+: _:=(qg7 4 f.2.2 ⟨r,0,false⟩).pre ((w.copies 2 f.1 ⟨x,0,false⟩).1.names (t != 33) l)
   have p1:(w.copies 2 f.1 ⟨x,0,false⟩).1.buf <+: ((w.copies 2 f.1 ⟨x,0,false⟩).1.names (t != 33) l).buf:=(qm4 (t != 33) l).pre (w.copies 2 f.1 ⟨x,0,false⟩).1
   clear f1 f2 e g2 g4 k1 hf hd
   generalize (((w.copies 2 f.1 ⟨x,0,false⟩).1.names (t != 33) l).copies 4 f.2.2 ⟨r,0,false⟩).1=w3 at p2 g3 ⊢
   generalize (w.copies 2 f.1 ⟨x,0,false⟩).1.names (t != 33) l=w2 at p2 p1 g3 k2
   generalize (w.copies 2 f.1 ⟨x,0,false⟩).1=w1 at p1 g1 k2
   have r1:∀ S,w1.buf <+: S->(Rdr.mk S w.buf.length false).raw x.length=(⟨S,w1.buf.length,false⟩,x):=qp5 g1
   have r3:∀ S,w3.buf <+: S->(Rdr.mk S w2.buf.length false).raw r.length=(⟨S,w3.buf.length,false⟩,r):=qp5 g3
   have k2:∀ b S,w2.buf <+: S->Rdr.names l.length ⟨S,w1.buf.length,false⟩ b=(⟨S,w2.buf.length,false⟩,b++l.flatten):=k2
   unfold Rdr.body
   rw[hfo]
   show(((Rdr.names f.2.1 ((Rdr.mk _ w.buf.length false).raw (2 * (f.1:Int))).1 ((Rdr.mk _ w.buf.length false).raw (2 * (f.1:Int))).2).1.raw (4 * (f.2.2:Int))).1,_++((Rdr.names f.2.1 ((Rdr.mk _ w.buf.length false).raw (2 * (f.1:Int))).1 ((Rdr.mk _ w.buf.length false).raw (2 * (f.1:Int))).2).1.raw (4 * (f.2.2:Int))).2)=_
   have q1:(2 * (f.1:Int))=((x.length:Nat):Int):=by omega
   have q2:(4 * (f.2.2:Int))=((r.length:Nat):Int):=by omega
   rw[q1,q2,r1 _ (p1.trans p2),<-n2,k2 x _ p2,r3 _ (List.prefix_refl _)]
   show(_,x++l.flatten++r)=_
   rw[hcat]
 refine⟨body.1,fun S hS=>?_⟩
 rw[hdl]
 have hraw:=qp5 hd.symm S hS
 have hraw:(Rdr.mk S w.buf.length false).raw (d.length:Nat)=(⟨S,(w.rdata t s).1.buf.length,false⟩,d):=hraw
 have htake:S.take (w.rdata t s).1.buf.length=(w.rdata t s).1.buf:=by
  obtain⟨u,hu⟩:=hS
  rw[<-hu,List.take_left]
 have hpart:(Rdr.mk S w.buf.length false).part (d.length:Nat)=(⟨S,(w.rdata t s).1.buf.length,false⟩,⟨(w.rdata t s).1.buf,w.buf.length,false⟩):=by
  unfold Rdr.part
  rw[hraw]
  show(_,if false=true then _ else (⟨S.take (w.rdata t s).1.buf.length,if false=true then 0 else w.buf.length,false⟩:Rdr))=_
  rw[if_neg (by simp),if_neg (by simp),htake]
 refine⟨?_,by rw[hpart]⟩
 unfold Rdr.rdata
 rw[hpart]
 show(if false=true then _ else _)=_
 rw[if_neg (by simp)]
 show(if (((Rdr.mk (w.rdata t s).1.buf w.buf.length false).body t (d.length:Nat)).1.bad || decide (0<((Rdr.mk (w.rdata t s).1.buf w.buf.length false).body t (d.length:Nat)).1.s.length - ((Rdr.mk (w.rdata t s).1.buf w.buf.length false).body t (d.length:Nat)).1.p) || !yb t ((Rdr.mk (w.rdata t s).1.buf w.buf.length false).body t (d.length:Nat)).2)=true then _ else (((Rdr.mk (w.rdata t s).1.buf w.buf.length false).body t (d.length:Nat)).2,(0:Int)))=_
 rw[body.2]
 show(if (false || decide (0<(w.rdata t s).1.buf.length - (w.rdata t s).1.buf.length) || !yb t s)=true then _ else (s,(0:Int)))=_
 rw[hs,Nat.sub_self]
 rfl
theorem jg2(w:Wr)(r:RR):(w.record r).1.limit=w.limit:=by
 unfold Wr.record
 split
 ·have hset:∀ (a:Wr) (i n:Int),(a.set i n).limit=a.limit:=fun a i n=>by unfold Wr.set;split <;> rfl
  exact(hset _ _ _).trans (((((((qc6 r.nm true).comp (jq 2 r.ty)).comp (jq 2 r.cl)).comp (jq 4 r.ttl)).comp (jq 2 0)).comp (qc0 r.ty r.d)).lim w)
 ·rfl
theorem record_back{w:Wr}(hok:w.Ok)(hlim:w.limit<=65536)(hro:RO w){r:RR}(hc:r.check=true)(ho:r.Ok)(hf:(w.record r).1.full=false) :
 w.full=false/\RO (w.record r).1/\w.buf <+: (w.record r).1.buf/\∀ S,(w.record r).1.buf <+: S->(Rdr.mk S w.buf.length false).recd=(⟨S,(w.record r).1.buf.length,false⟩,r,0):=by
 have hcs:=hc
 simp only [RR.check,Bool.and_eq_true,Bool.or_eq_true,decide_eq_true_eq,beq_iff_eq] at hcs
 obtain⟨⟨c1,c2⟩,c3⟩:=hcs
 obtain⟨ty,hty⟩:∃ n:Nat,r.ty=n:=⟨r.ty.toNat,by have:=ho.ty;omega⟩
 obtain⟨cl,hcl⟩:∃ n:Nat,r.cl=n:=⟨r.cl.toNat,by have:=ho.cl;omega⟩
 obtain⟨tt,htt⟩:∃ n:Nat,r.ttl=n:=⟨r.ttl.toNat,by have:=ho.ttl;omega⟩
 have hty':ty<65536:=by have:=ho.ty;omega
 have hcl':cl<65536:=by have:=ho.cl;omega
 have htt':tt<4294967296:=by have:=ho.ttl;omega
 generalize hw0:w.name r.nm true=wa
 generalize hwb:wa.num 2 r.ty=wb
 generalize hwc:wb.num 2 r.cl=wc
 generalize hwd:wc.num 4 r.ttl=w1
 obtain⟨d,hd1,hd2⟩:=(qc0 r.ty r.d).blind (w1.num 2 0)
 have hd1:((w1.num 2 0).rdata r.ty r.d).1.buf=(w1.num 2 0).buf++d:=hd1
 have hoks:((w1.num 2 0).rdata r.ty r.d).1.Ok:=by
  rw[<-hwd,<-hwc,<-hwb,<-hw0]
  exact Wr.Ok.rdata (((((hok.name _ _).num _ _).num _ _).num _ _).num _ _) _ _
 have hlims:((w1.num 2 0).rdata r.ty r.d).1.limit=w.limit:=by
  rw[<-hwd,<-hwc,<-hwb,<-hw0]
  exact((((((qc6 r.nm true).comp (jq 2 r.ty)).comp (jq 2 r.cl)).comp (jq 4 r.ttl)).comp (jq 2 0)).comp (qc0 r.ty r.d)).lim w
 have hrec:w.record r=(((w1.num 2 0).rdata r.ty r.d).1.set w1.buf.length (IntKind.u16.wrap ((((w1.num 2 0).rdata r.ty r.d).1.buf.length:Int) - (w1.num 2 0).buf.length)),((w1.num 2 0).rdata r.ty r.d).2):=by
  rw[<-hwd,<-hwc,<-hwb,<-hw0]
  unfold Wr.record
  rw[if_pos hc]
 have hsetf:∀ (a:Wr) (i n:Int),(a.set i n).full=a.full:=fun a i n=>by unfold Wr.set;split <;> rfl
 rw [hrec] at hf ⊢
 have hf:(((w1.num 2 0).rdata r.ty r.d).1.set w1.buf.length (IntKind.u16.wrap ((((w1.num 2 0).rdata r.ty r.d).1.buf.length:Int) - (w1.num 2 0).buf.length))).full=false:=hf
 rw [hsetf] at hf
 have hf2:=(qc0 r.ty r.d).full _ hf
 obtain⟨hfit,hpc,hf1⟩:=ql4 hf2
 have hpc:w1.num 2 0 = { w1 with buf:=w1.buf++be 2 0 }:=hpc
 have hlen2:((w1.num 2 0).buf).length=w1.buf.length+2:=by rw[hpc];show(w1.buf++be 2 0).length=_;rw[List.length_append];rfl
 have hdlen:d.length<=65535:=by
  have:=hoks.len
  rw [hd1,List.length_append,hlims,hlen2] at this
  omega
 have hL:IntKind.u16.wrap ((((w1.num 2 0).rdata r.ty r.d).1.buf.length:Int) - (w1.num 2 0).buf.length)=(d.length:Int):=by
  rw[hd1,List.length_append,IntKind.wrap_u16]
  omega
 rw[hL]
 have hfitL:w1.fits (be 2 (d.length:Int))=true:=hfit
 have hpcL:w1.num 2 (d.length:Int) = { w1 with buf:=w1.buf++be 2 (d.length:Int) }:=by
  show w1.piece _=_
  unfold Wr.piece
  rw[if_pos hfitL]
 have hre:w1.num 2 (d.length:Int)=(w1.num 2 0).re (w1.buf++be 2 (d.length:Int)):=by rw[hpcL,hpc];rfl
 have hrd:=hd2 (w1.buf++be 2 (d.length:Int)) (by rw[List.length_append,hlen2];rfl)
 have hrd:(((w1.num 2 0).re (w1.buf++be 2 (d.length:Int))).rdata r.ty r.d).1=((w1.num 2 0).rdata r.ty r.d).1.re (w1.buf++be 2 (d.length:Int)++d):=hrd
 rw [<-hre] at hrd
 have hset:((w1.num 2 0).rdata r.ty r.d).1.set w1.buf.length (d.length:Int)=((w1.num 2 (d.length:Int)).rdata r.ty r.d).1:=by
  rw[hrd]
  unfold Wr.set
  have hbl:((w1.num 2 0).rdata r.ty r.d).1.buf.length=w1.buf.length+2+d.length:=by rw[hd1,List.length_append,hlen2]
  rw[if_neg (by rw[hbl];omega),Int.toNat_natCast,hd1,hpc]
  unfold Wr.re
  congr 1
  show two (w1.buf++be 2 0++d) w1.buf.length _ _=_
  unfold two
  rw[List.append_assoc,List.take_left,List.append_assoc]
  congr 1
  rw[be2 _ (show d.length<65536 by omega)]
  have q0:(w1.buf++(be 2 0++d)).drop (w1.buf.length+2)=d:=by
   rw[<-List.drop_drop,List.drop_left]
   rfl
  rw[q0]
  have q1:(d.length:Int).fdiv 256=((d.length / 256:Nat):Int):=by rw[Int.fdiv_eq_ediv_of_nonneg _ (by decide)];omega
  rw[q1,IntKind.wrap_u8,IntKind.wrap_u8]
  show _ :: _ :: d=[_,_]++d
  congr 2
  congr 2
  omega
 rw[hset]
 have hfR:((w1.num 2 (d.length:Int)).rdata r.ty r.d).1.full=false:=by rw[hrd];exact hf
 clear hrec hset hre hd2 hoks hlims hf hf2 hfit hfitL
 have fL:(w1.num 2 (d.length:Int)).full=false:=(qc0 r.ty r.d).full _ hfR
 have f1:w1.full=false:=(jq 2 _).full _ fL
 rw [<-hwd] at f1
 have fc:wc.full=false:=(jq 4 _).full _ f1
 rw [<-hwc] at fc
 have fb:wb.full=false:=(jq 2 _).full _ fc
 rw [<-hwb] at fb
 have fa:wa.full=false:=(jq 2 _).full _ fb
 rw [<-hw0] at fa
 have f0:w.full=false:=(qc6 r.nm true).full _ fa
 obtain⟨ra,pa,va⟩:=qw0 f0 hro c1 true fa
 rw [hw0] at ra pa va
 rw [hty] at fb hwb
 obtain⟨_,rb,pb,vb⟩:=wo ra 2 ty (.inl ⟨rfl,hty'⟩) fb
 rw [hwb] at rb pb vb
 rw [hcl] at fc hwc
 obtain⟨_,rc,pc,vc⟩:=wo rb 2 cl (.inl ⟨rfl,hcl'⟩) fc
 rw [hwc] at rc pc vc
 rw [htt] at f1 hwd
 obtain⟨_,rd,pd,vd⟩:=wo rc 4 tt (.inr ⟨rfl,htt'⟩) f1
 rw [hwd] at rd pd vd
 obtain⟨_,re,pe,ve⟩:=wo rd 2 d.length (.inl ⟨rfl,by omega⟩) fL
 obtain⟨rf,vf⟩:=rdata_back re c2 hfR
 have pf:=(qc0 r.ty r.d).pre (w1.num 2 (d.length:Int))
 refine⟨f0,rf,(((pa.trans pb).trans pc).trans pd).trans (pe.trans pf),fun S hS=>?_⟩
 obtain⟨vf1,vf2⟩:=vf S hS
 have hS:((w1.num 2 (d.length:Int)).rdata r.ty r.d).1.buf <+: S:=hS
 have s5:=pf.trans hS
 have s4:=pe.trans s5
 have s3:=pd.trans s4
 have s2:=pc.trans s3
 have s1:=pb.trans s2
 have hdl:((w1.num 2 (d.length:Int)).rdata r.ty r.d).1.buf.length - (w1.num 2 (d.length:Int)).buf.length=d.length:=by
  rw[hrd,hpcL]
  show(w1.buf++be 2 (d.length:Int)++d).length - (w1.buf++be 2 (d.length:Int)).length=_
  simp only[List.length_append]
  omega
 rw [hdl] at vf1 vf2
 unfold Rdr.recd
 rw[va S s1]
 dsimp only
 have vb:(Rdr.mk S wa.buf.length false).num 2=_:=vb S s2
 rw[vb]
 dsimp only
 have vc:(Rdr.mk S wb.buf.length false).num 2=_:=vc S s3
 rw[vc]
 dsimp only
 have vd:(Rdr.mk S wc.buf.length false).num 4=_:=vd S s4
 rw[vd]
 dsimp only
 have ve:(Rdr.mk S w1.buf.length false).num 2=_:=ve S s5
 rw[ve]
 dsimp only
 rw[if_neg (by simp)]
 have x1:IntKind.u16.wrap (ty:Int)=r.ty:=by rw[IntKind.wrap_u16,hty];omega
 have x2:IntKind.i64.wrap (d.length:Int)=(d.length:Int):=qg _ (by omega)
 have x3:IntKind.u16.wrap (cl:Int)=r.cl:=by rw[IntKind.wrap_u16,hcl];omega
 have x4:IntKind.u32.wrap (tt:Int)=r.ttl:=by rw[IntKind.wrap_u32,htt];omega
 rw[x1,x2,x3,x4,vf1,vf2]
 dsimp only
 rw[if_neg (by simp),if_neg (by rintro ⟨h1,h2⟩;rcases c3 with h|h <;> omega)]
theorem asks_op(l:List Q):WOp (fun w=>w.asks l):=by
 induction l with
 |nil=>exact WOp.id
 |cons q l ih=>exact(((qc6 q.nm true).comp (jq 2 q.ty)).comp (jq 2 q.cl)).comp ih
theorem record_full{w:Wr}{r:RR}(h:(w.record r).1.full=false):w.full=false:=by
 unfold Wr.record at h
 split at h
 ·have hsetf:∀ (a:Wr) (i n:Int),(a.set i n).full=a.full:=fun a i n=>by unfold Wr.set;split <;> rfl
  exact((((((qc6 r.nm true).comp (jq 2 r.ty)).comp (jq 2 r.cl)).comp (jq 4 r.ttl)).comp (jq 2 0)).comp (qc0 r.ty r.d)).full w ((hsetf _ _ _).symm.trans h)
 ·exact h
theorem ql2:∀ (l:List RR) (w:Wr),(w.recs l).full=false->w.full=false
 |[],_,h=>h
 |r :: l,w,h=>record_full (ql2 l (w.record r).1 h)
theorem qq7:∀ (l:List RR) (w:Wr),(w.recs l).limit=w.limit
 |[],_=>rfl
 |r :: l,w=>(qq7 l (w.record r).1).trans (jg2 w r)
theorem qr8:∀ (l:List RR) {w:Wr},w.Ok->(w.recs l).Ok
 |[],_,h=>h
 |r :: l,_,h=>qr8 l (h.record r)
theorem asks_Ok:∀ (l:List Q) {w:Wr},w.Ok->(w.asks l).Ok
 |[],_,h=>h
 |q :: l,_,h=>asks_Ok l (((h.name q.nm true).num 2 q.ty).num 2 q.cl)
theorem asks_back:∀ (l:List Q) (w:Wr),(∀ q ∈ l,qh q.nm/\q.Ok)->RO w->(w.asks l).full=false ->
 RO (w.asks l)/\w.buf <+: (w.asks l).buf/\∀ S acc,(w.asks l).buf <+: S->Rdr.qs l.length ⟨S,w.buf.length,false⟩ acc=(⟨S,(w.asks l).buf.length,false⟩,acc++l,true)
 |[],w,_,hro,_=>⟨hro,List.prefix_refl _,fun S acc _=>by show(_,acc,true)=(_,acc++[],true);rw[List.append_nil];rfl⟩
 |q :: l,w,hl,hro,hf=>by
  obtain⟨hn,ho⟩:=hl q (List.mem_cons_self ..)
  obtain⟨ty,hty⟩:∃ n:Nat,q.ty=n:=⟨q.ty.toNat,by have:=ho.ty;omega⟩
  obtain⟨cl,hcl⟩:∃ n:Nat,q.cl=n:=⟨q.cl.toNat,by have:=ho.cl;omega⟩
  have hty':ty<65536:=by have:=ho.ty;omega
  have hcl':cl<65536:=by have:=ho.cl;omega
  have e:w.asks (q :: l)=(((w.name q.nm true).num 2 q.ty).num 2 q.cl).asks l:=rfl
  rw [e] at hf ⊢
  have fc:=(asks_op l).full _ hf
  have fb:=(jq 2 q.cl).full _ fc
  have fa:=(jq 2 q.ty).full _ fb
  have f0:=(qc6 q.nm true).full _ fa
  have fa:(w.name q.nm true).full=false:=fa
  have fb:((w.name q.nm true).num 2 q.ty).full=false:=fb
  have fc:(((w.name q.nm true).num 2 q.ty).num 2 q.cl).full=false:=fc
  obtain⟨ra,pa,va⟩:=qw0 f0 hro hn true fa
  generalize w.name q.nm true=wa at ra pa va fa fb fc hf ⊢
  rw [hty] at fb fc hf ⊢
  obtain⟨_,rb,pb,vb⟩:=wo ra 2 ty (.inl ⟨rfl,hty'⟩) fb
  generalize wa.num 2 (ty:Int)=wb at rb pb vb fb fc hf ⊢
  rw [hcl] at fc hf ⊢
  obtain⟨_,rc,pc,vc⟩:=wo rb 2 cl (.inl ⟨rfl,hcl'⟩) fc
  generalize wb.num 2 (cl:Int)=wc at rc pc vc fc hf ⊢
  obtain⟨rd,pd,vd⟩:=asks_back l wc (fun x hx=>hl x (List.mem_cons_of_mem _ hx)) rc hf
  refine⟨rd,((pa.trans pb).trans pc).trans pd,fun S acc hS=>?_⟩
  have s3:=pd.trans hS
  have s2:=pc.trans s3
  have s1:=pb.trans s2
  show(if (((Rdr.mk S w.buf.length false).name.1.num 2).1.num 2).1.bad then _ else _)=_
  have va:(Rdr.mk S w.buf.length false).name=(⟨S,wa.buf.length,false⟩,q.nm):=va S s1
  have vb:(Rdr.mk S wa.buf.length false).num 2=(⟨S,wb.buf.length,false⟩,ty):=vb S s2
  have vc:(Rdr.mk S wb.buf.length false).num 2=(⟨S,wc.buf.length,false⟩,cl):=vc S s3
  rw[va]
  dsimp only
  rw[vb]
  dsimp only
  rw[vc]
  dsimp only
  rw[if_neg (by simp)]
  have x1:IntKind.u16.wrap (ty:Int)=q.ty:=by rw[IntKind.wrap_u16,hty];omega
  have x3:IntKind.u16.wrap (cl:Int)=q.cl:=by rw[IntKind.wrap_u16,hcl];omega
  rw[x1,x3,vd S (acc++[q]) hS]
  simp
theorem qp4:∀ (l:List RR) (w:Wr),(∀ r ∈ l,r.check=true/\r.Ok)->w.Ok->w.limit<=65535->RO w->(w.recs l).full=false ->
 RO (w.recs l)/\w.buf <+: (w.recs l).buf/\∀ S acc,(w.recs l).buf <+: S->Rdr.rs l.length ⟨S,w.buf.length,false⟩ acc=(⟨S,(w.recs l).buf.length,false⟩,acc++l,0)
 |[],w,_,_,_,hro,_=>⟨hro,List.prefix_refl _,fun S acc _=>by show(_,acc,(0:Int))=(_,acc++[],(0:Int));rw[List.append_nil];rfl⟩
 |r :: l,w,hl,hok,hlim,hro,hf=>by
  obtain⟨hc,ho⟩:=hl r (List.mem_cons_self ..)
  have e:w.recs (r :: l)=(w.record r).1.recs l:=rfl
  rw [e] at hf ⊢
  have fa:=ql2 l _ hf
  obtain⟨_,ra,pa,va⟩:=record_back hok (Int.le_trans hlim (by decide)) hro hc ho fa
  obtain⟨rd,pd,vd⟩:=qp4 l (w.record r).1 (fun x hx=>hl x (List.mem_cons_of_mem _ hx)) (hok.record r) (by rw[jg2];exact hlim) ra hf
  refine⟨rd,pa.trans pd,fun S acc hS=>?_⟩
  show(if (Rdr.mk S w.buf.length false).recd.2.2≠0 then _ else Rdr.rs l.length (Rdr.mk S w.buf.length false).recd.1 (acc++[(Rdr.mk S w.buf.length false).recd.2.1]))=_
  rw[va S (pd.trans hS)]
  dsimp only
  rw[if_neg (by simp),vd S (acc++[r]) hS]
  simp
def Msg.again(m:Msg):Msg:=Msg.of m.id m.bits m.asks m.says m.heads m.extra
theorem lm_le(limit:Int):lm limit<=65535/\lm limit<=limit:=by unfold lm;split <;> omega
theorem msg_back{m:Msg}(hm:m.Ok){limit:Int}(hlo : -9223372036854775808<=limit)(hc:m.check=true)(hf:(m.last limit).full=false) :
 Msg.read (m.last limit).buf=(m.again,0)/\((m.last limit).buf.length:Int)<=limit:=by
 have hcs:=hc
 simp only [Msg.check,Bool.and_eq_true,decide_eq_true_eq] at hcs
 obtain⟨⟨⟨⟨⟨⟨⟨l1,l2⟩,l3⟩,l4⟩,k1⟩,k2⟩,k3⟩,k4⟩:=hcs
 have hl:=lm_le limit
 have hw0:(Wr.mk [] (lm limit) false []).Ok:=⟨by show _<=lm limit;unfold lm;split <;> omega,by show lm limit<=_;omega,.inl rfl,fun e he=>by cases he⟩
 have hro0:RO (Wr.mk [] (lm limit) false []):=fun x hx=>by cases hx
 have hlim0:(Wr.mk [] (lm limit) false []).limit=lm limit:=rfl
 have hlen0:(Wr.mk [] (lm limit) false []).buf.length=0:=rfl
 unfold Msg.last at hf ⊢
 generalize Wr.mk [] (lm limit) false []=w0 at hw0 hro0 hlim0 hlen0 hf ⊢
 obtain⟨id,hid⟩:∃ n:Nat,m.id=n:=⟨m.id.toNat,by have:=hm.id;omega⟩
 obtain⟨bs,hbs⟩:∃ n:Nat,m.bits=n:=⟨m.bits.toNat,by have:=hm.bits;omega⟩
 have hid':id<65536:=by have:=hm.id;omega
 have hbs':bs<65536:=by have:=hm.bits;omega
 have f9:=ql2 _ _ hf
 have f8:=ql2 _ _ f9
 have f7:=ql2 _ _ f8
 have f6:(w0.head m).full=false:=(asks_op m.asks).full _ f7
 unfold Wr.head at f6 f7 f8 f9 hf ⊢
 rw [hid,hbs] at f6 f7 f8 f9 hf ⊢
 have f5:=(jq 2 (m.extra.length:Int)).full _ f6
 have f4:=(jq 2 (m.heads.length:Int)).full _ f5
 have f3:=(jq 2 (m.says.length:Int)).full _ f4
 have f2:=(jq 2 (m.asks.length:Int)).full _ f3
 have f1:=(jq 2 (bs:Int)).full _ f2
 obtain⟨_,r1,p1,v1⟩:=wo hro0 2 id (.inl ⟨rfl,hid'⟩) f1
 have o1:=hw0.num 2 (id:Int)
 have m1:=(jq 2 (id:Int)).lim w0
 have n1:(w0.num 2 (id:Int)).limit=w0.limit:=m1
 generalize w0.num 2 (id:Int)=w1 at *
 obtain⟨_,r2,p2,v2⟩:=wo r1 2 bs (.inl ⟨rfl,hbs'⟩) f2
 have o2:=o1.num 2 (bs:Int)
 have n2:(w1.num 2 (bs:Int)).limit=w1.limit:=(jq 2 (bs:Int)).lim w1
 generalize w1.num 2 (bs:Int)=w2 at *
 obtain⟨_,r3,p3,v3⟩:=wo r2 2 m.asks.length (.inl ⟨rfl,by omega⟩) f3
 have o3:=o2.num 2 (m.asks.length:Int)
 have n3:(w2.num 2 (m.asks.length:Int)).limit=w2.limit:=(jq 2 (m.asks.length:Int)).lim w2
 generalize w2.num 2 (m.asks.length:Int)=w3 at *
 obtain⟨_,r4,p4,v4⟩:=wo r3 2 m.says.length (.inl ⟨rfl,by omega⟩) f4
 have o4:=o3.num 2 (m.says.length:Int)
 have n4:(w3.num 2 (m.says.length:Int)).limit=w3.limit:=(jq 2 (m.says.length:Int)).lim w3
 generalize w3.num 2 (m.says.length:Int)=w4 at *
 obtain⟨_,r5,p5,v5⟩:=wo r4 2 m.heads.length (.inl ⟨rfl,by omega⟩) f5
 have o5:=o4.num 2 (m.heads.length:Int)
 have n5:(w4.num 2 (m.heads.length:Int)).limit=w4.limit:=(jq 2 (m.heads.length:Int)).lim w4
 generalize w4.num 2 (m.heads.length:Int)=w5 at *
 obtain⟨_,r6,p6,v6⟩:=wo r5 2 m.extra.length (.inl ⟨rfl,by omega⟩) f6
 have o6:=o5.num 2 (m.extra.length:Int)
 have n6:(w5.num 2 (m.extra.length:Int)).limit=w5.limit:=(jq 2 (m.extra.length:Int)).lim w5
 have b6:(w5.num 2 (m.extra.length:Int)).buf=w5.buf++be 2 (m.extra.length:Int):=(qf7 f6).2.1
 generalize w5.num 2 (m.extra.length:Int)=w6 at *
 obtain⟨r7,p7,v7⟩:=asks_back m.asks w6 (fun q hq=>⟨of_decide_eq_true (List.all_eq_true.mp k1 q hq),hm.asks q hq⟩) r6 f7
 have o7:=asks_Ok m.asks o6
 have n7:(w6.asks m.asks).limit=w6.limit:=(asks_op m.asks).lim w6
 generalize w6.asks m.asks=w7 at *
 have hl7:w7.limit=lm limit:=by rw[n7,n6,n5,n4,n3,n2,n1,hlim0]
 obtain⟨r8,p8,v8⟩:=qp4 m.says w7 (fun r hr=>⟨List.all_eq_true.mp k2 r hr,hm.says r hr⟩) o7 (by omega) r7 f8
 have o8:=qr8 m.says o7
 have n8:=qq7 m.says w7
 generalize w7.recs m.says=w8 at *
 obtain⟨r9,p9,v9⟩:=qp4 m.heads w8 (fun r hr=>⟨List.all_eq_true.mp k3 r hr,hm.heads r hr⟩) o8 (by omega) r8 f9
 have o9:=qr8 m.heads o8
 have n9:=qq7 m.heads w8
 generalize w8.recs m.heads=w9 at *
 obtain⟨_,p10,v10⟩:=qp4 m.extra w9 (fun r hr=>⟨List.all_eq_true.mp k4 r hr,hm.extra r hr⟩) o9 (by omega) r9 hf
 have o10:=qr8 m.extra o9
 have n10:=qq7 m.extra w9
 generalize w9.recs m.extra=w10 at *
 have q9:=p10
 have q8:=p9.trans q9
 have q7:=p8.trans q8
 have q6:=p7.trans q7
 have q5:=p6.trans q6
 have q4:=p5.trans q5
 have q3:=p4.trans q4
 have q2:=p3.trans q3
 have q1:=p2.trans q2
 have g1:=v1 _ q1
 have g2:=v2 _ q2
 have g3:=v3 _ q3
 have g4:=v4 _ q4
 have g5:=v5 _ q5
 have g6:=v6 _ q6
 dsimp only at g1 g2 g3 g4 g5 g6
 rw [hlen0] at g1
 have g7:=v7 _ [] q7
 have g8:=v8 _ [] q8
 have g9:=v9 _ [] q9
 have g10:=v10 _ [] (List.prefix_refl _)
 rw [List.nil_append] at g7 g8 g9 g10
 -- twelve bytes at least
 have pos:∀ {S:List UInt8} {a b k:Nat},(Rdr.mk S a false).num 2=(⟨S,b,false⟩,k)->b=a+2/\b<=S.length:=by
  intro S a b k h
  have h1:((Rdr.mk S a false).raw ((2:Nat):Int)).1=⟨S,b,false⟩:=congrArg Prod.fst h
  unfold Rdr.raw at h1
  rw [if_neg (by simp)] at h1
  split at h1
  ·have:=congrArg Rdr.bad h1
   cases this
  ·rename_i hc
   have h2:a+(((2:Nat):Int)).toNat=b:=congrArg Rdr.p h1
   rw [Int.toNat_natCast] at h2
   have hc:¬ (((2:Nat):Int)<0\/((2:Nat):Int) > (S.length:Int) - a):=hc
   omega
 have t1:=pos g1
 have t2:=pos g2
 have t3:=pos g3
 have t4:=pos g4
 have t5:=pos g5
 have t6:=pos g6
 have h12:12<=w10.buf.length:=by omega
 constructor
 ·unfold Msg.read
  rw[if_neg (by omega)]
  rw[g1]
  dsimp only
  rw[g2]
  dsimp only
  rw[g3]
  dsimp only
  rw[g4]
  dsimp only
  rw[g5]
  dsimp only
  rw[g6]
  dsimp only
  unfold Rdr.rest
  rw[if_neg (by omega),g7]
  dsimp only
  rw[if_neg (by simp)]
  unfold Rdr.sec
  rw[g8]
  dsimp only
  rw[if_neg (by simp),g9]
  dsimp only
  rw[if_neg (by simp),g10]
  dsimp only
  rw[if_neg (by simp)]
  unfold Rdr.fin
  rw[if_neg (by simp)]
  have x1:IntKind.u16.wrap (id:Int)=m.id:=by rw[IntKind.wrap_u16,hid];omega
  have x2:IntKind.u16.wrap (bs:Int)=m.bits:=by rw[IntKind.wrap_u16,hbs];omega
  rw[x1,x2]
  rfl
 ·have:=o10.len
  rw [n10,n9,n8,hl7] at this
  omega
structure Msg.Fld(m:Msg):Prop where
 id:0<=m.id/\m.id<=65535
 bits:0<=m.bits/\m.bits<=65535
 asks:∀ q ∈ m.asks,q.Ok
 says:∀ r ∈ m.says,r.Ok
 heads:∀ r ∈ m.heads,r.Ok
 extra:∀ r ∈ m.extra,r.Ok
 za:m.za=true->m.asks=[]
theorem Msg.Fld.ok{m:Msg}(h:m.Fld)(hs:m.asks.length<=1000000):m.Ok:=⟨h.id,h.bits,h.asks,h.says,h.heads,h.extra,by omega⟩
def Msg.reply(m:Msg)(code:Int):Msg:=⟨m.id,Go.bits BinOp.or IntKind.u16 (Go.bits BinOp.and IntKind.u16 m.bits 30976) (Go.bits BinOp.or IntKind.u16 32768 (IntKind.u16.wrap (Go.bits BinOp.and IntKind.i64 code 15))),m.za,m.asks,true,[],true,[],true,[]⟩
set_option maxRecDepth 100000 in
theorem reply_ok(m:Msg)(code:Int)(h:m.za=true->m.asks=[])(ha:m.asks.length<=1000000):FnOk Tryz.prog 131 [.agg m.cells,.d (.int .i64 code)] (.agg (m.reply code).cells):=by
 refine qn (TT:=TT) (IN:=qd []) qf qe mixed 1000 Tryz.func131 rfl (qc Tryz.func131 (by kernel_rfl) rfl) rfl 20 (by kernel_rfl) ?_
 conv=>whnf
 refine .data _ (qv8 m.za m.asks h ha) rfl rfl ?_
 conv=>whnf
 repeat'(first|exact ⟨⟩|exact rfl|exact .inr rfl|exact .inl rfl|exact fun _ _=>rfl|exact noI|apply And.intro)
theorem raw_bad{r:Rdr}{n:Int}(h:(r.raw n).1.bad=false):r.bad=false:=by
 unfold Rdr.raw at h
 split at h
 ·rename_i hb;rw [hb] at h;cases h
 ·rename_i hb
  cases hr:r.bad
  ·rfl
  ·exact absurd hr hb
theorem qi2{r:Rdr}{n:Nat}(h:(r.num n).1.bad=false):r.bad=false:=raw_bad h
theorem jh3{r:Rdr}(h:r.name.1.bad=false):qh r.name.2:=by
 unfold Rdr.name at h ⊢
 split at h
 ·rename_i hb;rw [hb] at h;cases h
 ·rename_i hb
  split at h
  ·rename_i hn
   rw[if_neg hb,if_pos hn]
   exact hn
  ·cases h
theorem qi7(n:Int):0<=IntKind.u16.wrap n/\IntKind.u16.wrap n<=65535:=by rw[IntKind.wrap_u16];omega
theorem u32_in(n:Int):0<=IntKind.u32.wrap n/\IntKind.u32.wrap n<=4294967295:=by rw[IntKind.wrap_u32];omega
theorem qs_right:∀ (n:Nat) (r:Rdr) (l:List Q),(∀ q ∈ l,qh q.nm/\q.Ok)->(r.qs n l).2.2=true->(∀ q ∈ (r.qs n l).2.1,qh q.nm/\q.Ok)/\(r.qs n l).2.1.length=l.length+n
 |0,r,l,hl,_=>⟨hl,rfl⟩
 |n+1,r,l,hl,h=>by
  unfold Rdr.qs at h ⊢
  split at h
  ·cases h
  ·rename_i hb
   rw[if_neg hb]
   have hb:((r.name.1.num 2).1.num 2).1.bad=false:=by simpa using hb
   have hn:=jh3 (qi2 (qi2 hb))
   obtain⟨h1,h2⟩:=qs_right n _ (l++[⟨r.name.2,IntKind.u16.wrap (r.name.1.num 2).2,IntKind.u16.wrap ((r.name.1.num 2).1.num 2).2⟩]) (fun q hq=>by
    rcases List.mem_append.1 hq with hq|hq
    ·exact hl q hq
    ·rw[List.mem_singleton.1 hq]
     exact⟨hn,⟨qi7 _,qi7 _⟩⟩) h
   refine⟨h1,?_⟩
   rw[h2,List.length_append]
   show l.length+1+n=l.length+(n+1)
   omega
theorem rdata_right{r:Rdr}{t w:Int}(h:(r.rdata t w).2=0):yb t (r.rdata t w).1=true:=by
 unfold Rdr.rdata at h ⊢
 split at h
 ·cases h
 ·rename_i hb
  rw[if_neg hb]
  dsimp only at h ⊢
  split at h
  ·cases h
  ·rename_i hc
   rw[if_neg hc]
   simp only [Bool.or_eq_true,Bool.not_eq_true',decide_eq_true_eq,not_or] at hc
   simpa using hc.2
theorem recd_right{r:Rdr}(h:r.recd.2.2=0):r.recd.2.1.check=true/\r.recd.2.1.Ok:=by
 unfold Rdr.recd at h ⊢
 dsimp only at h ⊢
 split at h
 ·cases h
 ·rename_i hb
  rw[if_neg hb]
  split at h
  ·rename_i hx
   exact absurd h hx
  ·rename_i hx
   rw[if_neg hx]
   have hb:(((((r.name).1.num 2).1.num 2).1.num 4).1.num 2).1.bad=false:=by simpa using hb
   have hn:=jh3 (qi2 (qi2 (qi2 (qi2 hb))))
   have hx:¬ ((((((r.name).1.num 2).1.num 2).1.num 4).1.num 2).1.rdata (IntKind.u16.wrap (r.name.1.num 2).2) (IntKind.i64.wrap ((((r.name.1.num 2).1.num 2).1.num 4).1.num 2).2)).2≠0:=hx
   have hd:=rdata_right (Decidable.not_not.1 hx)
   constructor
   ·unfold RR.check
    simp only[Bool.and_eq_true,Bool.or_eq_true,decide_eq_true_eq,beq_iff_eq]
    refine⟨⟨hn,hd⟩,?_⟩
    split
    ·exact .inl (by decide)
    ·rename_i hc
     by_cases h1:IntKind.u32.wrap ((((r.name.1.num 2).1.num 2).1.num 4).2:Int) > 2147483647
     ·exact .inr (Decidable.byContradiction fun h2=>hc ⟨h1,h2⟩)
     ·exact .inl (by omega)
   ·refine⟨qi7 _,qi7 _,?_⟩
    dsimp only
    split
    ·omega
    ·exact u32_in _
theorem rs_right:∀ (n:Nat) (r:Rdr) (l:List RR),(∀ q ∈ l,q.check=true/\q.Ok)->(r.rs n l).2.2=0->(∀ q ∈ (r.rs n l).2.1,q.check=true/\q.Ok)/\(r.rs n l).2.1.length=l.length+n
 |0,r,l,hl,_=>⟨hl,rfl⟩
 |n+1,r,l,hl,h=>by
  unfold Rdr.rs at h ⊢
  split at h
  ·rename_i hb;exact absurd h hb
  ·rename_i hb
   rw[if_neg hb]
   have hg:=recd_right (Decidable.not_not.1 hb)
   obtain⟨h1,h2⟩:=rs_right n _ (l++[r.recd.2.1]) (fun q hq=>by
    rcases List.mem_append.1 hq with hq|hq
    ·exact hl q hq
    ·rw[List.mem_singleton.1 hq]
     exact hg) h
   refine⟨h1,?_⟩
   rw[h2,List.length_append]
   show l.length+1+n=l.length+(n+1)
   omega
theorem qv4{r:Rdr}{n:Nat}{k:Rdr->List RR->Msg × Int}(P:Msg × Int->Prop)(hno:∀ e,e≠0->P (Msg.no,e))(hk:∀ r1 x,(∀ q ∈ x,q.check=true/\q.Ok)->x.length=n->P (k r1 x)):P (r.sec n k):=by
 unfold Rdr.sec
 split
 ·rename_i h;exact hno _ h
 ·rename_i h
  obtain⟨h1,h2⟩:=rs_right n r [] (fun q hq=>by cases hq) (Decidable.not_not.1 h)
  exact hk _ _ h1 (by simpa using h2)
structure Right(m:Msg):Prop where
 check:m.check=true
 fld:m.Fld
theorem jg3(s:List UInt8):((Msg.read s).2≠0/\(Msg.read s).1=Msg.no)\/((Msg.read s).2=0/\Right (Msg.read s).1):=by
 have hno:∀ e:Int,e≠0->((Msg.no,e).2≠0/\(Msg.no,e).1=Msg.no)\/((Msg.no,e).2=0/\Right (Msg.no,e).1):=fun e h=>.inl ⟨h,rfl⟩
 unfold Msg.read
 split
 ·exact hno 5 (by decide)
 dsimp only
 unfold Rdr.rest
 split
 ·exact hno 7 (by decide)
 rename_i hc
 split
 ·exact hno 5 (by decide)
 rename_i hq
 obtain⟨q1,q2⟩:=qs_right _ _ [] (fun q hq=>by cases hq) (by simpa using hq)
 refine qv4 (fun p=>(p.2≠0/\p.1=Msg.no)\/(p.2=0/\Right p.1)) hno fun r1 x hx lx=>?_
 refine qv4 (fun p=>(p.2≠0/\p.1=Msg.no)\/(p.2=0/\Right p.1)) hno fun r2 y hy ly=>?_
 refine qv4 (fun p=>(p.2≠0/\p.1=Msg.no)\/(p.2=0/\Right p.1)) hno fun r3 z hz lz=>?_
 unfold Rdr.fin
 split
 ·exact hno 6 (by decide)
 refine .inr ⟨rfl,?_,⟨qi7 _,qi7 _,fun q hq=>(q1 q hq).2,fun r hr=>(hx r hr).2,fun r hr=>(hy r hr).2,fun r hr=>(hz r hr).2,fun h=>?_⟩⟩
 ·unfold Msg.check Msg.of
  simp only[Bool.and_eq_true,decide_eq_true_eq,List.all_eq_true]
  rw[q2]
  simp only[List.length_nil]
  exact⟨⟨⟨⟨⟨⟨⟨by omega,by omega⟩,by omega⟩,by omega⟩,fun q hq=>(q1 q hq).1⟩,fun r hr=>(hx r hr).1⟩,fun r hr=>(hy r hr).1⟩,fun r hr=>(hz r hr).1⟩
 ·exact List.length_eq_zero_iff.1 (Nat.eq_of_beq_eq_true h)
structure Rq where
 m:Msg
 e:Ed
 client:List UInt8
 server:List UInt8
 code:Int
def Rq.cells(r:Rq):List SV:=[.d (.int .u16 r.m.id),.d (.int .u16 r.m.bits),.d (qsD r.m.za r.m.asks),.d (rrsD r.m.zs r.m.says),.d (rrsD r.m.zh r.m.heads),.d (rrsD r.m.ze r.m.extra),
 .d (.bool r.e.there),.d (.int .u16 r.e.size),.d (.int .u8 r.e.high),.d (.int .u8 r.e.ver),.d (.int .u16 r.e.flags),.d (optsD r.e.zo r.e.opts),.d (.str r.client),.d (.str r.server),.d (.int .i64 r.code)]
def lookM(m:Msg):Rq :=
 if m.get.2≠0 then ⟨m,Ed.no,[],[],1⟩ else
 if (kx m.get.1.opts).2.2=0 then ⟨m,m.get.1,(kx m.get.1.opts).1,(kx m.get.1.opts).2.1,codeV m m.get.1.ver (kx m.get.1.opts).2.2⟩
 else ⟨m,m.get.1,[],[],codeV m m.get.1.ver (kx m.get.1.opts).2.2⟩
def look(s:List UInt8):Rq :=
 if (wt s).2.2≠0\/Go.bits BinOp.and IntKind.u16 (wt s).2.1 32768≠0 then ⟨Msg.no,Ed.no,[],[],-2⟩ else
 if (Msg.read s).2≠0 then ⟨⟨(wt s).1,(wt s).2.1,true,[],true,[],true,[],true,[]⟩,Ed.no,[],[],1⟩ else lookM (Msg.read s).1
theorem opts_fit:∀ (n:Nat) (r:Rdr) (l l':List Opt),Rdr.opts n r l=some l'->(∀ o ∈ l,o.data.length<=r.s.length)->l'.length<=l.length+n/\∀ o ∈ l',o.data.length<=r.s.length
 |0,r,l,l',h,hl=>by
  cases h
  exact⟨by omega,hl⟩
 |n+1,r,l,l',h,hl=>by
  unfold Rdr.opts at h
  cases hh:r.has
  ·rw [hh,cond_false] at h
   cases h
   exact⟨by omega,hl⟩
  ·rw [hh,cond_true] at h
   cases hb:r.opt.1.bad
   ·rw [hb,cond_false] at h
    obtain⟨h1,h2⟩:=opts_fit n r.opt.1 (l++[r.opt.2]) l' h (fun o ho=>by
     rw[Rdr.opt_s]
     rcases List.mem_append.1 ho with ho|ho
     ·exact hl o ho
     ·rw[List.mem_singleton.1 ho]
      have hs:∀ (r:Rdr) (n:Int),(r.raw n).2.length<=r.s.length:=fun r n=>by
       unfold Rdr.raw
       split
       ·exact Nat.zero_le _
       ·split
        ·exact Nat.zero_le _
        ·show((r.s.drop r.p).take n.toNat).length<=_
         simp
         omega
      have:=hs (((r.num 2).1.num 2).1) (IntKind.i64.wrap ((r.num 2).1.num 2).2)
      rw [Rdr.num_s,Rdr.num_s] at this
      exact this)
    rw [Rdr.opt_s] at h2
    refine⟨?_,h2⟩
    rw [List.length_append] at h1
    simp only [List.length_cons,List.length_nil] at h1
    omega
   ·rw [hb,cond_true] at h
    cases h
theorem get_fit(m:Msg)(hd:∀ r ∈ m.extra,r.d.length<1099511627776):m.get.1.opts.length<1099511627776/\∀ o ∈ m.get.1.opts,o.data.length<1099511627776:=by
 have no:Ed.no.opts.length<1099511627776/\∀ o ∈ Ed.no.opts,o.data.length<1099511627776:=⟨by decide,fun o ho=>by cases ho⟩
 have hlt:=idxI_lt (fun r:RR=>r.ty == 41) m.extra
 unfold Msg.get
 split
 ·exact no
 split
 ·exact no
 rename_i hi
 split
 ·exact no
 unfold optRec
 split
 ·exact no
 split
 ·rename_i l hl
  have hi:¬ idxI (fun r:RR=>r.ty == 41) m.extra<0:=hi
  have hm:m.extra.getD (optI m.extra).toNat default ∈ m.extra:=by
   have:m.extra[(optI m.extra).toNat]? = some (m.extra.getD (optI m.extra).toNat default):=by
    rw[List.getD,List.getElem?_eq_getElem (by unfold optI;omega)];rfl
   exact List.mem_of_getElem? this
  have hq:=hd _ hm
  obtain⟨h1,h2⟩:=opts_fit _ _ [] l hl (fun o ho=>by cases ho)
  refine⟨?_,fun o ho=>Nat.lt_of_le_of_lt (h2 o ho) hq⟩
  show l.length<_
  simp only [List.length_nil] at h1
  omega
 ·exact no
theorem strip_ok(r:Rq)(h:r.m.za=true->r.m.asks=[])(ha:r.m.asks.length<=1000000):FnOk Tryz.prog 37 [.agg r.cells] (.agg (Msg.mk r.m.id r.m.bits r.m.za r.m.asks true [] true [] true []).cells):=by
 refine qn (TT:=TT) (IN:=qd []) qf qe mixed 1000 Tryz.func37 rfl (qc Tryz.func37 (by kernel_rfl) rfl) rfl 13 (by kernel_rfl) ?_
 conv=>whnf
 refine .data _ (qv8 r.m.za r.m.asks h ha) rfl rfl ?_
 conv=>whnf
 repeat'(first|exact ⟨⟩|exact rfl|exact .inr rfl|exact .inl rfl|exact fun _ _=>rfl|exact noI|apply And.intro)
theorem vlook_ok(s:List UInt8)(hs:s.length<=9223372036854775807):FnOk Tryz.prog 21 [.d (.str s)] (.agg (look s).cells):=by
 refine qn (TT:=TT) (IN:=qd []) qf qe mixed 1000 Tryz.func21 rfl (qc Tryz.func21 (by kernel_rfl) rfl) rfl 67 (by kernel_rfl) ?_
 have hsp:look s=look s:=rfl
 conv at hsp=>rhs;unfold look
 have hh:=mhead_ok s (by omega)
 generalize wt s=p at hsp hh
 conv=>whnf
 refine oD hh rfl rfl ?_
 conv=>whnf
 refine⟨fun h1=>?_,fun h1=>?_⟩
 ·have h1:p.2.2≠0:=by simpa using h1
  rw [if_pos (.inl h1)] at hsp
  rw[hsp]
  conv=>whnf
  repeat(first|(refine brT rfl ?_;conv=>whnf)|(refine brF rfl ?_;conv=>whnf))
  repeat'(first|exact ⟨⟩|exact rfl|exact .inr rfl|exact .inl rfl|exact fun _ _=>rfl|exact noI|apply And.intro)
 have h1:¬ p.2.2≠0:=by simpa using h1
 conv=>whnf
 refine⟨fun h2=>?_,fun h2=>?_⟩
 ·have h2:Go.bits BinOp.and IntKind.u16 p.2.1 32768≠0:=by simpa using h2
  rw [if_pos (.inr h2)] at hsp
  rw[hsp]
  conv=>whnf
  repeat(first|(refine brT rfl ?_;conv=>whnf)|(refine brF rfl ?_;conv=>whnf))
  repeat'(first|exact ⟨⟩|exact rfl|exact .inr rfl|exact .inl rfl|exact fun _ _=>rfl|exact noI|apply And.intro)
 have h2:¬ Go.bits BinOp.and IntKind.u16 p.2.1 32768≠0:=by simpa using h2
 rw [if_neg (by rintro (h|h) <;> contradiction)] at hsp
 conv=>whnf
 have hr:=mread_ok s hs
 refine oD hr rfl rfl ?_
 conv=>whnf
 refine⟨fun h3=>?_,fun h3=>?_⟩
 ·have h3:(Msg.read s).2≠0:=by simpa using h3
  rw [if_pos h3] at hsp
  rw[hsp]
  conv=>whnf
  repeat(first|(refine brT rfl ?_;conv=>whnf)|(refine brF rfl ?_;conv=>whnf))
  repeat'(first|exact ⟨⟩|exact rfl|exact .inr rfl|exact .inl rfl|exact fun _ _=>rfl|exact noI|apply And.intro)
 have h3:¬ (Msg.read s).2≠0:=by simpa using h3
 rw [if_neg h3] at hsp
 rcases jg3 s with⟨e1,_⟩|⟨_,hm⟩
 ·exact absurd e1 h3
 clear hr
 generalize (Msg.read s).1=m at hsp hm ⊢
 have hc:=hm.check
 simp only [Msg.check,Bool.and_eq_true,decide_eq_true_eq,List.all_eq_true] at hc
 obtain⟨⟨⟨⟨⟨⟨⟨l1,l2⟩,l3⟩,l4⟩,_⟩,_⟩,_⟩,hx⟩:=hc
 have hd:∀ r ∈ m.extra,r.d.length<1099511627776:=fun r hr=>by
  have:=hx r hr
  simp only [RR.check,yb,Bool.and_eq_true,decide_eq_true_eq] at this
  omega
 obtain⟨g1,g2⟩:=get_fit m hd
 unfold lookM at hsp
 conv=>whnf
 refine oD (get_ok m (by omega) (by omega) (by omega) hd) rfl rfl ?_
 conv=>whnf
 refine⟨fun h4=>?_,fun h4=>?_⟩
 ·have h4:m.get.2≠0:=by simpa using h4
  rw [if_pos h4] at hsp
  rw[hsp]
  conv=>whnf
  repeat'(first|exact ⟨⟩|exact rfl|exact .inr rfl|exact .inl rfl|exact fun _ _=>rfl|exact noI|apply And.intro)
 have h4:¬ m.get.2≠0:=by simpa using h4
 rw [if_neg h4] at hsp
 conv=>whnf
 refine oD (cookies_ok m.get.1 (by omega) (fun o ho=>by have:=g2 o ho;omega)) rfl rfl ?_
 have hcd:=vcode_ok m m.get.1 (kx m.get.1.opts).2.2
 generalize m.get.1=e at hsp hcd ⊢
 generalize kx e.opts=c at hsp hcd ⊢
 conv=>whnf
 refine⟨fun h5=>?_,fun h5=>?_⟩
 ·have h5:c.2.2=0:=by simpa using h5
  rw [if_pos h5] at hsp
  rw[hsp]
  conv=>whnf
  refine oD hcd rfl rfl ?_
  conv=>whnf
  repeat'(first|exact ⟨⟩|exact rfl|exact .inr rfl|exact .inl rfl|exact fun _ _=>rfl|exact noI|apply And.intro)
 ·have h5:¬ c.2.2=0:=by simpa using h5
  rw [if_neg h5] at hsp
  rw[hsp]
  conv=>whnf
  refine oD hcd rfl rfl ?_
  conv=>whnf
  repeat'(first|exact ⟨⟩|exact rfl|exact .inr rfl|exact .inl rfl|exact fun _ _=>rfl|exact noI|apply And.intro)
theorem qu3{w:Wr}{s:List UInt8}(hf:w.full=false)(h:(s.length:Int)<=w.limit - w.buf.length):w.piece s = { w with buf:=w.buf++s }:=by
 have:w.fits s=true:=by
  unfold Wr.fits
  rw[hf]
  simp[h]
 unfold Wr.piece
 rw[if_pos this]
def Room(w v:Wr)(n:Nat):Prop:=v.full=false/\v.limit=w.limit/\v.buf.length<=w.buf.length+n
theorem qd8{w:Wr}{s:List UInt8}(hf:w.full=false)(h:(s.length:Int)<=w.limit - w.buf.length):Room w (w.piece s) s.length:=by
 rw[qu3 hf h]
 exact⟨hf,rfl,by show(w.buf++s).length<=_;rw[List.length_append];omega⟩
theorem wl{w:Wr}{x:Int}(hf:w.full=false)(h:(2:Int)<=w.limit - w.buf.length):Room w (w.num 2 x) 2:=qd8 (s:=be 2 x) hf h
theorem zw{a b c:Wr}{m n:Nat}(h:Room a b m)(k:Room b c n):Room a c (m+n):=⟨k.1,k.2.1.trans h.2.1,by have:=h.2.2;have:=k.2.2;omega⟩
theorem qn4{a b:Wr}{m n:Nat}(h:Room a b m)(hm:m<=n):Room a b n:=⟨h.1,h.2.1,by have:=h.2.2;omega⟩
theorem qv6:∀ (m:Nat) (w:Wr) (n:List UInt8),w.full=false->(n.length:Int)<=w.limit - w.buf.length->Room w (Wr.nameGo true m w n) n.length
 |0,w,n,hf,h=>qd8 hf h
 |m+1,w,n,hf,h=>by
  have htd:n.length=(n.take (1+bt n 0)).length+(n.drop (1+bt n 0)).length:=by
   rw[<-List.length_append,List.take_append_drop]
  have ht:((n.take (1+bt n 0)).length:Int)<=w.limit - w.buf.length:=by omega
  unfold Wr.nameGo
  split
  ·rename_i h1
   split
   ·rw[if_pos rfl]
    exact qn4 (wl hf (by omega)) (by omega)
   ·split
    ·rename_i hfit
     have hp:=qd8 hf ht
     split
     ·have hq:Room w { w.piece (n.take (1+bt n 0)) with rests:=w.rests++[(n,(w.buf.length:Int))] } (n.take (1+bt n 0)).length:=hp
      have:=qv6 m _ (n.drop (1+bt n 0)) hq.1 (by rw[hq.2.1];have:=hq.2.2;omega)
      rw[htd]
      exact zw hq this
     ·have:=qv6 m _ (n.drop (1+bt n 0)) hp.1 (by rw[hp.2.1];have:=hp.2.2;omega)
      rw[htd]
      exact zw hp this
    ·exact qn4 (qd8 hf ht) (by omega)
  ·exact qd8 hf h
def ageF(now s:Int):Int:=IntKind.i64.wrap (IntKind.i32.wrap (IntKind.u32.wrap (IntKind.u32.wrap now - s)))
def freshF(now s:Int):Bool:=!(decide (ageF now s < -300) || decide (ageF now s > 3600))
theorem age_ok(now s:Int):FnOk Tryz.prog 123 [.d (.int .i64 now),.d (.int .u32 s)] (.d (.int .i64 (ageF now s))):=by
 refine qn (TT:=TT) (IN:=qd [(175,Tryz.f175,1)]) qf (qv qe Tryz.func175 (by kernel_rfl) (by kernel_rfl)) mixed 1000 Tryz.func123 rfl (qc Tryz.func123 (by kernel_rfl) rfl) rfl 9 (by kernel_rfl) ?_
 conv=>whnf
 try exact rfl
theorem fresh_ok(now s:Int):FnOk Tryz.prog 59 [.d (.int .i64 now),.d (.int .u32 s)] (.d (.int .i64 (if freshF now s then 0 else 10))):=by
 refine qn (TT:=TT) (IN:=qd []) qf qe mixed 1000 Tryz.func59 rfl (qc Tryz.func59 (by kernel_rfl) rfl) rfl 13 (by kernel_rfl) ?_
 have ha:=age_ok now s
 unfold freshF
 generalize ageF now s=a at ha ⊢
 conv=>whnf
 refine oD ha rfl rfl ?_
 conv=>whnf
 refine⟨fun h1=>?_,fun h1=>?_⟩
 ·rw[h1]
  conv=>whnf
  try exact rfl
 ·rw[h1]
  conv=>whnf
  refine⟨fun h2=>?_,fun h2=>?_⟩
  ·rw[h2]
   conv=>whnf
   try exact rfl
  ·rw[h2]
   conv=>whnf
   try exact rfl
structure Gt where
 kind:Int
 code:Int
 cookie:List UInt8
def Gt.cells(g:Gt):List SV:=[.d (.int .u8 g.kind),.d (.int .i64 g.code),.d (.str g.cookie)]
def opts(l:List RR):List RR:=l.filter (fun r=>r.ty == 41)
def Msg.less(m:Msg):Msg:=⟨m.id,Go.bits BinOp.or IntKind.u16 m.bits 512,m.za,m.asks,true,[],true,[],Nat.beq (opts m.extra).length 0,opts m.extra⟩
def Msg.fit(m:Msg)(limit:Int):List UInt8 × Int:=if (m.write limit).2=7 then m.less.write limit else m.write limit
theorem bor_le(a b:Int):0<=Go.bits BinOp.or IntKind.u16 a b/\Go.bits BinOp.or IntKind.u16 a b<=65535:=by
 unfold Go.bits
 generalize BitVec.ofInt IntKind.u16.bits a=x
 show 0<=IntKind.u16.wrap _/\IntKind.u16.wrap _<=65535
 rw[IntKind.wrap_u16]
 omega
structure FtSt where
 i:Nat
set_option maxRecDepth 100000 in
theorem fit_ok(m:Msg)(hm:m.Ok)(limit:Int)(hlim : -9223372036854775808<=limit/\limit<=9223372036854775807)(he:m.extra.length<=1000000):FnOk Tryz.prog 65 [.agg m.cells,.d (.int .i64 limit)] (.tup [.d (.str (m.fit limit).1),.d (.int .i64 (m.fit limit).2)]):=by
 refine qn (TT:=TT) (IN:=qd []) qf qe mixed 1000 Tryz.func65 rfl (qc Tryz.func65 (by kernel_rfl) rfl) rfl 49 (by kernel_rfl) ?_
 conv=>whnf
 refine oD (mwrite_ok m hm limit hlim) rfl rfl ?_
 conv=>whnf
 refine⟨fun h1=>?_,fun h1=>?_⟩
 ·have h1:(m.write limit).2≠7:=by simpa using h1
  have e:m.fit limit=m.write limit:=by unfold Msg.fit;rw[if_neg h1]
  rw[e]
  conv=>whnf
  exact⟨rfl,rfl,True.intro⟩
 have h1:(m.write limit).2=7:=by simpa using h1
 have e:m.fit limit=m.less.write limit:=by unfold Msg.fit;rw[if_pos h1]
 rw[e]
 conv=>whnf
 refine .nilC 1 5 179 5 (fun _=>[]) _ _ _ _ rfl rfl ?_
 refine .nilC 1 3 179 5 (fun _=>[]) _ _ _ _ rfl rfl ?_
 refine .nilC 1 4 179 5 (fun _=>[]) _ _ _ _ rfl rfl ?_
 refine .inv FtSt (fun s=>s.i<=m.extra.length) (fun s=>[(32,.d (.int .i64 s.i))]) (fun s=>[(1,.cells 83 [.d (.int .u16 m.id),.d (.int .u16 (Go.bits BinOp.or IntKind.u16 m.bits 512)),.d (qsD m.za m.asks),.all 3,.all 4,.all 2]),(2,.row 179 5 (opts (m.extra.take s.i)).length .iff (fun j=>((opts (m.extra.take s.i)).getD j default).enc))]) (fun s=>m.extra.length - s.i) ⟨⟨0⟩,[0,1,2,3,4],Nat.zero_le _,?_⟩ ?_
 ·conv=>whnf
  repeat'(first|exact ⟨⟩|exact rfl|(intro i hi;exact absurd hi (Nat.not_lt_zero _))|apply And.intro)
 intro s hs
 conv=>whnf
 generalize s.i=i at hs ⊢
 refine⟨fun c5=>?_,fun c5=>?_⟩
 ·have c5':i<m.extra.length:=(by have h:(i:Int)<m.extra.length:=of_decide_eq_true c5;omega)
  conv=>whnf
  refine⟨by omega,?_⟩
  obtain⟨q,hq⟩:∃ q,m.extra.getD i default=q:=⟨_,rfl⟩
  have htk:m.extra.take (i+1)=m.extra.take i++[q]:=by
   rw[List.take_add_one,List.getElem?_eq_getElem c5',<-hq,List.getD,List.getElem?_eq_getElem c5']
   rfl
  have hw:=w64s i (by omega)
  have hol:(opts (m.extra.take i)).length<=i:=Nat.le_trans (List.length_filter_le _ _) (by rw[List.length_take];omega)
  conv=>whnf
  rw[Int.toNat_natCast,hq]
  refine⟨fun h2=>?_,fun h2=>?_⟩
  ·have h2:(q.ty == 41)=true:=h2
   have ho:opts (m.extra.take (i+1))=opts (m.extra.take i)++[q]:=by
    rw[htk]
    unfold opts
    rw[List.filter_append,List.filter_cons,if_pos h2]
    rfl
   conv=>whnf
   refine⟨by omega,?_⟩
   conv=>whnf
   refine⟨⟨i+1⟩,[0,1,7,3,4],c5',by show m.extra.length - (i+1)<m.extra.length - i;omega,?_⟩
   conv=>whnf
   rw[hw]
   repeat'(first|exact ⟨⟩|exact rfl|apply And.intro)
   all_goals try exact fun _ _=>rfl
   ·rw[ho,List.length_append]
    rfl
   all_goals try exact fun _ _=>rfl
   ·intro j hj
    show catF _ _ _ j=((opts (m.extra.take (i+1))).getD j default).enc
    rw[ho]
    exact qj0 _ q j hj
  ·have h2:(q.ty == 41)=false:=h2
   have ho:opts (m.extra.take (i+1))=opts (m.extra.take i):=by
    rw[htk]
    unfold opts
    rw[List.filter_append,List.filter_cons,if_neg (by rw[h2];simp)]
    exact List.append_nil _
   conv=>whnf
   refine⟨⟨i+1⟩,[0,1,2,3,4],c5',by show m.extra.length - (i+1)<m.extra.length - i;omega,?_⟩
   conv=>whnf
   rw[hw]
   repeat'(first|exact ⟨⟩|exact rfl|apply And.intro)
   ·show(opts (m.extra.take i)).length=(opts (m.extra.take (i+1))).length
    rw[ho]
   all_goals try exact fun _ _=>rfl
   ·intro j hj
    show((opts (m.extra.take i)).getD j default).enc=((opts (m.extra.take (i+1))).getD j default).enc
    rw[ho]
 have hie:i=m.extra.length:=(by have h:¬ (i:Int)<m.extra.length:=of_decide_eq_false c5;omega)
 rw[hie,List.take_of_length_le (Nat.le_refl _)]
 have hmo:m.less.Ok:=⟨hm.id,bor_le _ _,hm.asks,fun r hr=>absurd hr (by show r ∉ [];simp),fun r hr=>absurd hr (by show r ∉ [];simp),fun r hr=>hm.extra r (List.mem_filter.1 hr).1,hm.len⟩
 conv=>whnf
 refine .one (.look (.tup [.d (.str (m.less.write limit).1),.d (.int .i64 (m.less.write limit).2)]) ?_ rfl ?_)
 ·conv=>whnf
  refine⟨(mwrite_ok m.less hmo limit hlim).convA ⟨AEq.aggL ⟨.refl _,.refl _,.refl _,AEq.row (fun i hi=>absurd hi (Nat.not_lt_zero _)),AEq.row (fun i hi=>absurd hi (Nat.not_lt_zero _)),.refl _,True.intro⟩,.refl _,True.intro⟩,rfl⟩
 conv=>whnf
 exact⟨rfl,rfl,True.intro⟩
def smM(id bits:Int)(za:Bool)(q:Q)(o:Option RR):Msg:=⟨id,bits,za,[q],true,[],true,[],o.isNone,o.toList⟩
theorem room_head{w:Wr}(m:Msg)(f0:w.full=false)(h0:(12:Int)<=w.limit - w.buf.length):Room w (w.head m) 12:=by
 unfold Wr.head
 have q1:=wl (x:=m.id) f0 (by omega)
 have q2:=zw q1 (wl (x:=m.bits) q1.1 (by rw[q1.2.1];have:=q1.2.2;omega))
 have q3:=zw q2 (wl (x:=(m.asks.length:Int)) q2.1 (by rw[q2.2.1];have:=q2.2.2;omega))
 have q4:=zw q3 (wl (x:=(m.says.length:Int)) q3.1 (by rw[q3.2.1];have:=q3.2.2;omega))
 have q5:=zw q4 (wl (x:=(m.heads.length:Int)) q4.1 (by rw[q4.2.1];have:=q4.2.2;omega))
 exact zw q5 (wl (x:=(m.extra.length:Int)) q5.1 (by rw[q5.2.1];have:=q5.2.2;omega))
theorem room_num4{w:Wr}{x:Int}(hf:w.full=false)(h:(4:Int)<=w.limit - w.buf.length):Room w (w.num 4 x) 4:=qd8 (s:=be 4 x) hf h
theorem room_nm{w:Wr}{n:List UInt8}(h:qh n)(f1:w.full=false)(hl:(n.length:Int)<=w.limit - w.buf.length):Room w (w.name n true) n.length:=by
 unfold Wr.name
 rw[if_neg (by
  rintro (h1|h1);· rw [f1] at h1;cases h1
  ·exact h1 h)]
 exact qv6 _ _ _ f1 hl
theorem room_set{a b:Wr}{n:Nat}(h:Room a b n)(i x:Int):Room a (b.set i x) n:=by
 unfold Wr.set
 split
 ·exact h
 ·exact⟨h.1,h.2.1,by show(two b.buf i.toNat _ _).length<=_;rw[two_len _ _ _ _ (by omega)];exact h.2.2⟩
theorem root_name:qh [0]:=of_decide_eq_true (by kernel_rfl)
theorem room_opt{w:Wr}{r:RR}(hc:r.check=true)(hn:r.nm=[0])(ht:r.ty=41)(hf:w.full=false)(hl:(11+r.d.length:Int)<=w.limit - w.buf.length):Room w (w.record r).1 (11+r.d.length):=by
 have hr:yb 41 r.d=true:=by
  unfold RR.check at hc
  rw [ht] at hc
  simp only [Bool.and_eq_true] at hc
  exact hc.1.2
 have hlk:yf 41 r.d=none:=by unfold yf;rw[show ya 41=none by rfl];split <;> rfl
 unfold Wr.record
 rw[if_pos hc,hn,ht]
 dsimp only
 unfold Wr.rdata
 rw[if_pos hr,hlk]
 apply room_set
 have q1:=room_nm root_name hf (by show(1:Int)<=_;omega)
 have q2:=zw q1 (wl (x:=41) q1.1 (by rw[q1.2.1];have h:_<=w.buf.length+1:=q1.2.2;omega))
 have q3:=zw q2 (wl (x:=r.cl) q2.1 (by rw[q2.2.1];have h:_<=w.buf.length+3:=q2.2.2;omega))
 have q4:=zw q3 (room_num4 (x:=r.ttl) q3.1 (by rw[q3.2.1];have h:_<=w.buf.length+5:=q3.2.2;omega))
 have q5:=zw q4 (wl (x:=0) q4.1 (by rw[q4.2.1];have h:_<=w.buf.length+9:=q4.2.2;omega))
 have q6:=zw q5 (qd8 (s:=r.d) q5.1 (by rw[q5.2.1];have h:_<=w.buf.length+11:=q5.2.2;omega))
 exact qn4 q6 (by show 1+2+2+4+2+r.d.length<=_;omega)
structure SmR(r:RR):Prop where
 nm:r.nm=[0]
 ty:r.ty=41
 ok:r.Ok
 len:r.d.length<=28
theorem SmR.check{r:RR}(h:SmR r):r.check=true:=by
 unfold RR.check
 rw[h.nm,h.ty]
 have:yb 41 r.d=true:=by
  unfold yb
  rw[decide_eq_true (by have:=h.len;omega)]
  rfl
 rw[this,decide_eq_true root_name]
 simp
theorem sm_law(id bits:Int)(hid:0<=id/\id<=65535)(hb:0<=bits/\bits<=65535)(za:Bool)(q:Q)(hq:q.Ok)(hn:qh q.nm)(o:Option RR)(ho:∀ r,o=some r->SmR r) :
 ∃ b,(smM id bits za q o).fit 512=(b,0)/\(smM id bits za q o).write 512=(b,0)/\(b.length<=55+q.nm.length/\b.length<=512)/\Msg.read b=(Msg.of id bits [q] [] [] o.toList,0):=by
 have hm:∀ r ∈ o.toList,SmR r:=fun r hr=>ho r (by simpa using hr)
 have hok:(smM id bits za q o).Ok:=⟨hid,hb,fun x hx=>(by rw[List.mem_singleton.1 hx];exact hq),fun r hr=>(by cases hr),fun r hr=>(by cases hr),fun r hr=>(hm r hr).ok,by show 1<_;decide⟩
 have hck:(smM id bits za q o).check=true:=by
  unfold Msg.check smM
  have:o.toList.length<=1:=by cases o <;> simp
  have h2:o.toList.all RR.check=true:=List.all_eq_true.2 fun r hr=>(hm r hr).check
  simp[hn]
  exact⟨by omega,by simpa using h2⟩
 have hnl:=hn.2.1
 have hl:lm 512=512:=by decide
 have hroom:Room (Wr.mk [] 512 false []) ((smM id bits za q o).last 512) (55+q.nm.length):=by
  unfold Msg.last
  rw[hl]
  have g0:(Wr.mk [] 512 false []).limit - ((Wr.mk [] 512 false []).buf.length:Int)=512:=by decide
  have f0:(Wr.mk [] 512 false []).full=false:=rfl
  generalize Wr.mk [] 512 false []=w at g0 f0 ⊢
  have q1:=room_head (smM id bits za q o) f0 (by omega)
  have q2:=zw q1 (room_nm hn q1.1 (by rw[q1.2.1];have:=q1.2.2;omega))
  have q3:=zw q2 (wl (x:=q.ty) q2.1 (by rw[q2.2.1];have:=q2.2.2;omega))
  have q4:=zw q3 (wl (x:=q.cl) q3.1 (by rw[q3.2.1];have:=q3.2.2;omega))
  cases o with
  |none=>exact qn4 q4 (by omega)
  |some r =>
   have hr:=ho r rfl
   have hrl:=hr.len
   have q5:=zw q4 (room_opt hr.check hr.nm hr.ty q4.1 (by rw[q4.2.1];have:=q4.2.2;omega))
   exact qn4 q5 (by omega)
 obtain⟨hrd,hle⟩:=msg_back hok (limit:=512) (by decide) hck hroom.1
 have hw:(smM id bits za q o).write 512=(((smM id bits za q o).last 512).buf,0):=by
  unfold Msg.write
  rw[hck,hroom.1]
  rfl
 refine⟨((smM id bits za q o).last 512).buf,?_,hw,⟨by have:=hroom.2.2;simpa using this,by omega⟩,hrd⟩
 unfold Msg.fit
 rw[hw]
 rfl
theorem oclone_nil(sz:Nat)(f:Nat->List DV):FnOk Tryz.prog 93 [.d (.sl true 0 sz f)] nilS:=by
 refine qn (TT:=TT) (IN:=qd []) qf qe mixed 1000 Tryz.func93 rfl (qc Tryz.func93 (by kernel_rfl) rfl) rfl 7 (by kernel_rfl) ?_
 conv=>whnf
 refine⟨fun _=>?_,fun h1=>nomatch h1⟩
 conv=>whnf
 repeat'(first|exact ⟨⟩|exact rfl|exact .inr rfl|exact .inl rfl|exact fun _ _=>rfl|exact noI|apply And.intro)
theorem jg5(sz:Nat)(f:Nat->List DV):FnOk Tryz.prog 95 [.d (.sl true 0 sz f)] nilS:=by
 refine qn (TT:=TT) (IN:=qd []) qf qe mixed 1000 Tryz.func95 rfl (qc Tryz.func95 (by kernel_rfl) rfl) rfl 7 (by kernel_rfl) ?_
 conv=>whnf
 refine⟨fun _=>?_,fun h1=>nomatch h1⟩
 conv=>whnf
 repeat'(first|exact ⟨⟩|exact rfl|exact .inr rfl|exact .inl rfl|exact fun _ _=>rfl|exact noI|apply And.intro)
theorem rclone_ok(y:Bool)(a:List RR)(h:y=true->a=[])(ha:a.length<=1000000):FnOk Tryz.prog 95 [.d (rrsD y a)] (.d (rrsD y a)):=by
 refine qn (TT:=TT) (IN:=qd []) qf qe mixed 1000 Tryz.func95 rfl (qc Tryz.func95 (by kernel_rfl) rfl) rfl 7 (by kernel_rfl) ?_
 conv=>whnf
 refine⟨fun h1=>?_,fun h1=>?_⟩
 ·have h1:y=true:=h1
  rw[h h1,h1]
  conv=>whnf
  exact⟨rfl,rfl,.inl rfl,fun i hi=>absurd hi (Nat.not_lt_zero _)⟩
 ·have h1:y=false:=h1
  rw[h1]
  conv=>whnf
  refine⟨by omega,?_⟩
  conv=>whnf
  refine⟨rfl,Nat.zero_add _,.inr rfl,fun i hi=>?_⟩
  unfold catF
  rw[if_neg (Nat.not_lt_zero _),Nat.sub_zero]
theorem odel_nil:FnOk Tryz.prog 92 [nilS,codedV 10] nilS:=by
 refine qn (TT:=TT) (IN:=qd []) qf qe mixed 1000 Tryz.func92 rfl (qc Tryz.func92 (by kernel_rfl) rfl) rfl 40 (by kernel_rfl) ?_
 conv=>whnf
 refine .one (.data (.d (.int .i64 (-1))) ((oindex_ok true [] 10 (by decide)).convA ⟨.none _ _ _ _ _,.refl _,True.intro⟩) rfl rfl ?_)
 conv=>whnf
 refine brT rfl ?_
 conv=>whnf
 repeat'(first|exact ⟨⟩|exact rfl|exact .inr rfl|exact .inl rfl|exact fun _ _=>rfl|exact noI|apply And.intro)
theorem rdel_nil:FnOk Tryz.prog 96 [nilS,typedV 41] nilS:=by
 refine qn (TT:=TT) (IN:=qd []) qf qe mixed 1000 Tryz.func96 rfl (qc Tryz.func96 (by kernel_rfl) rfl) rfl 40 (by kernel_rfl) ?_
 conv=>whnf
 refine .one (.data (.d (.int .i64 (-1))) ((qv7 true [] 41 (by decide)).convA ⟨.none _ _ _ _ _,.refl _,True.intro⟩) rfl rfl ?_)
 conv=>whnf
 refine brT rfl ?_
 conv=>whnf
 repeat'(first|exact ⟨⟩|exact rfl|exact .inr rfl|exact .inl rfl|exact fun _ _=>rfl|exact noI|apply And.intro)
theorem qk6{a b:List UInt8}(h:yq a b=true):a.length=8/\b.length<=32:=by
 unfold yq at h
 simp only [Bool.and_eq_true,Bool.or_eq_true,decide_eq_true_eq,beq_iff_eq] at h
 obtain⟨h1,h2|h2⟩:=h
 ·exact⟨h1,by rw[h2];exact Nat.zero_le _⟩
 ·exact⟨h1,h2.2⟩
def withC(size high ver flags:Int)(a b:List UInt8):Ed:=⟨true,size,high,ver,flags,false,[⟨10,a++b⟩]⟩
theorem qx1(th:DV)(size high ver flags:Int)(a b:List UInt8)(h:yq a b=true):FnOk Tryz.prog 35 [.agg [.d th,.d (.int .u16 size),.d (.int .u8 high),.d (.int .u8 ver),.d (.int .u16 flags),nilS],.d (.str a),.d (.str b)] (.tup [.agg (withC size high ver flags a b).cells,.d (.int .i64 0)]):=by
 refine qn (TT:=TT) (IN:=qd []) qf qe mixed 1000 Tryz.func35 rfl (qc Tryz.func35 (by kernel_rfl) rfl) rfl 29 (by kernel_rfl) ?_
 conv=>whnf
 have hr:=qx7 a b
 rw [h] at hr
 refine oD hr rfl rfl ?_
 conv=>whnf
 refine brF rfl ?_
 conv=>whnf
 refine oD (oclone_nil 0 _) rfl rfl ?_
 conv=>whnf
 refine oD (coded_ok 10) rfl rfl ?_
 conv=>whnf
 refine oD odel_nil rfl rfl ?_
 conv=>whnf
 have hab:=qk6 h
 refine⟨by show a.length+b.length<=9223372036854775807;omega,?_⟩
 conv=>whnf
 refine⟨by decide,?_⟩
 conv=>whnf
 repeat'(first|exact ⟨⟩|exact rfl|exact .inr rfl|exact .inl rfl|exact fun _ _=>rfl|exact noI|apply And.intro)
 try exact .inr rfl
 ·intro i hi
  match i,hi with
  |0,_=>rfl
  |i+1,h=>exact absurd h (by omega)
theorem with_no(th:DV)(size high ver flags:Int)(a b:List UInt8)(h:yq a b=false):FnOk Tryz.prog 35 [.agg [.d th,.d (.int .u16 size),.d (.int .u8 high),.d (.int .u8 ver),.d (.int .u16 flags),nilS],.d (.str a),.d (.str b)] (.tup [.agg Ed.no.cells,.d (.int .i64 2)]):=by
 refine qn (TT:=TT) (IN:=qd []) qf qe mixed 1000 Tryz.func35 rfl (qc Tryz.func35 (by kernel_rfl) rfl) rfl 29 (by kernel_rfl) ?_
 conv=>whnf
 have hr:=qx7 a b
 rw [h] at hr
 refine oD hr rfl rfl ?_
 conv=>whnf
 refine brT rfl ?_
 conv=>whnf
 repeat'(first|exact ⟨⟩|exact rfl|exact .inr rfl|exact .inl rfl|exact fun _ _=>rfl|exact noI|apply And.intro)
def optB(c:List UInt8):List UInt8:=[0,10]++be 2 (c.length:Int)++c
theorem d0ok:(Wr.mk [] 4096 false []).Ok:=⟨by decide,by decide,.inl rfl,fun e he=>by cases he⟩
theorem qz2(size high ver flags:Int)(c:List UInt8)(hc:c.length<=4000):FnOk Tryz.prog 94 [.agg (Ed.mk true size high ver flags false [⟨10,c⟩]).cells] (.tup [.d (.str (optB c)),.d .tt]):=by
 refine qn (TT:=TT) (IN:=qd []) qf qe mixed 1000 Tryz.func94 rfl (qc Tryz.func94 (by kernel_rfl) rfl) rfl 46 (by kernel_rfl) ?_
 conv=>whnf
 refine⟨fun h=>(nomatch h),fun _=>?_⟩
 conv=>whnf
 refine .rel _ (ql5 (fun _=>rfl) (wnew_ok 4096) [_] (fun _=>rfl)) (fun r ks' hR=>?_)
 obtain⟨rfl,rfl⟩:=hR
 have hok:=d0ok
 conv=>whnf
 refine .once ?_
 conv=>whnf
 refine⟨fun _=>?_,fun h=>(nomatch h)⟩
 conv=>whnf
 refine⟨⟨Int.le_refl 0,show(0:Int)<((1:Nat):Int) by decide⟩,?_⟩
 conv=>whnf
 refine .rel _ (COk.thing Wr.fl (z7 _ hok 2 (.inr (.inl rfl)) (IntKind.u64.wrap 10)) [_] [_] _ rfl rfl) (fun x ks' hR=>?_)
 obtain⟨_,wq,⟨rfl,rfl⟩,rfl,rfl⟩:=hR
 have hok:=hok.num 2 (IntKind.u64.wrap 10)
 conv=>whnf
 refine .rel _ (COk.thing Wr.fl (z7 _ hok 2 (.inr (.inl rfl)) (IntKind.u64.wrap (c.length:Int))) [_] [_] _ rfl rfl) (fun x ks' hR=>?_)
 obtain⟨_,wq,⟨rfl,rfl⟩,rfl,rfl⟩:=hR
 have hok:=hok.num 2 (IntKind.u64.wrap (c.length:Int))
 conv=>whnf
 refine .rel _ (COk.thing Wr.fl (wraw_ok _ hok c (by omega)) [_] [_] _ rfl rfl) (fun x ks' hR=>?_)
 obtain⟨_,wq,⟨rfl,rfl⟩,rfl,rfl⟩:=hR
 conv=>whnf
 refine .once ?_
 conv=>whnf
 refine⟨fun h=>(nomatch h),fun _=>?_⟩
 conv=>whnf
 refine .rel _ (COk.thing Wr.fl (out_ok _) [_] [_] _ rfl rfl) (fun x ks' hR=>?_)
 obtain⟨_,wq,⟨rfl,rfl⟩,rfl,rfl⟩:=hR
 have hw:IntKind.u64.wrap (c.length:Int)=c.length:=by rw[IntKind.wrap_u64];omega
 have e:(((Wr.mk [] 4096 false []).num 2 (IntKind.u64.wrap 10)).num 2 (IntKind.u64.wrap (c.length:Int))).piece c=⟨optB c,4096,false,[]⟩:=by
  rw[hw]
  have e1:(Wr.mk [] 4096 false []).num 2 (IntKind.u64.wrap 10)=⟨[0,10],4096,false,[]⟩:=rfl
  have hbl:(be 2 (c.length:Int)).length=2:=rfl
  have e2:(Wr.mk [0,10] 4096 false []).num 2 (c.length:Int)=⟨[0,10]++be 2 (c.length:Int),4096,false,[]⟩:=qu3 rfl (by show((be 2 (c.length:Int)).length:Int)<=4096 - 2;rw[hbl];decide)
  have e3:(Wr.mk ([0,10]++be 2 (c.length:Int)) 4096 false []).piece c=⟨optB c,4096,false,[]⟩:=qu3 rfl (by show(c.length:Int)<=4096 - (([0,10]++be 2 (c.length:Int)).length:Int);rw[List.length_append,hbl];show(c.length:Int)<=4096 - ((2+2:Nat):Int);omega)
  rw[e1,e2,e3]
 rw[e]
 conv=>whnf
 exact⟨rfl,rfl,True.intro⟩
theorem qw6(size high ver flags:Int):FnOk Tryz.prog 94 [.agg [.d .tt,.d (.int .u16 size),.d (.int .u8 high),.d (.int .u8 ver),.d (.int .u16 flags),nilS]] (.tup [.d (.str []),.d .tt]):=by
 refine qn (TT:=TT) (IN:=qd []) qf qe mixed 1000 Tryz.func94 rfl (qc Tryz.func94 (by kernel_rfl) rfl) rfl 46 (by kernel_rfl) ?_
 conv=>whnf
 repeat(first|(refine brF rfl ?_;conv=>whnf)|(refine brT rfl ?_;conv=>whnf))
 refine .rel _ (ql5 (fun _=>rfl) (wnew_ok 4096) [_] (fun _=>rfl)) (fun r ks' hR=>?_)
 obtain⟨rfl,rfl⟩:=hR
 conv=>whnf
 repeat(first|(refine brT rfl ?_;conv=>whnf)|(refine brF rfl ?_;conv=>whnf)|(refine .once ?_;conv=>whnf)|(refine⟨by decide,?_⟩;conv=>whnf)|(refine And.intro (Nat.le_of_ble_eq_true rfl) ?_;conv=>whnf))
 refine .rel _ (COk.thing Wr.fl (out_ok _) [_] [] _ rfl rfl) (fun x ks' hR=>?_)
 obtain⟨_,wq,⟨rfl,rfl⟩,rfl,rfl⟩:=hR
 conv=>whnf
 exact⟨rfl,rfl,True.intro⟩
def ttlF(high ver flags:Int):Int:=Go.bits BinOp.or IntKind.u32 (Go.bits BinOp.or IntKind.u32 (IntKind.u32.wrap (IntKind.u32.wrap high * 2 ^ 24)) (IntKind.u32.wrap (IntKind.u32.wrap ver * 2 ^ 16))) (IntKind.u32.wrap flags)
theorem put_gen(id bits:Int)(za:Bool)(asks:List Q)(zs:Bool)(says:List RR)(hza:za=true->asks=[])(hal:asks.length<=1000000)(hzs:zs=true->says=[])(hsl:says.length<=1000000)(th:DV)(hth:th = .tt\/th = .bool true)(size high ver flags:Int)(os:DV)(d:List UInt8)
 (hd:FnOk Tryz.prog 94 [.agg [.d th,.d (.int .u16 size),.d (.int .u8 high),.d (.int .u8 ver),.d (.int .u16 flags),.d os]] (.tup [.d (.str d),.d .tt])) :
 FnOk Tryz.prog 36 [.agg (Msg.mk id bits za asks zs says true [] true []).cells,.agg [.d th,.d (.int .u16 size),.d (.int .u8 high),.d (.int .u8 ver),.d (.int .u16 flags),.d os]] (.tup [.agg (Msg.mk id bits za asks zs says true [] false [⟨[0],41,size,ttlF high ver flags,d⟩]).cells,.d (.int .i64 0)]):=by
 refine qn (TT:=TT) (IN:=qd []) qf qe mixed 1000 Tryz.func36 rfl (qc Tryz.func36 (by kernel_rfl) rfl) rfl 63 (by kernel_rfl) ?_
 conv=>whnf
 refine oD hd rfl rfl ?_
 conv=>whnf
 refine .data _ (qv8 za asks hza hal) rfl rfl ?_
 conv=>whnf
 refine .data _ (rclone_ok zs says hzs hsl) rfl rfl ?_
 conv=>whnf
 refine .data _ (jg5 _ _) rfl rfl ?_
 conv=>whnf
 refine .data _ (jg5 _ _) rfl rfl ?_
 conv=>whnf
 refine .data _ (typed_ok 41) rfl rfl ?_
 conv=>whnf
 refine .data _ rdel_nil rfl rfl ?_
 rcases hth with rfl|rfl
 ·conv=>whnf
  refine⟨by decide,?_⟩
  conv=>whnf
  refine⟨by decide,?_⟩
  conv=>whnf
  refine⟨by decide,?_⟩
  conv=>whnf
  repeat'(first|exact ⟨⟩|exact rfl|exact .inr rfl|exact .inl rfl|exact fun _ _=>rfl|exact noI|apply And.intro)
  try exact .inr rfl
  ·intro i hi
   match i,hi with
   |0,_=>rfl
   |i+1,h=>exact absurd h (by omega)
 ·conv=>whnf
  refine brT rfl ?_
  conv=>whnf
  refine⟨by decide,?_⟩
  conv=>whnf
  refine⟨by decide,?_⟩
  conv=>whnf
  refine⟨by decide,?_⟩
  conv=>whnf
  repeat'(first|exact ⟨⟩|exact rfl|exact .inr rfl|exact .inl rfl|exact fun _ _=>rfl|exact noI|apply And.intro)
  try exact .inr rfl
  ·intro i hi
   match i,hi with
   |0,_=>rfl
   |i+1,h=>exact absurd h (by omega)
theorem rec0_ok:FnOk Tryz.prog 132 [.agg [.d (.str []),.d (.int .u16 0),.d (.int .u32 0),nilS]] nilS:=by
 refine qn (TT:=TT) (IN:=qd []) qf qe mixed 1000 Tryz.func132 rfl (qc Tryz.func132 (by kernel_rfl) rfl) rfl 32 (by kernel_rfl) ?_
 conv=>whnf
 have hs:=scheck_ok [] 0 0 true []
 rw [show uj [] 0 0 []=false by kernel_rfl] at hs
 refine oD (hs.convA ⟨AEq.aggL ⟨.refl _,.refl _,.refl _,.none _ _ _ _ _,True.intro⟩,True.intro⟩) rfl rfl ?_
 conv=>whnf
 repeat(first|(refine brT rfl ?_;conv=>whnf)|(refine brF rfl ?_;conv=>whnf)|(refine .once ?_;conv=>whnf)|(refine⟨by decide,?_⟩;conv=>whnf)|(refine And.intro (Nat.le_of_ble_eq_true rfl) ?_;conv=>whnf))
 repeat'(first|exact ⟨⟩|exact rfl|exact .inr rfl|exact .inl rfl|exact fun _ _=>rfl|exact noI|apply And.intro)
 all_goals exact fun _ _=>rfl
theorem qr9(id bits:Int)(za:Bool)(asks:List Q)(f:Nat->List DV)(hza:za=true->asks=[])(hal:asks.length<=1000000)(th:DV)(hth:th = .tt\/th = .bool true)(size high ver flags:Int)(os:DV)(d:List UInt8)
 (hd:FnOk Tryz.prog 94 [.agg [.d th,.d (.int .u16 size),.d (.int .u8 high),.d (.int .u8 ver),.d (.int .u16 flags),.d os]] (.tup [.d (.str d),.d .tt])) :
 FnOk Tryz.prog 36 [.agg [.d (.int .u16 id),.d (.int .u16 bits),.d (qsD za asks),.d (.sl true 0 5 f),.d (rrsD true []),.d (rrsD true [])],.agg [.d th,.d (.int .u16 size),.d (.int .u8 high),.d (.int .u8 ver),.d (.int .u16 flags),.d os]] (.tup [.agg (Msg.mk id bits za asks true [] true [] false [⟨[0],41,size,ttlF high ver flags,d⟩]).cells,.d (.int .i64 0)]) :=
 (put_gen id bits za asks true [] hza hal (fun _=>rfl) (by decide) th hth size high ver flags os d hd).convA ⟨AEq.aggL ⟨.refl _,.refl _,.refl _,.none _ _ _ _ _,.refl _,.refl _,True.intro⟩,.refl _,True.intro⟩
def xx(g:Gt):Int:=if g.kind=1 then g.code else if g.kind=2 then 23 else 0
def rplO(r:Rq)(code:Int)(cookie:List UInt8):Option RR :=
 if r.e.there then some ⟨[0],41,4096,ttlF (IntKind.u8.wrap (code.fdiv (2 ^ 4))) 0 0,if yq r.client cookie then optB (r.client++cookie) else []⟩ else none
def z1(b code:Int):Int:=Go.bits BinOp.or IntKind.u16 (Go.bits BinOp.or IntKind.u16 (Go.bits BinOp.and IntKind.u16 b 30976) (Go.bits BinOp.or IntKind.u16 32768 (IntKind.u16.wrap (Go.bits BinOp.and IntKind.i64 code 15)))) 128
def rplM(r:Rq)(code:Int)(cookie:List UInt8):Msg:=⟨r.m.id,z1 r.m.bits code,r.m.za,r.m.asks,true,[],true,[],(rplO r code cookie).isNone,(rplO r code cookie).toList⟩
theorem qw3(r:Rq)(h:r.m.za=true->r.m.asks=[])(ha:r.m.asks.length<=1000000)(code:Int)(cookie:List UInt8):FnOk Tryz.prog 64 [.agg r.cells,.d (.int .i64 code),.agg [.d (.int .i64 0),nilS,.d (.str []),.d (.int .u16 0),.d (.int .u32 0),nilS],.d (.str cookie)] (.agg (rplM r code cookie).cells):=by
 refine qn (TT:=TT) (IN:=qd []) qf qe mixed 1000 Tryz.func64 rfl (qc Tryz.func64 (by kernel_rfl) rfl) rfl 78 (by kernel_rfl) ?_
 conv=>whnf
 refine oD (strip_ok r h ha) rfl rfl ?_
 conv=>whnf
 refine oD (reply_ok (Msg.mk r.m.id r.m.bits r.m.za r.m.asks true [] true [] true []) code h ha) rfl rfl ?_
 conv=>whnf
 refine⟨fun h1=>?_,fun h1=>?_⟩
 ·have h1:code=0:=by simpa using h1
  conv=>whnf
  repeat(first|(refine brF rfl ?_;conv=>whnf)|(refine brT rfl ?_;conv=>whnf))
  repeat(first|(refine brT rfl ?_;conv=>whnf)|(refine brF rfl ?_;conv=>whnf)|(refine .once ?_;conv=>whnf)|(refine⟨by decide,?_⟩;conv=>whnf)|(refine And.intro (Nat.le_of_ble_eq_true rfl) ?_;conv=>whnf))
  refine .data _ rec0_ok rfl rfl ?_
  conv=>whnf
  refine⟨by decide,?_⟩
  conv=>whnf
  refine⟨fun h3=>?_,fun h3=>?_⟩
  ·have h3:r.e.there=false:=by simpa using h3
   have e:rplO r code cookie=none:=by unfold rplO;rw[h3];rfl
   unfold rplM
   rw[e]
   conv=>whnf
   repeat'(first|exact ⟨⟩|exact rfl|exact .inr rfl|exact .inl rfl|exact fun _ _=>rfl|exact noI|apply And.intro)
  have h3:r.e.there=true:=by simpa using h3
  conv=>whnf
  refine⟨by decide,?_⟩
  conv=>whnf
  cases hr:yq r.client cookie
  ·have e:rplO r code cookie=some ⟨[0],41,4096,ttlF (IntKind.u8.wrap (code.fdiv (2 ^ 4))) 0 0,[]⟩:=by unfold rplO;rw[h3,hr];rfl
   refine oD (with_no _ _ _ _ _ r.client cookie hr) rfl rfl ?_
   conv=>whnf
   repeat(first|(refine brF rfl ?_;conv=>whnf)|(refine brT rfl ?_;conv=>whnf))
   refine .one (.frz (.tup [.agg (Msg.mk r.m.id (z1 r.m.bits code) r.m.za r.m.asks true [] true [] false [⟨[0],41,4096,ttlF (IntKind.u8.wrap (code.fdiv (2 ^ 4))) 0 0,[]⟩]).cells,.d (.int .i64 0)]) _ [4] (qr9 r.m.id (z1 r.m.bits code) r.m.za r.m.asks _ h ha .tt (.inl rfl) 4096 (IntKind.u8.wrap (code.fdiv (2 ^ 4))) 0 0 _ [] (qw6 4096 (IntKind.u8.wrap (code.fdiv (2 ^ 4))) 0 0)) ⟨rfl,rfl⟩ rfl rfl ?_)
   conv=>whnf
   repeat(first|(refine brF rfl ?_;conv=>whnf)|(refine brT rfl ?_;conv=>whnf))
   unfold rplM
   rw[e]
   repeat'(first|exact ⟨⟩|exact rfl|exact .inr rfl|exact .inl rfl|exact fun _ _=>rfl|exact noI|apply And.intro)
  ·have e:rplO r code cookie=some ⟨[0],41,4096,ttlF (IntKind.u8.wrap (code.fdiv (2 ^ 4))) 0 0,optB (r.client++cookie)⟩:=by unfold rplO;rw[h3,hr];rfl
   have hlen:=qk6 hr
   refine oD (qx1 _ _ _ _ _ r.client cookie hr) rfl rfl ?_
   conv=>whnf
   repeat(first|(refine brF rfl ?_;conv=>whnf)|(refine brT rfl ?_;conv=>whnf))
   refine .one (.frz (.tup [.agg (Msg.mk r.m.id (z1 r.m.bits code) r.m.za r.m.asks true [] true [] false [⟨[0],41,4096,ttlF (IntKind.u8.wrap (code.fdiv (2 ^ 4))) 0 0,(optB (r.client++cookie))⟩]).cells,.d (.int .i64 0)]) _ [4] (qr9 r.m.id (z1 r.m.bits code) r.m.za r.m.asks _ h ha (.bool true) (.inr rfl) 4096 (IntKind.u8.wrap (code.fdiv (2 ^ 4))) 0 0 _ (optB (r.client++cookie)) (qz2 4096 (IntKind.u8.wrap (code.fdiv (2 ^ 4))) 0 0 (r.client++cookie) (by rw[List.length_append];omega))) ⟨rfl,rfl⟩ rfl rfl ?_)
   conv=>whnf
   repeat(first|(refine brF rfl ?_;conv=>whnf)|(refine brT rfl ?_;conv=>whnf))
   unfold rplM
   rw[e]
   repeat'(first|exact ⟨⟩|exact rfl|exact .inr rfl|exact .inl rfl|exact fun _ _=>rfl|exact noI|apply And.intro)
 have h1:¬ code=0:=by simpa using h1
 conv=>whnf
 refine⟨fun h2=>?_,fun h2=>?_⟩
 ·conv=>whnf
  repeat(first|(refine brT rfl ?_;conv=>whnf)|(refine brF rfl ?_;conv=>whnf)|(refine .once ?_;conv=>whnf)|(refine⟨by decide,?_⟩;conv=>whnf)|(refine And.intro (Nat.le_of_ble_eq_true rfl) ?_;conv=>whnf))
  refine .data _ rec0_ok rfl rfl ?_
  conv=>whnf
  refine⟨by decide,?_⟩
  conv=>whnf
  refine⟨fun h3=>?_,fun h3=>?_⟩
  ·have h3:r.e.there=false:=by simpa using h3
   have e:rplO r code cookie=none:=by unfold rplO;rw[h3];rfl
   unfold rplM
   rw[e]
   conv=>whnf
   repeat'(first|exact ⟨⟩|exact rfl|exact .inr rfl|exact .inl rfl|exact fun _ _=>rfl|exact noI|apply And.intro)
  have h3:r.e.there=true:=by simpa using h3
  conv=>whnf
  refine⟨by decide,?_⟩
  conv=>whnf
  cases hr:yq r.client cookie
  ·have e:rplO r code cookie=some ⟨[0],41,4096,ttlF (IntKind.u8.wrap (code.fdiv (2 ^ 4))) 0 0,[]⟩:=by unfold rplO;rw[h3,hr];rfl
   refine oD (with_no _ _ _ _ _ r.client cookie hr) rfl rfl ?_
   conv=>whnf
   repeat(first|(refine brF rfl ?_;conv=>whnf)|(refine brT rfl ?_;conv=>whnf))
   refine .one (.frz (.tup [.agg (Msg.mk r.m.id (z1 r.m.bits code) r.m.za r.m.asks true [] true [] false [⟨[0],41,4096,ttlF (IntKind.u8.wrap (code.fdiv (2 ^ 4))) 0 0,[]⟩]).cells,.d (.int .i64 0)]) _ [4] (qr9 r.m.id (z1 r.m.bits code) r.m.za r.m.asks _ h ha .tt (.inl rfl) 4096 (IntKind.u8.wrap (code.fdiv (2 ^ 4))) 0 0 _ [] (qw6 4096 (IntKind.u8.wrap (code.fdiv (2 ^ 4))) 0 0)) ⟨rfl,rfl⟩ rfl rfl ?_)
   conv=>whnf
   repeat(first|(refine brF rfl ?_;conv=>whnf)|(refine brT rfl ?_;conv=>whnf))
   unfold rplM
   rw[e]
   repeat'(first|exact ⟨⟩|exact rfl|exact .inr rfl|exact .inl rfl|exact fun _ _=>rfl|exact noI|apply And.intro)
  ·have e:rplO r code cookie=some ⟨[0],41,4096,ttlF (IntKind.u8.wrap (code.fdiv (2 ^ 4))) 0 0,optB (r.client++cookie)⟩:=by unfold rplO;rw[h3,hr];rfl
   have hlen:=qk6 hr
   refine oD (qx1 _ _ _ _ _ r.client cookie hr) rfl rfl ?_
   conv=>whnf
   repeat(first|(refine brF rfl ?_;conv=>whnf)|(refine brT rfl ?_;conv=>whnf))
   refine .one (.frz (.tup [.agg (Msg.mk r.m.id (z1 r.m.bits code) r.m.za r.m.asks true [] true [] false [⟨[0],41,4096,ttlF (IntKind.u8.wrap (code.fdiv (2 ^ 4))) 0 0,(optB (r.client++cookie))⟩]).cells,.d (.int .i64 0)]) _ [4] (qr9 r.m.id (z1 r.m.bits code) r.m.za r.m.asks _ h ha (.bool true) (.inr rfl) 4096 (IntKind.u8.wrap (code.fdiv (2 ^ 4))) 0 0 _ (optB (r.client++cookie)) (qz2 4096 (IntKind.u8.wrap (code.fdiv (2 ^ 4))) 0 0 (r.client++cookie) (by rw[List.length_append];omega))) ⟨rfl,rfl⟩ rfl rfl ?_)
   conv=>whnf
   repeat(first|(refine brF rfl ?_;conv=>whnf)|(refine brT rfl ?_;conv=>whnf))
   unfold rplM
   rw[e]
   repeat'(first|exact ⟨⟩|exact rfl|exact .inr rfl|exact .inl rfl|exact fun _ _=>rfl|exact noI|apply And.intro)
 conv=>whnf
 refine⟨fun h3=>?_,fun h3=>?_⟩
 ·have h3:r.e.there=false:=by simpa using h3
  have e:rplO r code cookie=none:=by unfold rplO;rw[h3];rfl
  unfold rplM
  rw[e]
  conv=>whnf
  repeat'(first|exact ⟨⟩|exact rfl|exact .inr rfl|exact .inl rfl|exact fun _ _=>rfl|exact noI|apply And.intro)
 have h3:r.e.there=true:=by simpa using h3
 conv=>whnf
 refine⟨by decide,?_⟩
 conv=>whnf
 cases hr:yq r.client cookie
 ·have e:rplO r code cookie=some ⟨[0],41,4096,ttlF (IntKind.u8.wrap (code.fdiv (2 ^ 4))) 0 0,[]⟩:=by unfold rplO;rw[h3,hr];rfl
  refine oD (with_no _ _ _ _ _ r.client cookie hr) rfl rfl ?_
  conv=>whnf
  repeat(first|(refine brF rfl ?_;conv=>whnf)|(refine brT rfl ?_;conv=>whnf))
  refine oD (put_gen r.m.id (z1 r.m.bits code) r.m.za r.m.asks true [] h ha (fun _=>rfl) (by decide) .tt (.inl rfl) 4096 (IntKind.u8.wrap (code.fdiv (2 ^ 4))) 0 0 _ [] (qw6 4096 (IntKind.u8.wrap (code.fdiv (2 ^ 4))) 0 0)) rfl rfl ?_
  conv=>whnf
  repeat(first|(refine brF rfl ?_;conv=>whnf)|(refine brT rfl ?_;conv=>whnf))
  unfold rplM
  rw[e]
  repeat'(first|exact ⟨⟩|exact rfl|exact .inr rfl|exact .inl rfl|exact fun _ _=>rfl|exact noI|apply And.intro)
 ·have e:rplO r code cookie=some ⟨[0],41,4096,ttlF (IntKind.u8.wrap (code.fdiv (2 ^ 4))) 0 0,optB (r.client++cookie)⟩:=by unfold rplO;rw[h3,hr];rfl
  have hlen:=qk6 hr
  refine oD (qx1 _ _ _ _ _ r.client cookie hr) rfl rfl ?_
  conv=>whnf
  repeat(first|(refine brF rfl ?_;conv=>whnf)|(refine brT rfl ?_;conv=>whnf))
  refine oD (put_gen r.m.id (z1 r.m.bits code) r.m.za r.m.asks true [] h ha (fun _=>rfl) (by decide) (.bool true) (.inr rfl) 4096 (IntKind.u8.wrap (code.fdiv (2 ^ 4))) 0 0 _ (optB (r.client++cookie)) (qz2 4096 (IntKind.u8.wrap (code.fdiv (2 ^ 4))) 0 0 (r.client++cookie) (by rw[List.length_append];omega))) rfl rfl ?_
  conv=>whnf
  repeat(first|(refine brF rfl ?_;conv=>whnf)|(refine brT rfl ?_;conv=>whnf))
  unfold rplM
  rw[e]
  repeat'(first|exact ⟨⟩|exact rfl|exact .inr rfl|exact .inl rfl|exact fun _ _=>rfl|exact noI|apply And.intro)
def smG(r:Rq)(g:Gt):Msg:=⟨r.m.id,Go.bits BinOp.or IntKind.u16 (z1 r.m.bits (xx g)) (if g.kind=3 then 512 else 0),r.m.za,r.m.asks,true,[],true,[],(rplO r (xx g) g.cookie).isNone,(rplO r (xx g) g.cookie).toList⟩
theorem small_ok'(r:Rq)(h:r.m.za=true->r.m.asks=[])(ha:r.m.asks.length<=1000000)(g:Gt)(hok:(smG r g).Ok)(hg:g.kind=1\/g.kind=2\/g.kind=3):FnOk Tryz.prog 24 [.agg r.cells,.agg g.cells] (.tup [.d (.str ((smG r g).fit 512).1),.d (.int .i64 ((smG r g).fit 512).2)]):=by
 refine qn (TT:=TT) (IN:=qd []) qf qe mixed 1000 Tryz.func24 rfl (qc Tryz.func24 (by kernel_rfl) rfl) rfl 32 (by kernel_rfl) ?_
 have hf:=fit_ok (smG r g) hok 512 (by decide) (by show(rplO r (xx g) g.cookie).toList.length<=1000000;cases rplO r (xx g) g.cookie <;> simp)
 obtain⟨kind,code,cookie⟩:=g
 rcases hg with e|e|e
 ·have e:kind=1:=e
  subst e
  have hb:=qw3 r h ha code cookie
  conv=>whnf
  repeat(first|(refine brF rfl ?_;conv=>whnf)|(refine brT rfl ?_;conv=>whnf))
  refine oD hb rfl rfl ?_
  conv=>whnf
  refine oD hf rfl rfl ?_
  conv=>whnf
  try exact⟨rfl,rfl,True.intro⟩
 ·have e:kind=2:=e
  subst e
  have hb:=qw3 r h ha 23 cookie
  conv=>whnf
  repeat(first|(refine brF rfl ?_;conv=>whnf)|(refine brT rfl ?_;conv=>whnf))
  refine oD hb rfl rfl ?_
  conv=>whnf
  refine oD hf rfl rfl ?_
  conv=>whnf
  try exact⟨rfl,rfl,True.intro⟩
 ·have e:kind=3:=e
  subst e
  have hb:=qw3 r h ha 0 cookie
  conv=>whnf
  repeat(first|(refine brF rfl ?_;conv=>whnf)|(refine brT rfl ?_;conv=>whnf))
  refine oD hb rfl rfl ?_
  conv=>whnf
  refine oD hf rfl rfl ?_
  conv=>whnf
  try exact⟨rfl,rfl,True.intro⟩
theorem or32_in(a b:Int):0<=Go.bits BinOp.or IntKind.u32 a b/\Go.bits BinOp.or IntKind.u32 a b<=4294967295:=by
 unfold Go.bits
 generalize BitVec.ofInt IntKind.u32.bits a=x
 show 0<=IntKind.u32.wrap _/\IntKind.u32.wrap _<=4294967295
 rw[IntKind.wrap_u32]
 omega
structure One1(r:Rq)(q:Q):Prop where
 asks:r.m.asks=[q]
 za:r.m.za=true->r.m.asks=[]
 nm:qh q.nm
 qk:q.Ok
 id:0<=r.m.id/\r.m.id<=65535
theorem rplO_sm{r:Rq}{code:Int}{cookie:List UInt8}(hk:cookie.length<=16):∀ x,rplO r code cookie=some x->SmR x:=fun x hx=>by
 unfold rplO at hx
 split at hx
 ·cases hx
  refine⟨rfl,rfl,⟨(show(0:Int)<=41/\(41:Int)<=65535 by decide),(show(0:Int)<=4096/\(4096:Int)<=65535 by decide),or32_in _ _⟩,?_⟩
  show(if yq r.client cookie then optB (r.client++cookie) else []).length<=28
  split
  ·rename_i h
   have:=(qk6 h).1
   have hbl:(be 2 ((r.client++cookie).length:Int)).length=2:=rfl
   unfold optB
   rw[List.length_append,List.length_append,hbl,List.length_append,this]
   show 2+2+(8+cookie.length)<=28
   omega
  ·exact Nat.zero_le _
 ·cases hx
theorem smG_ok(r:Rq)(q:Q)(h1:One1 r q)(g:Gt)(hk:g.cookie.length<=16):(smG r g).Ok:=by
 have hsm:=rplO_sm (r:=r) (code:=xx g) hk
 have e:smG r g=smM r.m.id (Go.bits BinOp.or IntKind.u16 (z1 r.m.bits (xx g)) (if g.kind=3 then 512 else 0)) r.m.za q (rplO r (xx g) g.cookie):=by
  unfold smG smM
  rw[h1.asks]
 rw[e]
 exact⟨h1.id,bor_le _ _,fun x hx=>(by rw[List.mem_singleton.1 hx];exact h1.qk),fun x hx=>(by cases hx),fun x hx=>(by cases hx),fun x hx=>(hsm x (by simpa[smM] using hx)).ok,by show 1<_;decide⟩
theorem qv3(r:Rq)(q:Q)(h1:One1 r q)(g:Gt)(hg:g.kind=1\/g.kind=2\/g.kind=3)(hk:g.cookie.length<=16) :
 ∃ b,FnOk Tryz.prog 24 [.agg r.cells,.agg g.cells] (.tup [.d (.str b),.d (.int .i64 0)])/\(b.length<=55+q.nm.length/\b.length<=512)/\Msg.read b=(Msg.of r.m.id (Go.bits BinOp.or IntKind.u16 (z1 r.m.bits (xx g)) (if g.kind=3 then 512 else 0)) [q] [] [] (rplO r (xx g) g.cookie).toList,0):=by
 have hsm:=rplO_sm (r:=r) (code:=xx g) hk
 have e:smG r g=smM r.m.id (Go.bits BinOp.or IntKind.u16 (z1 r.m.bits (xx g)) (if g.kind=3 then 512 else 0)) r.m.za q (rplO r (xx g) g.cookie):=by
  unfold smG smM
  rw[h1.asks]
 have hok:=smG_ok r q h1 g hk
 obtain⟨b,hb,_,hl,hrd⟩:=sm_law r.m.id (Go.bits BinOp.or IntKind.u16 (z1 r.m.bits (xx g)) (if g.kind=3 then 512 else 0)) h1.id (bor_le _ _) r.m.za q h1.qk h1.nm (rplO r (xx g) g.cookie) hsm
 have hs:=small_ok' r h1.za (by rw[h1.asks];show 1<=_;decide) g hok hg
 rw [e,hb] at hs
 exact⟨b,hs,hl,hrd⟩
theorem lookM_m(m:Msg):(lookM m).m=m:=by
 unfold lookM
 split
 ·rfl
 ·split <;> rfl
theorem look_msg(s:List UInt8):(look s).m.asks=[]\/((look s).m=(Msg.read s).1/\Right (Msg.read s).1):=by
 unfold look
 split
 ·exact .inl rfl
 split
 ·exact .inl rfl
 ·rename_i h2
  rcases jg3 s with⟨e1,_⟩|⟨_,hm⟩
  ·exact absurd e1 h2
  ·exact .inr ⟨lookM_m _,hm⟩
theorem look_one(s:List UInt8)(h:(look s).m.asks.length=1):∃ q,One1 (look s) q:=by
 rcases look_msg s with e|⟨e,hm⟩
 ·rw [e] at h;cases h
 ·obtain⟨q,hq⟩:=List.length_eq_one_iff.1 h
  have hq':(Msg.read s).1.asks=[q]:=by rw[<-e];exact hq
  have hmem:q ∈ (Msg.read s).1.asks:=by rw[hq'];exact List.mem_singleton.2 rfl
  refine⟨q,hq,?_,?_,?_,?_⟩
  ·rw[e];exact hm.fld.za
  ·have:=hm.check
   simp only [Msg.check,Bool.and_eq_true,decide_eq_true_eq,List.all_eq_true] at this
   exact this.1.1.1.2 q hmem
  ·exact hm.fld.asks q hmem
  ·rw[e];exact hm.fld.id
theorem bsml_ok(s cookie:List UInt8)(code:Int)(hs:s.length<=9223372036854775807):FnOk Tryz.prog 6 [.d (.str s),.d (.str cookie),.d (.int .i64 code)] (.d (.bool true)):=by
 have hl:=look_one s
 have hv:=vlook_ok s hs
 generalize look s=r at hl hv
 refine qn (TT:=TT) (IN:=qd []) qf qe mixed 1000 Tryz.func6 rfl (qc Tryz.func6 (by kernel_rfl) rfl) rfl 85 (by kernel_rfl) ?_
 conv=>whnf
 refine oD lives37_ok rfl rfl ?_
 conv=>whnf
 refine brF rfl ?_
 conv=>whnf
 refine oD hv rfl rfl ?_
 conv=>whnf
 refine⟨fun h1=>?_,fun h1=>?_⟩
 ·conv=>whnf
  repeat(first|(refine brT rfl ?_;conv=>whnf)|(refine brF rfl ?_;conv=>whnf))
 conv=>whnf
 refine⟨fun h2=>?_,fun h2=>?_⟩
 ·conv=>whnf
  repeat(first|(refine brT rfl ?_;conv=>whnf)|(refine brF rfl ?_;conv=>whnf))
 have h2:r.m.asks.length=1:=by
  have h:((r.m.asks.length:Int) == 1)=true:=by simpa using h2
  have h:(r.m.asks.length:Int)=1:=by simpa using h
  omega
 obtain⟨q,hq⟩:=hl h2
 conv=>whnf
 refine⟨fun h3=>?_,fun h3=>?_⟩
 ·conv=>whnf
  repeat(first|(refine brT rfl ?_;conv=>whnf)|(refine brF rfl ?_;conv=>whnf))
 conv=>whnf
 refine⟨fun h4=>?_,fun h4=>?_⟩
 ·conv=>whnf
  repeat(first|(refine brT rfl ?_;conv=>whnf)|(refine brF rfl ?_;conv=>whnf))
 conv=>whnf
 refine⟨⟨Int.le_refl 0,by omega⟩,?_⟩
 conv=>whnf
 have e:r.m.asks.getD (Int.toNat 0) default=q:=by rw[hq.asks];rfl
 rw[e]
 have hqn:=hq.nm.2.1
 refine oD (bsmall_ok q.nm hq.nm) rfl rfl ?_
 conv=>whnf
 refine brF rfl ?_
 conv=>whnf
 refine⟨fun h5=>?_,fun h5=>?_⟩
 ·conv=>whnf
  refine brF rfl ?_
  conv=>whnf
  exact congrArg DV.bool h5
 have hck:cookie.length<=16:=by
  have h:¬ (cookie.length:Int) > 16:=of_decide_eq_false h5
  omega
 obtain⟨b1,hb1,⟨l1,_⟩,_⟩:=qv3 r q hq ⟨1,code,cookie⟩ (.inl rfl) hck
 obtain⟨b2,hb2,⟨l2,_⟩,_⟩:=qv3 r q hq ⟨2,0,cookie⟩ (.inr (.inl rfl)) hck
 obtain⟨b3,hb3,⟨l3,_⟩,_⟩:=qv3 r q hq ⟨3,0,cookie⟩ (.inr (.inr rfl)) hck
 conv=>whnf
 repeat(first
  |(refine .once ?_;conv=>whnf)
  |(refine brT rfl ?_;conv=>whnf)
  |(refine brF rfl ?_;conv=>whnf)
  |(refine⟨_,rfl,?_⟩;conv=>whnf)
  |(refine⟨by decide,?_⟩;conv=>whnf))
 refine oD hb1 rfl rfl ?_
 conv=>whnf
 repeat(first
  |(refine .once ?_;conv=>whnf)
  |(refine brT rfl ?_;conv=>whnf)
  |(refine brF rfl ?_;conv=>whnf)
  |(refine⟨_,rfl,?_⟩;conv=>whnf)
  |(refine⟨by decide,?_⟩;conv=>whnf))
 refine brF (decide_eq_false (by omega)) ?_
 conv=>whnf
 repeat(first
  |(refine .once ?_;conv=>whnf)
  |(refine brT rfl ?_;conv=>whnf)
  |(refine brF rfl ?_;conv=>whnf)
  |(refine⟨_,rfl,?_⟩;conv=>whnf)
  |(refine⟨by decide,?_⟩;conv=>whnf))
 refine oD hb2 rfl rfl ?_
 conv=>whnf
 repeat(first
  |(refine .once ?_;conv=>whnf)
  |(refine brT rfl ?_;conv=>whnf)
  |(refine brF rfl ?_;conv=>whnf)
  |(refine⟨_,rfl,?_⟩;conv=>whnf)
  |(refine⟨by decide,?_⟩;conv=>whnf))
 refine brF (decide_eq_false (by omega)) ?_
 conv=>whnf
 repeat(first
  |(refine .once ?_;conv=>whnf)
  |(refine brT rfl ?_;conv=>whnf)
  |(refine brF rfl ?_;conv=>whnf)
  |(refine⟨_,rfl,?_⟩;conv=>whnf)
  |(refine⟨by decide,?_⟩;conv=>whnf))
 refine oD hb3 rfl rfl ?_
 conv=>whnf
 repeat(first
  |(refine .once ?_;conv=>whnf)
  |(refine brT rfl ?_;conv=>whnf)
  |(refine brF rfl ?_;conv=>whnf)
  |(refine⟨_,rfl,?_⟩;conv=>whnf)
  |(refine⟨by decide,?_⟩;conv=>whnf))
 refine brF (decide_eq_false (by omega)) ?_
 conv=>whnf
 repeat(first
  |(refine .once ?_;conv=>whnf)
  |(refine brT rfl ?_;conv=>whnf)
  |(refine brF rfl ?_;conv=>whnf)
  |(refine⟨_,rfl,?_⟩;conv=>whnf)
  |(refine⟨by decide,?_⟩;conv=>whnf))
end Go.Proofs.YtiiafibkblpbcaaGreat
