/-
  Part of the proof: lemmas about the functions that the row calls, and about the steps of a run. Conditions: those ahead of each lemma.
-/
import Derived.WalkKit
import Derived.CallsIn
import Derived.RangeFuncIn
import Derived.Lib.Strings
import Derived.LaidEql
import Derived.Lib.UnsafeStr
set_option linter.unusedVariables false
set_option linter.unusedSimpArgs false
set_option maxRecDepth 100000
set_option maxHeartbeats 64000000
namespace Go.Eng
open Go Go.RowKit
abbrev pn:=@decide_eq_true
abbrev po:=@decide_eq_false
abbrev pp:=@List.getElem?_eq_getElem
abbrev pq:=@List.getElem?_eq_some_iff
abbrev pr:=@Nat.le_refl
abbrev pu:=@of_decide_eq_true
abbrev pv:=@List.mem_cons
abbrev pw:=@of_decide_eq_false
abbrev px:=@Int.toNat_natCast
abbrev py:=@List.length_append
abbrev pz:=@Nat.zero_le
abbrev p6:=@Sem.run_bind
abbrev p7:=@Option.some.inj
abbrev p8:=@Bool.and_eq_true
abbrev p9:=@Result.andThen_ok
abbrev oo:=@Nat.lt_or_ge
abbrev oq:=@List.getElem?_set
abbrev ot:=@List.getElem?_append_left
abbrev ou:=@List.length_cons
abbrev ov:=@List.mem_of_getElem?
abbrev ow:=@Nat.add_mul
abbrev ox:=@Nat.zero_add
abbrev oy:=@Sem.run_pure
abbrev oz:=@Array.getElem?_eq_getElem
abbrev o3:=@List.mem_append
abbrev o4:=@List.getElem?_map
abbrev o5:=@List.getElem?_append_right
abbrev o6:=@Nat.mul_le_mul_right
abbrev o7:=@List.length_drop
abbrev o8:=@Option.map_some
abbrev o9:=@List.mem_iff_getElem
abbrev mn:=@List.length_map
abbrev mp:=@List.take_add_one
abbrev mq:=@beq_eq_false_iff_ne
abbrev mr:=@List.take_length
abbrev mu:=@List.getElem?_take
abbrev mv:=@Nat.one_mul
abbrev mw:=@beq_iff_eq
abbrev my:=@Option.some.injEq
abbrev mz:=@List.mem_cons_self
abbrev m5:=@List.cons.inj
abbrev m6:=@List.append_nil
abbrev m7:=@Array.getElem?_eq_some_iff
abbrev m8:=@List.mem_cons_of_mem
abbrev m9:=@List.append_assoc
abbrev lq:=@List.getElem?_drop
abbrev lr:=@List.mem_range
abbrev lu:=@List.length_take
abbrev lv:=@List.mem_singleton
abbrev lw:=@Prod.mk.inj
abbrev lx:=@decide_eq_true_eq
abbrev ly:=@Bool.eq_iff_iff
abbrev lz:=@List.mem_map
abbrev l5:=@Nat.lt_succ_self
abbrev l6:=@List.drop_eq_getElem_cons
abbrev l7:=@Bool.true_and
abbrev l8:=@List.all_eq_true
abbrev l9:=@Nat.le_trans
abbrev gn:=@List.length_set
abbrev gp:=@List.getElem?_eq_none
abbrev gq:=@Nat.sub_self
abbrev gr:=@List.getD_eq_getElem?_getD
abbrev gt:=@List.mem_of_mem_take
abbrev gu:=@Bool.and_false
abbrev gv:=@List.length_nil
abbrev gw:=@List.cons_append
abbrev gx:=@Array.mem_def
abbrev gy:=@Nat.not_lt_zero
abbrev gz:=@List.nil_append
abbrev fq:=@Nat.eq_zero_or_pos
abbrev fw:=@Option.map_eq_some_iff
abbrev fx:=@Bool.false_and
abbrev fy:=@List.pairwise_cons
abbrev f6:=@Array.getElem?_setIfInBounds
abbrev f7:=@Array.getElem?_toList
abbrev f8:=@List.eq_nil_of_length_eq_zero
abbrev f9:=@List.drop_drop
abbrev dn:=@List.take_of_length_le
abbrev dp:=@Option.bind_some
abbrev dq:=@Array.getElem?_modify
abbrev du:=@Nat.add_zero
abbrev dw:=@List.map_append
abbrev dx:=@IntKind.wrap_u8
abbrev dy:=@List.map_map
abbrev dz:=@Option.getD_some
abbrev d5:=@List.getElem_mem
abbrev d6:=@Bool.false_eq_true
abbrev d7:=@List.length_pos_iff
abbrev d8:=@List.filter_append
abbrev d9:=@List.length_filter_le
abbrev cn:=@List.mem_filter
abbrev co:=@List.getElem?_range
abbrev cq:=@Bool.or_eq_true
abbrev ct:=@Nat.lt_trichotomy
abbrev cu:=@List.map_cons
abbrev cw:=@Nat.beq_refl
abbrev cx:=@List.ext_getElem?
abbrev cy:=@List.drop_length
abbrev cz:=@List.take_append_drop
abbrev c6:=@Bool.not_eq_true'
abbrev c7:=@Nat.mul_comm
abbrev c8:=@Nat.succ_mul
abbrev c9:=@Nat.lt_irrefl
abbrev bn:=@List.length_range
abbrev bp:=@Bool.false_ne_true
abbrev bq:=@Nat.eq_of_beq_eq_true
abbrev br:=@Array.getD_eq_getD_getElem?
abbrev bu:=@List.getElem?_cons_zero
abbrev bw:=@List.all_append
abbrev bx:=@Nat.lt_of_lt_of_le
abbrev bz:=@Option.map_none
abbrev b9:=@Bool.or_self
abbrev ao:=@List.range'_succ
abbrev aq:=@List.drop_eq_nil_of_le
abbrev ar:=@List.mem_of_mem_drop
abbrev au:=@Bool.or_eq_false_iff
abbrev aw:=@List.mem_append_left
abbrev ax:=@List.all_eq_false
abbrev ay:=@Nat.min_eq_left
abbrev az:=@List.eq_nil_iff_forall_not_mem
abbrev rn:=@Array.ext_getElem?
abbrev rp:=@Option.bind_none
abbrev rq:=@Nat.mod_eq_of_lt
abbrev rt:=@Bool.false_or
abbrev ru:=@Nat.sub_zero
abbrev rv:=@Array.getElem?_eq_none
abbrev rx:=@Array.range_zero'
abbrev ry:=@List.cons.injEq
abbrev rz:=@Bool.and_eq_false_iff
abbrev r7:=@List.isSuffixOf_iff_suffix
abbrev r8:=@List.reverse_reverse
abbrev r9:=@List.drop_of_length_le
abbrev so:=@List.any_eq_true
abbrev sq:=@Array.getElem?_append_left
abbrev sr:=@Array.getElem?_push_size
abbrev su:=@Array.size_push
abbrev sv:=@Array.map_congr_left
abbrev sw:=@List.toList_toArray
abbrev sx:=@List.length_eq_zero_iff
abbrev sy:=@Option.isSome_none
abbrev s4:=@Array.foldl_toList
abbrev s5:=@Array.toArray_toList
abbrev s6:=@Array.mem_of_getElem?
abbrev s7:=@Array.getElem?_push_lt
abbrev s8:=@List.set_cons_zero
abbrev s9:=@Option.isSome_iff_exists
abbrev tn:=@List.length_singleton
abbrev tq:=@Nat.le_of_ble_eq_true
theorem noI {P:Nat->Prop}:∀i,i<0->P i:=fun _ h=>absurd h (gy _)
inductive DV:Type where
 |int (k:IntKind) (n:Int)
 |bool (b:Bool)
 |tt
 |ff
 |str (s:List UInt8)
 |sl (nil:Bool) (n sz:Nat) (f:Nat->List DV)
structure Loc where
 b:Nat
 n:Nat
 c:Nat
 sz:Nat
 nil:Bool
inductive Z where
 |no|iff|may
deriving DecidableEq
def Z.cut:Z->Z
 | .no=>.no
 |_=>.may
inductive SV:Type where
 |d (x:DV)
 |ptr (i off:Nat)
 |aptr (i off len:Nat) (ix:Int)
 |dptr (cells:List DV) (off:Nat)
 |all (i:Nat)
 |row (i lo n:Nat)
 |cs (i off n c:Nat)
 |rptr (i j off sz:Nat)
 |agg (l:List SV)
 |tup (l:List SV)
 |fn (f:FuncId) (caps:List SV)
 |map (i:Nat)
 |ap (i n off:Nat)
 |np (i n:Nat)
 |yl (i:Nat)
 |ln (n:Nat)
 |err (b:Bool)
 |v (x:Value)
 |any
inductive Col:Type where
 |int (k:IntKind) (f:Nat->Int)
 |bool (f:Nat->Bool)
 |str (f:Nat->List UInt8)
 |sl (sz:Nat) (nil:Nat->Bool) (n:Nat->Nat) (g:Nat->Nat->List DV)
 |np (i:Nat) (f:Nat->Nat)
 |any
def Col.at:Col->Nat->SV
 | .int k f,b=>.d (.int k (f b))
 | .bool f,b=>.d (.bool (f b))
 | .str f,b=>.d (.str (f b))
 | .sl sz nil n g,b=>.d (.sl (nil b) (n b) sz (g b))
 | .np i f,b=>.np i (f b)
 | .any,_=>.any
def upd{α:Type}(f:Nat->α)(i:Nat)(a:α):Nat->α:=fun j=>if j=i then a else f j
theorem q8{α:Type}(f:Nat->α)(i:Nat)(a:α):upd f i a i=a:=by simp[upd]
theorem jk{α:Type}(f:Nat->α){i j:Nat}(a:α)(h:j≠i):upd f i a j=f j:=by simp[upd,h]
inductive EK where
 |int (k:IntKind)
 |bool
 |str
deriving DecidableEq
def fits:EK->Value->Prop
 | .int k,.int k' _=>k=k'
 | .bool,.bool _=>True
 | .str,.string _=>True
 |_,_=>False
def Fits(ks:List EK)(xs:List Value):Prop:=∀ (j:Nat) (k:EK) (x:Value),ks[j]? = some k->xs[j]? = some x->fits k x
inductive RS where
 |ready|busy|done (c:Code)|over
def RSok(r:Loop):RS->Prop
 | .ready=>r.state = .ready/\r.pending=none
 | .busy=>r.state = .busy
 | .done c=>r.state = .done/\r.pending=some c
 | .over=>True
inductive MS where
 |free
 |opn (q:Nat) (s:Int)
 |born (bs:List Nat) (c:Nat)
inductive KB:Type where
 |cells (t:TypeId) (l:List SV)
 |row (e:TypeId) (sz n:Nat) (z:Z) (f:Nat->List DV)
 |rows (e:TypeId) (sz n:Nat) (f:Nat->List SV)
 |mapx (eks:List EK) (ka ea:Bool) (l:List (List DV × List SV)) (st:MS)
 |mapr (eks:List EK) (ka:Bool) (e:TypeId) (sz:Nat) (l:List (List DV × Nat × (Nat->List DV))) (st:MS)
 |iter (i:Nat) (bs:List Nat) (c:Nat) (rem:List Nat) (lst:Nat)
 |arena (t:TypeId) (dom:Nat->Prop) (cols:List Col)
 |obj (φ:World->(Nat->Prop)->Loc->(Nat->Prop)->Prop)
 |loop (ts:List SV) (ps:List Tmp) (asg body:Code) (st:RS)
 |gone
@[reducible] def KB.map (eks:List EK) (ka ea:Bool) (l:List (List DV × List SV)):KB:=.mapx eks ka ea l .free
def strV(s:List UInt8):Value:=.string ⟨s.toArray⟩
inductive Rd (w:World) (M:Nat->Prop):DV->Value->Prop where
 |int (k:IntKind) (n:Int):Rd w M (.int k n) (.int k n)
 |bool (b:Bool):Rd w M (.bool b) (.bool b)
 |tt:Rd w M .tt (.bool true)
 |ff:Rd w M .ff (.bool false)
 |str (s:List UInt8):Rd w M (.str s) (strV s)
 |nil (sz:Nat) (f:Nat->List DV):Rd w M (.sl true 0 sz f) (.slice none 0 0)
 |sl (n sz:Nat) (f:Nat->List DV) (ad:Addr) (cap:Nat) (u:Nat->Nat->Value):n<=cap ->
  (0<n->ad.block<w.heap.size/\¬ M ad.block) ->
  (∀ i,i<n->(f i).length=sz) ->
  (∀ (i j:Nat) (d:DV),i<n->(f i)[j]? = some d->w.cell? (ad.add (i * sz+j))=some (u i j)) ->
  (∀ (i j:Nat) (d:DV),i<n->(f i)[j]? = some d->Rd w M d (u i j))->Rd w M (.sl false n sz f) (.slice (some ad) n cap)
class Dr:Type where
 p:Prop
instance dr0:Dr:=⟨False⟩
structure Step[Dr](M:Nat->Prop)(w w':World):Prop where
 os:w'.os=w.os
 tape:w'.tape=w.tape
 output:w'.output=w.output
 size:w.heap.size<=w'.heap.size
 block:∀ b,b<w.heap.size->¬ M b->w'.heap[b]? = w.heap[b]?
 dr:Dr.p->w.drawn<=w'.drawn
theorem Step.refl[Dr](M:Nat->Prop)(w:World):Step M w w:=⟨rfl,rfl,rfl,pr _,fun _ _ _=>rfl,fun _=>pr _⟩
theorem Step.trans[Dr]{M:Nat->Prop}{a b c:World}(h:Step M a b)(k:Step M b c):Step M a c :=
 ⟨k.os.trans h.os,k.tape.trans h.tape,k.output.trans h.output,l9 h.size k.size,
  fun x hx hm=>(k.block x (bx hx h.size) hm).trans (h.block x hx hm),fun e=>l9 (h.dr e) (k.dr e)⟩
theorem Step.mono[Dr]{M M':Nat->Prop}{a b:World}(h:Step M a b)(hm:∀ x,x<a.heap.size->M x->M' x):Step M' a b :=
 ⟨h.os,h.tape,h.output,h.size,fun x hx hn=>h.block x hx (fun e=>hn (hm x hx e)),h.dr⟩
theorem Step.of_below[Dr]{w w':World}(M:Nat->Prop)(h:Below w.heap.size w w')(hd:Dr.p->w.drawn<=w'.drawn:=by exact fun h=>(show False from h).elim):Step M w w' :=
 ⟨h.os,h.tape,h.output,h.size,fun b hb _=>h.block b hb,hd⟩
theorem Step.cell[Dr]{M:Nat->Prop}{w w':World}(h:Step M w w'){p:Addr}(hp:p.block<w.heap.size)(hm:¬ M p.block):w'.cell? p=w.cell? p :=
 World.cell?_of_block (w:=w) (h.block p.block hp hm)
theorem Step.drew[Dr](M:Nat->Prop)(w:World):Step M w w.drew:=⟨rfl,rfl,rfl,pr _,fun _ _ _=>rfl,fun _=>Nat.le_succ _⟩
theorem Step.alloc[Dr](M:Nat->Prop)(w:World)(o:Obj):Step M w (w.alloc o) :=
 ⟨rfl,rfl,rfl,by simp,fun b hb _=>Below.heap_alloc w o b hb,fun _=>pr _⟩
structure Keep(M:Nat->Prop)(w w':World):Prop where
 size:w.heap.size<=w'.heap.size
 cell:∀ (p:Addr) (u:Value),¬ M p.block->w.cell? p=some u->w'.cell? p=some u
theorem Step.keep[Dr]{M:Nat->Prop}{w w':World}(h:Step M w w'):Keep M w w':=⟨h.size,fun p u hm hp=>by
 have hlt:p.block<w.heap.size:=by
  rcases oo p.block w.heap.size with e|e
  ·exact e
  ·simp [World.cell?,rv e] at hp
 rw[h.cell hlt hm];exact hp⟩
theorem qr8(a:Addr)(n:Nat):(a.add n).block=a.block:=by unfold Addr.add;split <;> rfl
theorem add_add(a:Addr)(i j:Nat):(a.add i).add j=a.add (i+j):=by
 unfold Addr.add;by_cases hi:i=0 <;> by_cases hj:j=0 <;> simp[hi,hj,Nat.add_assoc]
theorem Rd.keep[Dr]{w w':World}{M M':Nat->Prop}{x:DV}{v:Value}(h:Rd w M x v)(hs:Keep M w w')(hM:∀ b,b<w.heap.size->M' b->M b):Rd w' M' x v:=by
 induction h with
 |int k n=>exact .int k n
 |bool b=>exact .bool b
 |tt=>exact .tt
 |ff=>exact .ff
 |str s=>exact .str s
 |nil sz f=>exact .nil sz f
 |sl n sz f ad cap u h1 h3 h4 h5 _ ih =>
  refine .sl n sz f ad cap u h1 (fun hn=>?_) h4 (fun i j d hi hd=>?_) ih
  ·obtain⟨a,b⟩:=h3 hn;exact⟨bx a hs.size,fun e=>b (hM _ a e)⟩
  ·obtain⟨a,b⟩:=h3 (by omega);exact hs.cell _ _ (by rw[qr8];exact b) (h5 i j d hi hd)
theorem Rd.mono[Dr]{w w':World}{M M':Nat->Prop}{x:DV}{v:Value}(h:Rd w M x v)(hs:Step M w w')(hM:∀ b,b<w.heap.size->M' b->M b):Rd w' M' x v:=h.keep hs.keep hM
theorem Rd.congr{w:World}{M:Nat->Prop}{b:Bool}{n sz:Nat}{f g:Nat->List DV}{v:Value}(h:Rd w M (.sl b n sz f) v)(hf:∀ i,i<n->f i=g i):Rd w M (.sl b n sz g) v:=by
 cases h with
 |nil=>exact .nil sz g
 |sl _ _ _ ad cap u h1 h3 h4 h5 h6 =>
  refine .sl n sz g ad cap u h1 h3 (fun i hi=>hf i hi ▸ h4 i hi) (fun i j d hi hd=>h5 i j d hi (by rw[hf i hi];exact hd)) (fun i j d hi hd=>h6 i j d hi (by rw[hf i hi];exact hd))
theorem Rd.width{w:World}{M:Nat->Prop}{b:Bool}{sz sz':Nat}{f g:Nat->List DV}{v:Value}(h:Rd w M (.sl b 0 sz f) v):Rd w M (.sl b 0 sz' g) v:=by
 cases h with
 |nil=>exact .nil sz' g
 |sl _ _ _ ad cap u h1 h3 h4 h5 h6 =>
  exact .sl 0 sz' g ad cap u h1 h3 (fun i hi=>absurd hi (by omega)) (fun i j d hi=>absurd hi (by omega)) (fun i j d hi=>absurd hi (by omega))
abbrev Env:=Nat->Option Loc
def noE:Env:=fun _=>none
def Ext(β β':Env):Prop:=∀ i L,β i=some L->β' i=some L
theorem Ext.refl(β:Env):Ext β β:=fun _ _ h=>h
theorem Ext.trans{a b c:Env}(h:Ext a b)(k:Ext b c):Ext a c:=fun i L e=>k i L (h i L e)
inductive Den (w:World) (M:Nat->Prop) (β:Env):SV->Value->Prop where
 |d {x:DV} {v:Value}:Rd w M x v->Den w M β (.d x) v
 |ptr (i off:Nat) (L:Loc):β i=some L->Den w M β (.ptr i off) (.pointer (some ⟨L.b,off,none⟩))
 |aptr (i off len:Nat) (ix:Int) (L:Loc):0<=ix->ix<len->β i=some L->Den w M β (.aptr i off len ix) (.pointer (some ⟨L.b,off+ix.toNat,none⟩))
 |dptr (cells:List DV) (off:Nat) (ad:Addr) (u:Nat->Value):ad.block<w.heap.size->¬ M ad.block->(∀ (j:Nat) (d:DV),cells[j]? = some d->w.cell? (ad.add j)=some (u j)) ->
  (∀ (j:Nat) (d:DV),cells[j]? = some d->Rd w M d (u j))->Den w M β (.dptr cells off) (.pointer (some (ad.add off)))
 |allNil (i:Nat) (L:Loc):β i=some L->L.nil=true->Den w M β (.all i) (.slice none 0 0)
 |all (i:Nat) (L:Loc):β i=some L->L.nil=false->Den w M β (.all i) (.slice (some ⟨L.b,0,none⟩) L.n L.c)
 |rowNil (i:Nat) (L:Loc):β i=some L->L.nil=true->Den w M β (.row i 0 0) (.slice none 0 0)
 |row (i lo n off:Nat) (L:Loc):β i=some L->L.nil=false->lo+n<=L.c->(lo<L.c\/lo=0->off=lo * L.sz)->Den w M β (.row i lo n) (.slice (some ⟨L.b,off,none⟩) n (L.c - lo))
 |cs (i off n c:Nat) (L:Loc):β i=some L->n<=c->Den w M β (.cs i off n c) (.slice (some ⟨L.b,off,none⟩) n c)
 |rptr (i j off sz:Nat) (L:Loc):β i=some L->j<L.n->Den w M β (.rptr i j off sz) (.pointer (some ⟨L.b,j * sz+off,none⟩))
 |agg (l:List SV) (vs:List Value):l.length=vs.length->(∀ (j:Nat) (s:SV) (u:Value),l[j]? = some s->vs[j]? = some u->Den w M β s u)->(∀ u ∈ vs,u.oneCell'=true)->Den w M β (.agg l) (.agg vs.toArray)
 |tup (l:List SV) (vs:List Value):l.length=vs.length->(∀ (j:Nat) (s:SV) (u:Value),l[j]? = some s->vs[j]? = some u->Den w M β s u)->Den w M β (.tup l) (.tuple vs.toArray)
 |fn (f:FuncId) (caps:List SV) (vs:List Value):caps.length=vs.length->(∀ (j:Nat) (s:SV) (u:Value),caps[j]? = some s->vs[j]? = some u->Den w M β s u)->Den w M β (.fn f caps) (.func (.func f) #[] vs.toArray)
 |map (i:Nat) (L:Loc):β i=some L->Den w M β (.map i) (.map (some L.b))
 |ap (i n off:Nat) (L:Loc):β i=some L->Den w M β (.ap i (n+1) off) (.pointer (some ⟨n,off,none⟩))
 |npNil (i:Nat):Den w M β (.np i 0) (.pointer none)
 |np (i n:Nat) (L:Loc):β i=some L->Den w M β (.np i (n+1)) (.pointer (some ⟨n,0,none⟩))
 |yl (i:Nat) (L:Loc):β i=some L->Den w M β (.yl i) (.func (.yield L.b) #[] #[])
 |ln (n c:Nat) (ad:Option Addr):Den w M β (.ln n) (.slice ad n c)
 |err (b:Bool) (v:Value):(b=true->∃ t x,v = .iface t x)->(b=false->v = .nilIface)->Den w M β (.err b) v
 |v (x:Value):Den w M β (.v x) x
 |any (x:Value):Den w M β .any x
theorem Den.keep[Dr]{w w':World}{M M':Nat->Prop}{β β':Env}{s:SV}{v:Value}(h:Den w M β s v)(hs:Keep M w w')(hM:∀ b,b<w.heap.size->M' b->M b)(hb:Ext β β'):Den w' M' β' s v:=by
 induction h with
 |d h=>exact .d (h.keep hs hM)
 |ptr i off L h=>exact .ptr i off L (hb _ _ h)
 |aptr i off len ix L h1 h2 h3=>exact .aptr i off len ix L h1 h2 (hb _ _ h3)
 |dptr cells off ad u h1 h2 h3 h4 =>
  exact .dptr cells off ad u (bx h1 hs.size) (fun e=>h2 (hM _ h1 e)) (fun j d hd=>hs.cell _ _ (by rw[qr8];exact h2) (h3 j d hd)) (fun j d hd=>(h4 j d hd).keep hs hM)
 |allNil i L h1 h2=>exact .allNil i L (hb _ _ h1) h2
 |all i L h1 h2=>exact .all i L (hb _ _ h1) h2
 |rowNil i L h1 h2=>exact .rowNil i L (hb _ _ h1) h2
 |row i lo n off L h1 h2 h3 h4=>exact .row i lo n off L (hb _ _ h1) h2 h3 h4
 |cs i off n c L h h1=>exact .cs i off n c L (hb _ _ h) h1
 |rptr i j off sz L h h1=>exact .rptr i j off sz L (hb _ _ h) h1
 |agg l vs h1 _ h3 ih=>exact .agg l vs h1 (fun j s u a b=>ih j s u a b) h3
 |tup l vs h1 _ ih=>exact .tup l vs h1 (fun j s u a b=>ih j s u a b)
 |fn f caps vs h1 _ ih=>exact .fn f caps vs h1 (fun j s u a b=>ih j s u a b)
 |map i L h=>exact .map i L (hb _ _ h)
 |ap i n off L h=>exact .ap i n off L (hb _ _ h)
 |npNil i=>exact .npNil i
 |np i n L h=>exact .np i n L (hb _ _ h)
 |yl i L h=>exact .yl i L (hb _ _ h)
 |ln n c ad=>exact .ln n c ad
 |err b v h1 h2=>exact .err b v h1 h2
 |v x=>exact .v x
 |any x=>exact .any x
theorem Den.mono[Dr]{w w':World}{M M':Nat->Prop}{β β':Env}{s:SV}{v:Value}(h:Den w M β s v)(hs:Step M w w')(hM:∀ b,b<w.heap.size->M' b->M b)(hb:Ext β β'):Den w' M' β' s v:=h.keep hs.keep hM hb
def qr(agg:Bool)(cs:List Value):Value:=if agg then .agg cs.toArray else cs.headD undef
def js9(φ:World->(Nat->Prop)->Loc->(Nat->Prop)->Prop):Prop:=∀ w w' M M' L fp,φ w M L fp->Keep M w w'->(∀ b,fp b->w'.heap[b]? = w.heap[b]?)->(∀ b,b<w.heap.size->M' b->M b)->φ w' M' L fp
structure EntAt(w:World)(M:Nat->Prop)(β:Env)(eks:List EK)(ka ea:Bool)(p:List DV × List SV)(e:MapEntry):Prop where
 ex:∃ kc vc:List Value,e.key=qr ka kc/\e.val=qr ea vc/\p.1.length=kc.length/\p.2.length=vc.length/\kc.length=eks.length/\(ka=false->kc.length=1)/\(ea=false->vc.length=1)/\Fits eks kc /\
  (∀ (q:Nat) (d:DV) (u:Value),p.1[q]? = some d->kc[q]? = some u->Rd w M d u)/\(∀ (q:Nat) (s:SV) (u:Value),p.2[q]? = some s->vc[q]? = some u->Den w M β s u)/\(∀ u ∈ vc,u.oneCell'=true)
theorem EntAt.keep[Dr]{w w':World}{M M':Nat->Prop}{β β':Env}{eks:List EK}{ka ea:Bool}{p:List DV × List SV}{e:MapEntry}(h:EntAt w M β eks ka ea p e)(hs:Keep M w w')(hM:∀ b,b<w.heap.size->M' b->M b)(hb:Ext β β'):EntAt w' M' β' eks ka ea p e:=by
 obtain⟨kc,vc,a1,a2,a3,a4,a5,a6,a7,a8,a9,a10,a11⟩:=h.ex;exact⟨kc,vc,a1,a2,a3,a4,a5,a6,a7,a8,fun q d u hd hu=>(a9 q d u hd hu).keep hs hM,fun q s u hd hu=>(a10 q s u hd hu).keep hs hM hb,a11⟩
structure Born(es:Array MapEntry)(clock:Nat):Prop where
 un:∀ (i j:Nat) (e e':MapEntry),es[i]? = some e->es[j]? = some e'->e.born=e'.born->i=j
 lt:∀ (i:Nat) (e:MapEntry),es[i]? = some e->e.born<clock
def StOk(es:Array MapEntry)(clock:Nat):MS->Prop
 | .free=>True
 | .opn q s=>∃ e,es[q]? = some e/\(e.born:Int)=s
 | .born bs c=>es.toList.map (·.born)=bs/\clock=c
def Mine(n:Nat):MS->Nat->Prop
 | .opn q _,j=>j<n/\j≠q
 |_,j=>j<n
structure KeyAt(w:World)(M:Nat->Prop)(eks:List EK)(ka:Bool)(ds:List DV)(key:Value):Prop where
 ex:∃ kc:List Value,key=qr ka kc/\ds.length=kc.length/\kc.length=eks.length/\(ka=false->kc.length=1)/\Fits eks kc/\(∀ (q:Nat) (d:DV) (u:Value),ds[q]? = some d->kc[q]? = some u->Rd w M d u)
theorem KeyAt.keep[Dr]{w w':World}{M M':Nat->Prop}{eks:List EK}{ka:Bool}{ds:List DV}{key:Value}(h:KeyAt w M eks ka ds key)(hs:Keep M w w')(hM:∀ b,b<w.heap.size->M' b->M b):KeyAt w' M' eks ka ds key:=by
 obtain⟨kc,a1,a2,a3,a4,a5,a6⟩:=h.ex;exact⟨kc,a1,a2,a3,a4,a5,fun q d u hd hu=>(a6 q d u hd hu).keep hs hM⟩
structure RowAt(w:World)(M:Nat->Prop)(e:TypeId)(sz n:Nat)(f:Nat->List DV)(b c:Nat):Prop where
 ex:∃ (vs:Array Value) (fz:Nat × Nat),w.heap[b]? = some (.cells vs e fz)/\(∀ o,o<vs.size->¬ (fz.1<=o/\o<fz.2))/\vs.size=c * sz/\n<=c /\
  (∀ k,k<n->(f k).length=sz)/\(∀ (k j:Nat) (d:DV) (u:Value),k<n->(f k)[j]? = some d->vs[k * sz+j]? = some u->Rd w M d u)/\(∀ (j:Nat) (u:Value),vs[j]? = some u->u.oneCell'=true)
theorem RowAt.keep[Dr]{w w':World}{M M':Nat->Prop}{e:TypeId}{sz n b c:Nat}{f:Nat->List DV}(h:RowAt w M e sz n f b c)(hs:Keep M w w')(hM:∀ b,b<w.heap.size->M' b->M b)(hb:w'.heap[b]? = w.heap[b]?):RowAt w' M' e sz n f b c:=by
 obtain⟨vs,fz,a1,a2,a3,a4,a5,a6,a7⟩:=h.ex;exact⟨vs,fz,hb.trans a1,a2,a3,a4,a5,fun k j d u x y z=>(a6 k j d u x y z).keep hs hM,a7⟩
inductive KBat (w:World) (M:Nat->Prop) (β:Env) (L:Loc) (fp:Nat->Prop):KB->Prop where
 |cells (t:TypeId) (l:List SV) (vs:Array Value):(∀ x,fp x↔x=L.b)->w.heap[L.b]? = some (.cells vs t (0,0))->l.length=vs.size ->
  (∀ (j:Nat) (s:SV) (u:Value),l[j]? = some s->vs[j]? = some u->Den w M β s u)->(∀ (j:Nat) (u:Value),vs[j]? = some u->u.oneCell'=true)->KBat w M β L fp (.cells t l)
 |rowNil (e:TypeId) (sz:Nat) (z:Z) (f:Nat->List DV):(∀ x,¬ fp x)->L.nil=true->L.c=0->L.n=0->z≠.no->KBat w M β L fp (.row e sz 0 z f)
 |row (e:TypeId) (sz n:Nat) (z:Z) (f:Nat->List DV) (vs:Array Value) (fz:Nat × Nat):(∀ x,fp x↔x=L.b)->L.nil=false->L.sz=sz->L.n=n->(z = .iff->0<n) ->
  w.heap[L.b]? = some (.cells vs e fz)->(∀ o,o<vs.size->¬ (fz.1<=o/\o<fz.2))->vs.size=L.c * sz->n<=L.c ->
  (∀ k,k<n->(f k).length=sz)->(∀ (k j:Nat) (d:DV) (u:Value),k<n->(f k)[j]? = some d->vs[k * sz+j]? = some u->Rd w M d u)->(∀ (j:Nat) (u:Value),vs[j]? = some u->u.oneCell'=true)->KBat w M β L fp (.row e sz n z f)
 |rows (e:TypeId) (sz n:Nat) (f:Nat->List SV) (vs:Array Value) (fz:Nat × Nat):(∀ x,fp x↔x=L.b)->L.nil=false->L.sz=sz->L.n=n ->
  w.heap[L.b]? = some (.cells vs e fz)->(∀ o,o<vs.size->¬ (fz.1<=o/\o<fz.2))->vs.size=L.c * sz->n<=L.c ->
  (∀ k,k<n->(f k).length=sz)->(∀ (k j:Nat) (s:SV) (u:Value),k<n->(f k)[j]? = some s->vs[k * sz+j]? = some u->Den w M β s u)->(∀ (j:Nat) (u:Value),vs[j]? = some u->u.oneCell'=true)->KBat w M β L fp (.rows e sz n f)
 |mapx (eks:List EK) (ka ea:Bool) (l:List (List DV × List SV)) (st:MS) (es:Array MapEntry) (clock:Nat):(∀ x,fp x↔x=L.b)->w.heap[L.b]? = some (.map es clock)->l.length=es.size ->
  (∀ (j:Nat) (p:List DV × List SV) (e:MapEntry),l[j]? = some p->es[j]? = some e->EntAt w M β eks ka ea p e)->Born es clock->StOk es clock st->KBat w M β L fp (.mapx eks ka ea l st)
 |mapr (eks:List EK) (ka:Bool) (e:TypeId) (sz:Nat) (l:List (List DV × Nat × (Nat->List DV))) (st:MS) (es:Array MapEntry) (clock:Nat) (bl cp:Nat->Nat):(∀ x,fp x↔x=L.b\/∃ j,Mine es.size st j/\x=bl j)->w.heap[L.b]? = some (.map es clock)->l.length=es.size ->
  (∀ (j:Nat) (p:List DV × Nat × (Nat->List DV)) (e:MapEntry),l[j]? = some p->es[j]? = some e->KeyAt w M eks ka p.1 e.key) ->
  (∀ (j:Nat) (p:List DV × Nat × (Nat->List DV)) (en:MapEntry),l[j]? = some p->es[j]? = some en->Mine es.size st j->en.val = .slice (some ⟨bl j,0,none⟩) p.2.1 (cp j)/\RowAt w M e sz p.2.1 p.2.2 (bl j) (cp j)) ->
  (∀ i j,Mine es.size st i->Mine es.size st j->bl i=bl j->i=j)->(∀ j,Mine es.size st j->bl j≠L.b)->Born es clock->StOk es clock st->KBat w M β L fp (.mapr eks ka e sz l st)
 |iter (i:Nat) (bs:List Nat) (c:Nat) (rem:List Nat) (lst:Nat) (Li:Loc) (seen:Array Nat):(∀ x,fp x↔x=L.b)->β i=some Li->w.heap[L.b]? = some (.mapIter (some Li.b) c seen c)->rem.Nodup->(∀ j ∈ rem,j<bs.length) ->
  (∀ (j b:Nat),bs[j]? = some b->(seen.contains b=true↔j ∉ rem))->(∀ b,bs[lst]? = some b->seen.back? = some b)->KBat w M β L fp (.iter i bs c rem lst)
 |arena (t:TypeId) (dom:Nat->Prop) (cols:List Col):(∀ x,fp x↔dom (x+1))->¬ dom 0->(∀ x,dom (x+1)->∃ vs:Array Value,w.heap[x]? = some (.cells vs t (0,0))/\vs.size=cols.length /\
  (∀ (j:Nat) (c:Col) (u:Value),cols[j]? = some c->vs[j]? = some u->Den w M β (c.at (x+1)) u)/\(∀ (j:Nat) (u:Value),vs[j]? = some u->u.oneCell'=true))->KBat w M β L fp (.arena t dom cols)
 |obj (φ:World->(Nat->Prop)->Loc->(Nat->Prop)->Prop):js9 φ->φ w M L fp->KBat w M β L fp (.obj φ)
 |loop (ts:List SV) (ps:List Tmp) (asg body:Code) (st:RS) (r:Loop):(∀ x,fp x↔x=L.b)->w.heap[L.b]? = some (.loop r)->ts.length=r.tmps.size ->
  (∀ (j:Nat) (s:SV) (u:Value),ts[j]? = some s->r.tmps[j]? = some u->Den w M β s u)->r.params.toList=ps->r.assign=asg->r.body=body->RSok r st->KBat w M β L fp (.loop ts ps asg body st)
def Mx(X:Nat->Prop)(fp:Nat->Nat->Prop):Nat->Prop:=fun b=>X b\/∃ i,fp i b
theorem KBat.keep[Dr]{w w':World}{M M':Nat->Prop}{β β':Env}{L:Loc}{fp:Nat->Prop}{k:KB}(h:KBat w M β L fp k)(hs:Keep M w w')(hM:∀ b,b<w.heap.size->M' b->M b)(hβ:Ext β β')
 (hb:∀ b,fp b->w'.heap[b]? = w.heap[b]?):KBat w' M' β' L fp k:=by
 cases h with
 |cells t l vs h0 h1 h3 h4 h5=>exact .cells t l vs h0 ((hb _ ((h0 _).2 rfl)).trans h1) h3 (fun j s u a b=>(h4 j s u a b).keep hs hM hβ) h5
 |rowNil e sz z f h0 h1 h2 h3 h4=>exact .rowNil e sz z f h0 h1 h2 h3 h4
 |row e sz n z f vs fz h0 h1 h2 hn h3 h4 h5 h6 h7 h8 h9 h10=>exact .row e sz n z f vs fz h0 h1 h2 hn h3 ((hb _ ((h0 _).2 rfl)).trans h4) h5 h6 h7 h8 (fun k j d u a b c=>(h9 k j d u a b c).keep hs hM) h10
 |rows e sz n f vs fz h0 h1 h2 hn h4 h5 h6 h7 h8 h9 h10=>exact .rows e sz n f vs fz h0 h1 h2 hn ((hb _ ((h0 _).2 rfl)).trans h4) h5 h6 h7 h8 (fun k j s u a b c=>(h9 k j s u a b c).keep hs hM hβ) h10
 |mapx eks ka ea l st es clock h0 h1 h2 h3 h4 h5=>exact .mapx eks ka ea l st es clock h0 ((hb _ ((h0 _).2 rfl)).trans h1) h2 (fun j p e hp he=>(h3 j p e hp he).keep hs hM hβ) h4 h5
 |mapr eks ka e sz l st es clock bl cp h0 h1 h2 h3 h4 h5 h6 h7 h8 =>
  exact .mapr eks ka e sz l st es clock bl cp h0 ((hb _ ((h0 _).2 (.inl rfl))).trans h1) h2 (fun j p e hp he=>(h3 j p e hp he).keep hs hM)
   (fun j p en hp he hm=>⟨(h4 j p en hp he hm).1,(h4 j p en hp he hm).2.keep hs hM (hb _ ((h0 _).2 (.inr ⟨j,hm,rfl⟩)))⟩) h5 h6 h7 h8
 |iter i bs c rem lst Li seen h0 h1 h2 h3 h4 h5 h6=>exact .iter i bs c rem lst Li seen h0 (hβ _ _ h1) ((hb _ ((h0 _).2 rfl)).trans h2) h3 h4 h5 h6
 |arena t dom cols h0 h1 h2 =>
  refine .arena t dom cols h0 h1 (fun x hx=>?_);obtain⟨vs,a1,a2,a3,a4⟩:=h2 x hx;exact⟨vs,(hb _ ((h0 _).2 hx)).trans a1,a2,fun j c u hc hu=>(a3 j c u hc hu).keep hs hM hβ,a4⟩
 |obj φ h1 h2=>exact .obj φ h1 (h1 _ _ _ _ _ _ h2 hs hb hM)
 |loop ts ps asg body st r h0 h1 h2 h3 h4 h5 h6 h7=>exact .loop ts ps asg body st r h0 ((hb _ ((h0 _).2 rfl)).trans h1) h2 (fun j s u a b=>(h3 j s u a b).keep hs hM hβ) h4 h5 h6 h7
theorem KBat.mono[Dr]{w w':World}{M M':Nat->Prop}{β β':Env}{L:Loc}{fp:Nat->Prop}{k:KB}(h:KBat w M β L fp k)(hs:Step M w w')(hM:∀ b,b<w.heap.size->M' b->M b)(hβ:Ext β β')
 (hb:∀ b,fp b->w'.heap[b]? = w.heap[b]?):KBat w' M' β' L fp k:=h.keep hs.keep hM hβ hb
def jt5(vs:Array Value):Prop:=∃ t x,vs = #[.iface t x]
def zb2(k:IntKind)(zs:List Int)(vs:Array Value):Prop:=vs=(zs.map fun z=>Value.int k z).toArray
def evs:List (Nat × (Array Value->Prop)):=[(2,jt5),(3,jt5),(1,zb2 .u64 ((List.range 20).map fun i=>((10 ^ i:Nat):Int)))]
def VOk(w:World)(fp:Nat->Nat->Prop):Prop:=∀ p,p ∈ evs->(∃ vs t fz,w.heap[p.1]? = some (.cells vs t fz)/\p.2 vs)/\∀ i,¬ fp i p.1
theorem VOk.size{w:World}{fp:Nat->Nat->Prop}(h:VOk w fp){p:Nat × (Array Value->Prop)}(hp:p ∈ evs):p.1<w.heap.size:=by
 obtain⟨⟨vs,t,fz,e,_⟩,_⟩:=h p hp;rcases oo p.1 w.heap.size with e1|e1
 ·exact e1
 ·simp [rv e1] at e
theorem VOk.step[Dr]{w w':World}{fp fp':Nat->Nat->Prop}(h:VOk w fp)(hs:Step (fun b=>∃ i,fp i b) w w')(ho:∀ i b,fp' i b->(∃ j,fp j b)\/w.heap.size<=b):VOk w' fp':=fun p hp=>by
 have hlt:=h.size hp;obtain⟨⟨vs,t,fz,e,h1⟩,h2⟩:=h p hp;exact⟨⟨vs,t,fz,(hs.block p.1 hlt (fun⟨i,hi⟩=>h2 i hi)).trans e,h1⟩,fun i hi=>(ho i p.1 hi).elim (fun⟨j,hj⟩=>h2 j hj) (fun e=>by omega)⟩
theorem VOk.sub[Dr]{w:World}{fp fp':Nat->Nat->Prop}(h:VOk w fp)(ho:∀ i b,fp' i b->∃ j,fp j b):VOk w fp':=h.step (Step.refl _ _) (fun i b hi=>.inl (ho i b hi))
theorem VOk.no[Dr]{w:World}{fp:Nat->Nat->Prop}(h:VOk w fp):VOk w (fun _ _=>False):=h.sub (fun _ _ e=>e.elim)
structure Mem0(X:Nat->Prop)(w:World)(β:Env)(fp:Nat->Nat->Prop)(ks:List KB):Prop where
 xa:∀ b,X b->b<w.heap.size
 xb:∀ i b,fp i b->¬ X b
 dis:∀ i j b,fp i b->fp j b->i=j
 kw:∀ i b,fp i b->b<w.heap.size
 kn:∀ i b,fp i b->∃ L,β i=some L
 kb:∀ (i:Nat) (L:Loc) (k:KB),ks[i]? = some k->k≠.gone->β i=some L->KBat w (Mx X fp) β L (fp i) k
structure Mem(X:Nat->Prop)(w:World)(β:Env)(fp:Nat->Nat->Prop)(ks:List KB):Prop extends Mem0 X w β fp ks where
 kl:∀ i,ks.length<=i->β i=none
 ka:∀ i t dom cols,ks[i]? = some (.arena t dom cols)->∃ L,β i=some L
 vo:VOk w fp
structure Went[Dr](X:Nat->Prop)(w:World)(β:Env)(fp:Nat->Nat->Prop)(w':World)(β':Env)(fp':Nat->Nat->Prop)(ks':List KB):Prop where
 mem:Mem X w' β' fp' ks'
 st:Step (fun b=>∃ i,fp i b) w w'
 ext:Ext β β'
 own:∀ i b,fp' i b->(∃ j,fp j b)\/w.heap.size<=b
theorem Went.refl[Dr]{X:Nat->Prop}{w:World}{β:Env}{fp:Nat->Nat->Prop}{ks:List KB}(h:Mem X w β fp ks):Went X w β fp w β fp ks :=
 ⟨h,Step.refl _ _,Ext.refl _,fun i _ hb=>.inl ⟨i,hb⟩⟩
theorem Went.trans[Dr]{X:Nat->Prop}{w w1 w2:World}{β β1 β2:Env}{fp fp1 fp2:Nat->Nat->Prop}{ks1 ks2:List KB}(h:Went X w β fp w1 β1 fp1 ks1)(k:Went X w1 β1 fp1 w2 β2 fp2 ks2):Went X w β fp w2 β2 fp2 ks2 :=
 ⟨k.mem,⟨k.st.os.trans h.st.os,k.st.tape.trans h.st.tape,k.st.output.trans h.st.output,l9 h.st.size k.st.size,fun b hb hm =>
  (k.st.block b (bx hb h.st.size) (fun⟨i,hi⟩=>(h.own i b hi).elim hm (fun e=>by omega))).trans (h.st.block b hb hm),fun e=>l9 (h.st.dr e) (k.st.dr e)⟩,
  h.ext.trans k.ext,fun i b hb=>(k.own i b hb).elim (fun⟨j,hj⟩=>h.own j b hj) (fun e=>.inr (l9 h.st.size e))⟩
theorem Went.den[Dr]{X:Nat->Prop}{w w':World}{β β':Env}{fp fp':Nat->Nat->Prop}{ks':List KB}(h:Went X w β fp w' β' fp' ks'){s:SV}{v:Value}(hd:Den w (Mx X fp) β s v):Den w' (Mx X fp') β' s v :=
 hd.mono (h.st.mono (fun _ _ e=>.inr e)) (fun b hb hm=>hm.imp id (fun⟨i,hi⟩=>(h.own i b hi).elim id (fun e=>by omega))) h.ext
structure Dfs(w0 w:World)(M:Nat->Prop)(ds:List Deferred):Prop where
 marks:∀ d ∈ ds,∃ r,d.target = .collected r/\w0.heap.size<=r/\w.heap[r]? = some (.deferred (some []))/\¬ M r
 un:ds.Pairwise (fun d e=>∀ r r',d.target = .collected r->e.target = .collected r'->r≠r')
theorem Dfs.nil(w0 w:World)(M:Nat->Prop):Dfs w0 w M []:=⟨fun d h=>by simp at h,.nil⟩
theorem Dfs.mono[Dr]{w0 w w':World}{M M':Nat->Prop}{ds:List Deferred}(h:Dfs w0 w M ds)(hs:Step M w w')(hM:∀ b,b<w.heap.size->M' b->M b):Dfs w0 w' M' ds :=
 ⟨fun d hd=>by
  obtain⟨r,h1,h2,h3,h4⟩:=h.marks d hd;have hr:r<w.heap.size:=by
   rcases oo r w.heap.size with e|e
   ·exact e
   ·rw [rv e] at h3;cases h3
  exact⟨r,h1,h2,(hs.block r hr h4).trans h3,fun e=>h4 (hM r hr e)⟩,h.un⟩
structure Bs where
 X:Nat->Prop
 w0:World
 β0:Env
 fp0:Nat->Nat->Prop
structure Sat[Dr](B:Bs)(w:World)(β:Env)(fp:Nat->Nat->Prop)(ts:List SV)(ks:List KB)(a:Act):Prop where
 went:Went B.X B.w0 B.β0 B.fp0 w β fp ks
 df:Dfs B.w0 w (Mx B.X fp) a.defers
 len:a.tmps.size=ts.length
 tm:∀ (t:Nat) (s:SV) (v:Value),ts[t]? = some s->a.tmps[t]? = some v->Den w (Mx B.X fp) β s v
theorem Sat.on[Dr]{B:Bs}{w w':World}{β β':Env}{fp fp':Nat->Nat->Prop}{ts:List SV}{ks ks':List KB}{a:Act}(h:Sat B w β fp ts ks a)(k:Went B.X w β fp w' β' fp' ks'):Sat B w' β' fp' ts ks' a :=
 ⟨h.went.trans k,h.df.mono (k.st.mono (fun _ _ e=>.inr e)) (fun b hb hm=>hm.imp id (fun⟨i,hi⟩=>(k.own i b hi).elim id (fun e=>by omega))),h.len,fun t s v a b=>k.den (h.tm t s v a b)⟩
inductive TD where
 |other|bool|str
 |int (k:IntKind)
 |slice (e:TypeId)
 |array (len:Nat) (e:TypeId)
 |struct (fs:List (Nat × TypeId))
 |ptr (e:TypeId)
 |map (k e:TypeId)
 |iface
structure TI where
 size:Nat
 bytes:Nat
 agg:Bool
 zero:List SV
 desc:TD
 eqk:List EK:=[]
mutual
def closed:SV->Bool
 | .d _=>true
 | .dptr _ _=>true
 | .v _=>true
 | .any=>true
 | .ln _=>true
 | .err _=>true
 | .agg l=>xj l
 | .tup l=>xj l
 | .fn _ l=>xj l
 |_=>false
def xj:List SV->Bool
 |[]=>true
 |a :: l=>closed a && xj l
end
mutual
def scalar:SV->Bool
 | .d (.sl _ _ _ _)=>false
 | .d _=>true
 | .ln _=>true
 | .err _=>true
 | .agg l=>qt7 l
 | .tup l=>qt7 l
 |_=>false
def qt7:List SV->Bool
 |[]=>true
 |a :: l=>scalar a && qt7 l
end
def zr:EK->Value->Value->Bool
 | .int _,.int _ x,.int _ y=>x == y
 | .bool,.bool x,.bool y=>x == y
 | .str,.string x,.string y=>x.toList == y.toList
 |_,_,_=>false
def jl:List EK->List Value->List Value->Bool
 |[],_,_=>true
 |k :: ks,x :: xs,y :: ys=>zr k x y && jl ks xs ys
 |_,_,_=>false
def TDok(P:Program)(d:TypeDesc):TD->Prop
 | .other=>True
 | .bool=>d = .bool
 | .str=>d = .string
 | .int k=>d = .int k
 | .slice e=>d = .slice e
 | .array n e=>d = .array n e
 | .ptr e=>d = .pointer e
 | .map k e=>d = .map k e
 | .iface=>∃ ms,d = .interface ms
 | .struct fs=>∃ fields:Array Field,d = .struct fields/\fields.size=fs.length/\∀ (j:Nat) (off:Nat) (ft:TypeId),fs[j]? = some (off,ft)->∃ (f:Field) (fi:TypeInfo),fields[j]? = some f/\f.offset=off/\f.type=ft/\P.info? ft=some fi/\fi.size≠0
def yt:TypeDesc->Bool
 | .struct _=>true
 | .array _ _=>true
 |_=>false
structure TIok(P:Program)(t:TypeId)(ti:TI):Prop where
 all:∃ (info:TypeInfo) (d:TypeDesc) (z:Value),P.info? t=some info/\P.underlying t=some d/\info.size=ti.size/\info.bytes=ti.bytes/\info.zero=some z/\yt d=ti.agg /\
  z.cells.size=ti.zero.length/\ti.zero.length=ti.size/\(∀ (w:World) (M:Nat->Prop) (β:Env) (j:Nat) (s:SV) (u:Value),ti.zero[j]? = some s->z.cells[j]? = some u->Den w M β s u)/\(∀ (j:Nat) (u:Value),z.cells[j]? = some u->u.oneCell'=true)/\TDok P d ti.desc
 eqk:ti.eqk≠[]->∀ (w:World) (xs ys:List Value),xs.length=ti.eqk.length->ys.length=ti.eqk.length->(∀ (j:Nat) (k:EK) (x:Value),ti.eqk[j]? = some k->xs[j]? = some x->fits k x)->(∀ (j:Nat) (k:EK) (y:Value),ti.eqk[j]? = some k->ys[j]? = some y->fits k y) ->
  (Op.equal t (.agg xs.toArray) (.agg ys.toArray)).run P w = .ok (jl ti.eqk xs ys) w/\P.eqGuardType P.depth t=false
 zag:∀ (info:TypeInfo) (z:Value),P.info? t=some info->info.zero=some z->z=qr ti.agg z.cells.toList
 key:ti.eqk≠[]->ti.agg=true/\∀ (w:World) (b:Bool) (xs:List Value),xs.length=ti.eqk.length->Fits ti.eqk xs->(Instr.checkKey b 10000 t (.agg xs.toArray)).run P w = .ok () w
def TTok(P:Program)(TT:Nat->Option TI):Prop:=∀ t ti,TT t=some ti->TIok P t ti
def FnOk[Dr](P:Program)(f:FuncId)(args:List SV)(res:SV):Prop :=
 (∀ (args:Array Value) (w:World),(callFunc f args).run P w = .ok (.enter f args) w)/\∀ (M:Nat->Prop) (w:World) (vs:List Value),VOk w (fun _ _=>False)->(∀ b,M b->b<w.heap.size)->args.length=vs.length ->
  (∀ (j:Nat) (s:SV) (u:Value),args[j]? = some s->vs[j]? = some u->Den w M noE s u) ->
  Calls P f vs.toArray w fun e w'=>∃ r,e = .returned r/\Step (fun _=>False) w w'/\Den w' M noE res r
def zb9[Dr](P:Program)(f:FuncId)(args:List SV)(res:SV):Prop :=
 (∀ (args:Array Value) (w:World),(callFunc f args).run P w = .ok (.enter f args) w)/\∀ (M M':Nat->Prop) (w:World) (vs:List Value),VOk w (fun _ _=>False)->(∀ b,M b->b<w.heap.size)->(∀ b,M' b->b<w.heap.size)->args.length=vs.length ->
  (∀ (j:Nat) (s:SV) (u:Value),args[j]? = some s->vs[j]? = some u->Den w M noE s u) ->
  Calls P f vs.toArray w fun e w'=>∃ r,e = .returned r/\Step (fun _=>False) w w'/\Den w' M' noE res r
def COk[Dr](P:Program)(f:FuncId)(args:List SV)(ks:List KB)(R:SV->List KB->Prop):Prop :=
 (∀ (args:Array Value) (w:World),(callFunc f args).run P w = .ok (.enter f args) w)/\∀ (X:Nat->Prop) (w:World) (β:Env) (fp:Nat->Nat->Prop) (vs:List Value),Mem X w β fp ks->args.length=vs.length ->
  (∀ (j:Nat) (s:SV) (u:Value),args[j]? = some s->vs[j]? = some u->Den w (Mx X fp) β s u) ->
  Calls P f vs.toArray w fun e w'=>∃ r s ks' β' fp',e = .returned r/\R s ks'/\Went X w β fp w' β' fp' ks'/\Den w' (Mx X fp') β' s r
def getT:List SV->Nat->SV
 |[],_=>.any
 |a :: _,0=>a
 |_ :: l,n+1=>getT l n
def setT:List SV->Nat->SV->List SV
 |[],_,_=>[]
 |_ :: l,0,v=>v :: l
 |a :: l,n+1,v=>a :: setT l n v
def setK:List SV->Nat->SV->(List SV->Prop)->Prop
 |[],_,_,k=>k []
 |_ :: l,0,v,k=>k (v :: l)
 |a :: l,n+1,v,k=>setK l n v (fun l'=>k (a :: l'))
def getB:List KB->Nat->KB
 |[],_=>.gone
 |a :: _,0=>a
 |_ :: l,n+1=>getB l n
def setB:List KB->Nat->KB->List KB
 |[],_,_=>[]
 |_ :: l,0,v=>v :: l
 |a :: l,n+1,v=>a :: setB l n v
theorem vt(l:List SV)(n:Nat)(v:SV)(k:List SV->Prop):setK l n v k=k (setT l n v):=by
 induction l generalizing n k with
 |nil=>rfl
 |cons a l ih=>cases n with
  |zero=>rfl
  |succ n=>simp only[setK,setT,ih]
theorem wn(l:List SV)(n:Nat):getT l n=(l[n]?).getD .any:=by
 induction l generalizing n with
 |nil=>rfl
 |cons a l ih=>cases n with
  |zero=>rfl
  |succ n=>simp[getT,ih]
theorem zo(l:List SV)(n:Nat)(v:SV):setT l n v=l.set n v:=by
 induction l generalizing n with
 |nil=>rfl
 |cons a l ih=>cases n with
  |zero=>rfl
  |succ n=>simp[setT,ih]
theorem wo(l:List KB)(n:Nat):getB l n=(l[n]?).getD .gone:=by
 induction l generalizing n with
 |nil=>rfl
 |cons a l ih=>cases n with
  |zero=>rfl
  |succ n=>simp[getB,ih]
theorem yr(l:List KB)(n:Nat)(v:KB):setB l n v=l.set n v:=by
 induction l generalizing n with
 |nil=>rfl
 |cons a l ih=>cases n with
  |zero=>rfl
  |succ n=>simp[setB,ih]
def nilS:SV:=.d (.sl true 0 0 (fun _=>[]))
def jd5:Value->SV
 | .int k n=>.d (.int k n)
 | .bool true=>.d .tt
 | .bool false=>.d .ff
 | .string s=>.d (.str s.data.toList)
 | .slice none 0 0=>nilS
 |v=>.v v
def jn8(v:Value)(k:SV->Prop):Prop :=
 match v with
 | .int j n=>k (.d (.int j n))
 | .bool true=>k (.d .tt)
 | .bool false=>k (.d .ff)
 | .string s=>k (.d (.str s.data.toList))
 | .slice none 0 0=>k nilS
 |v=>k (.v v)
def ug:List SV->Nat->(SV->Prop)->Prop
 |[],_,k=>k .any
 |a :: _,0,k=>k a
 |_ :: l,n+1,k=>ug l n k
def qp:List KB->Nat->(KB->Prop)->Prop
 |[],_,k=>k .gone
 |a :: _,0,k=>k a
 |_ :: l,n+1,k=>qp l n k
def val(l:List SV):Operand->SV
 | .tmp t=>getT l t
 | .const v=>jd5 v
 | .func f=>.fn f []
 | .global _=>.any
def valK(l:List SV)(x:Operand)(k:SV->Prop):Prop :=
 match x with
 | .tmp t=>ug l t k
 | .const v=>jn8 v k
 | .func f=>k (.fn f [])
 | .global _=>k .any
def vals(l:List SV):List Operand->List SV
 |[]=>[]
 |x :: r=>val l x :: vals l r
def qf5(l:List SV):List Operand->(List SV->Prop)->Prop
 |[],k=>k []
 |x :: r,k=>valK l x (fun v=>qf5 l r (fun vs=>k (v :: vs)))
def appK:List SV->List SV->(List SV->Prop)->Prop
 |[],m,k=>k m
 |a :: l,m,k=>appK l m (fun r=>k (a :: r))
def za3:List SV->Nat->List SV
 |_,0=>[]
 |[],_+1=>[]
 |a :: l,n+1=>a :: za3 l n
def vh:List SV->Nat->(List SV->Prop)->Prop
 |_,0,k=>k []
 |[],_+1,k=>k []
 |a :: l,n+1,k=>vh l n (fun r=>k (a :: r))
def zb6:List SV->Nat->List SV
 |l,0=>l
 |[],_+1=>[]
 |_ :: l,n+1=>zb6 l n
def vm:List SV->Nat->(List SV->Prop)->Prop
 |l,0,k=>k l
 |[],_+1,k=>k []
 |_ :: l,n+1,k=>vm l n k
def mapD:List DV->List SV
 |[]=>[]
 |a :: l=>.d a :: mapD l
def qp1:List DV->(List SV->Prop)->Prop
 |[],k=>k []
 |a :: l,k=>qp1 l (fun r=>k (.d a :: r))
def lenL:List SV->Nat
 |[]=>0
 |_ :: l=>lenL l+1
def pack(agg:Bool)(size:Nat)(l:List SV)(off:Nat):SV :=
 match agg with
 |true=>.agg (za3 (zb6 l off) size)
 |false=>getT l off
def wd(agg:Bool)(size:Nat)(l:List SV)(off:Nat)(k:SV->Prop):Prop :=
 match Nat.ble (off+size) (lenL l) with
 |true=>match agg with
  |true=>vm l off (fun m=>vh m size (fun r=>k (.agg r)))
  |false=>match size with
   |1=>ug l off k
   |_=>False
 |false=>False
def jc(s:List UInt8)(i:Int):Int:=((s[i.toNat]?).getD 0).toNat
def kEq:IntKind->IntKind->Bool
 | .i8,.i8=>true
 | .i16,.i16=>true
 | .i32,.i32=>true
 | .i64,.i64=>true
 | .u8,.u8=>true
 | .u16,.u16=>true
 | .u32,.u32=>true
 | .u64,.u64=>true
 |_,_=>false
theorem wr{a b:IntKind}(h:kEq a b=true):a=b:=by cases a <;> cases b <;> first|rfl|(simp [kEq] at h)
def qc3(x:DV)(k:Bool->Prop)(no:Prop):Prop :=
 match x with
 | .bool b=>k b
 | .tt=>k true
 | .ff=>k false
 |_=>no
def bin(td:TD)(op:BinOp)(x y:DV)(K:SV->Prop):Prop :=
 match x,y with
 | .int k a,.int k' b =>
  match op with
  | .shl=>0<=b/\K (.d (.int k (k.wrap (a * 2 ^ (min b.toNat k.bits)))))
  | .shr=>0<=b/\K (.d (.int k (a.fdiv (2 ^ (min b.toNat k.bits)))))
  |op=>match kEq k k' with
   |false=>False
   |true=>match op with
    | .add=>K (.d (.int k (k.wrap (a+b))))
    | .sub=>K (.d (.int k (k.wrap (a - b))))
    | .mul=>K (.d (.int k (k.wrap (a * b))))
    | .quo=>b≠0/\K (.d (.int k (k.wrap (a.tdiv b))))
    | .rem=>b≠0/\K (.d (.int k (a.tmod b)))
    | .and=>K (.d (.int k (bits .and k a b)))
    | .or=>K (.d (.int k (bits .or k a b)))
    | .xor=>K (.d (.int k (bits .xor k a b)))
    | .andNot=>K (.d (.int k (bits .andNot k a b)))
    | .eql=>K (.d (.bool (a == b)))
    | .neq=>K (.d (.bool (a != b)))
    | .lss=>K (.d (.bool (decide (a<b))))
    | .leq=>K (.d (.bool (decide (a<=b))))
    | .gtr=>K (.d (.bool (decide (a > b))))
    | .geq=>K (.d (.bool (decide (a >= b))))
    |_=>False
 | .str a,.str b =>
  match op with
  | .add=>a.length+b.length<=9223372036854775807/\K (.d (.str (a++b)))
  | .eql=>K (.d (.bool (a == b)))
  | .neq=>K (.d (.bool (!(a == b))))
  | .lss=>K (.d (.bool (Op.bytesLess a b)))
  | .leq=>K (.d (.bool (Op.bytesLess a b || a == b)))
  | .gtr=>K (.d (.bool (!(Op.bytesLess a b || a == b))))
  | .geq=>K (.d (.bool (!(Op.bytesLess a b))))
  |_=>False
 | .sl b _ _ _,.sl true 0 0 _ =>
  match td,op with
  | .slice _,.eql=>K (.d (.bool b))
  | .slice _,.neq=>K (.d (.bool (!b)))
  |_,_=>False
 |x,y=>qc3 x (fun p=>qc3 y (fun q =>
  match td,op with
  | .bool,.eql=>K (.d (.bool (p == q)))
  | .bool,.neq=>K (.d (.bool (!(p == q))))
  |_,_=>False) False) False
def u0:List Int->Int->Int
 |[],_=>0
 |x :: xs,i=>if i=0 then x else u0 xs (i - 1)
def putI:List Int->Int->Int->List Int
 |[],_,_=>[]
 |x :: xs,i,v=>(if i=0 then v else x) :: putI xs (i - 1) v
def qb7(k:IntKind):List SV->(List Int->Prop)->Prop
 |[],c=>c []
 | .d (.int k' n) :: l,c=>match kEq k' k with
  |true=>qb7 k l (fun r=>c (n :: r))
  |false=>False
 |_,_=>False
def qp0(k:IntKind)(i n:Int):List SV->Int->(List SV->Prop)->Prop
 |[],_,c=>c []
 | .d (.int k' x) :: l,j,c=>match kEq k' k with
  |true=>qp0 k i n l (j+1) (fun r=>c (.d (.int k (if i=j then n else x)) :: r))
  |false=>False
 |_,_,_=>False
def eqSK:List EK->List SV->List SV->(Bool->Prop)->Prop
 |[],[],[],c=>c true
 | .int k :: ks,.d (.int k1 x) :: xs,.d (.int k2 y) :: ys,c=>match kEq k k1,kEq k k2 with
  |true,true=>eqSK ks xs ys (fun b=>c ((x == y) && b))
  |_,_=>False
 | .bool :: ks,.d x :: xs,.d y :: ys,c=>qc3 x (fun p=>qc3 y (fun q=>eqSK ks xs ys (fun b=>c ((p == q) && b))) False) False
 | .str :: ks,.d (.str x) :: xs,.d (.str y) :: ys,c=>eqSK ks xs ys (fun b=>c ((x == y) && b))
 |_,_,_,_=>False
def getF:List (Nat × TypeId)->Nat->Option (Nat × TypeId)
 |[],_=>none
 |a :: _,0=>some a
 |_ :: l,n+1=>getF l n
def putCells:List SV->Nat->List SV->List SV
 |l,_,[]=>l
 |l,off,v :: vs=>putCells (setT l off v) (off+1) vs
def putK:List SV->Nat->List SV->(List SV->Prop)->Prop
 |l,_,[],c=>c l
 |l,off,v :: vs,c=>setK l off v (fun l'=>putK l' (off+1) vs c)
def cellsOf:SV->List SV
 | .agg l=>l
 |v=>[v]
def km(v:SV)(k:List SV->Prop):Prop :=
 match v with
 | .agg l=>k l
 | .tup _=>False
 | .any=>False
 | .v x=>match x.oneCell' with
  |true=>k [.v x]
  |false=>False
 |v=>k [v]
def wx(TT:Nat->Option TI)(tmps:List SV)(fs:List (Nat × TypeId)):List SV->List (Nat × Operand)->(List SV->Prop)->Prop
 |cs,[],c=>c cs
 |cs,(i,x) :: r,c =>
  match getF fs i with
  |none=>False
  |some (off,ft)=>match TT ft with
   |none=>False
   |some ti=>valK tmps x (fun v=>km v (fun vs=>match Nat.beq (lenL vs) ti.size,Nat.ble (off+ti.size) (lenL cs) with
    |true,true=>putK cs off vs (fun cs'=>wx TT tmps fs cs' r c)
    |_,_=>False))
def qp7:Nat->Nat->Nat->TypeId->List (Nat × TypeId)
 |0,_,_,_=>[]
 |n+1,off,size,e=>(off,e) :: qp7 n (off+size) size e
def yb(n:Nat)(f:Nat->List DV):List UInt8 :=
 (List.range n).map fun i=>match f i with
  |[.int .u8 x]=>UInt8.ofNat x.toNat
  |_=>0
def jc4(n:Nat)(f:Nat->List DV):Prop:=∀ i,i<n->∃ x:Int,f i=[.int .u8 x]
def vr:List Int->List UInt8
 |[]=>[]
 |x :: xs=>UInt8.ofNat x.toNat :: vr xs
def sub(s:List UInt8)(lo hi:Int):List UInt8:=(s.drop lo.toNat).take (hi.toNat - lo.toNat)
def j9(ts:List SV)(o:Option Operand)(dflt:Int)(K:Int->Prop):Prop :=
 match o with
 |none=>K dflt
 |some x=>valK ts x (fun v=>match v with
  | .d (.int _ n)=>K n
  |_=>False)
def qu8:SV->(Nat->Nat->Prop)->Prop
 | .np i n,K=>K i n
 | .ap i n off,K=>match off with
  |0=>K i n
  |_=>False
 |_,_=>False
def qn9(ks:List KB)(x y:SV)(K:DV->Prop):Prop :=
 match x with
 | .ptr i a=>match y with
  | .v (.pointer none)=>K .ff
  | .ptr j b=>match Nat.beq i j with
   |true=>match Nat.beq a b with
    |true=>K .tt
    |false=>K .ff
   |false=>qp ks i (fun k=>match k with
    | .cells _ _=>qp ks j (fun k'=>match k' with
     | .cells _ _=>K .ff
     |_=>False)
    |_=>False)
  |_=>False
 | .v (.pointer none)=>match y with
  | .v (.pointer none)=>K .tt
  | .ptr _ _=>K .ff
  | .ap _ _ _=>K .ff
  | .np _ n=>K (.bool (n == 0))
  |_=>False
 |x=>match y with
  | .v (.pointer none)=>match x with
   | .ap _ _ _=>K .ff
   | .np _ n=>K (.bool (n == 0))
   |_=>False
  |y=>qu8 x (fun i n=>qu8 y (fun j m=>qp ks i (fun k=>match k with
   | .arena _ dom _=>qp ks j (fun k'=>match k' with
    | .arena _ dom' _=>((n≠0->dom n)/\(m≠0->dom' m))/\K (.bool (n == m))
    |_=>False)
   |_=>False)))
def jg4(b:DV)(K:SV->Prop):Prop :=
 match b with
 | .tt=>K (.d .ff)
 | .ff=>K (.d .tt)
 | .bool b=>K (.d (.bool (!b)))
 |_=>False
def qp5:DV->Option Bool
 | .bool b=>some b
 | .tt=>some true
 | .ff=>some false
 |_=>none
def dEq:DV->DV->Bool
 | .int k a,.int k' b=>kEq k k' && a == b
 | .str a,.str b=>a == b
 |x,y=>match qp5 x,qp5 y with
  |some p,some q=>p == q
  |_,_=>false
def jg:List DV->List DV->Bool
 |[],[]=>true
 |a :: l,b :: m=>dEq a b && jg l m
 |_,_=>false
def y6:List (List DV × List SV)->List DV->Option (List SV)
 |[],_=>none
 |(k,v) :: l,key=>if jg key k then some v else y6 l key
def qk1:List (List DV × Nat × (Nat->List DV))->List DV->Option Nat
 |[],_=>none
 |(k,n,_) :: l,key=>if jg key k then some n else qk1 l key
def putM:List (List DV × List SV)->List DV->List SV->List (List DV × List SV)
 |[],key,vs=>[(key,vs)]
 |(k,v) :: l,key,vs=>if jg key k then (key,vs) :: l else (k,v) :: putM l key vs
def delM:List (List DV × List SV)->List DV->List (List DV × List SV)
 |[],_=>[]
 |(k,v) :: l,key=>if jg key k then l else (k,v) :: delM l key
def fitD:EK->DV->Bool
 | .int k,.int k' _=>kEq k k'
 | .str,.str _=>true
 | .bool,.bool _=>true
 | .bool,.tt=>true
 | .bool,.ff=>true
 |_,_=>false
def qw6:List EK->List DV->Bool
 |[],[]=>true
 |e :: es,d :: ds=>match fitD e d with
  |true=>qw6 es ds
  |false=>false
 |_,_=>false
def ekEq:List EK->List EK->Bool
 |[],[]=>true
 | .int k :: l,.int k' :: m=>match kEq k k' with
  |true=>ekEq l m
  |false=>false
 | .bool :: l,.bool :: m=>ekEq l m
 | .str :: l,.str :: m=>ekEq l m
 |_,_=>false
def bEq:Bool->Bool->Bool
 |true,true=>true
 |false,false=>true
 |_,_=>false
def keks(agg:Bool)(desc:TD)(eqk:List EK):List EK :=
 match agg with
 |true=>eqk
 |false=>match desc with
  | .int k=>[.int k]
  | .str=>[.str]
  | .bool=>[.bool]
  |_=>[]
def qc5:List SV->(List DV->Prop)->Prop
 |[],K=>K []
 | .d x :: l,K=>qc5 l (fun ds=>K (x :: ds))
 |_ :: _,_=>False
def keyK(eks:List EK)(agg:Bool)(key:SV)(K:List DV->Prop):Prop :=
 match eks with
 |[]=>False
 |e :: es=>match agg with
  |true=>match key with
   | .agg l=>qc5 l (fun ds=>match qw6 (e :: es) ds with
    |true=>K ds
    |false=>False)
   |_=>False
  |false=>match key with
   | .d x=>match qw6 (e :: es) [x] with
    |true=>K [x]
    |false=>False
   |_=>False
def k6(agg:Bool)(vs:List SV)(K:SV->Prop):Prop :=
 match agg with
 |true=>K (.agg vs)
 |false=>match vs with
  |[v]=>K v
  |_=>False
def lookK(c agg:Bool)(zero:List SV)(r:Option (List SV))(K:SV->Prop):Prop :=
 match r with
 |some vs=>k6 agg vs (fun v=>match c with
  |true=>K (.tup [v,.d .tt])
  |false=>K v)
 |none=>k6 agg zero (fun v=>match c with
  |true=>K (.tup [v,.d .ff])
  |false=>K v)
def atK(c:Col)(n:Nat)(K:SV->Prop):Prop :=
 match c with
 | .int k f=>K (.d (.int k (f n)))
 | .bool f=>K (.d (.bool (f n)))
 | .str f=>K (.d (.str (f n)))
 | .sl sz nil m g=>K (.d (.sl (nil n) (m n) sz (g n)))
 | .np i f=>K (.np i (f n))
 | .any=>K .any
def qw7:List Col->Nat->(List SV->Prop)->Prop
 |[],_,K=>K []
 |c :: l,n,K=>atK c n (fun s=>qw7 l n (fun r=>K (s :: r)))
def pev(P:Program)(TT:Nat->Option TI)(ts:List SV)(ks:List KB)(o:Op)(K:SV->Prop):Prop :=
 match o with
 | .move x=>valK ts x K
 | .assign x=>valK ts x K
 | .pick c a b=>valK ts c (fun c=>match c with
  | .d .tt=>valK ts a K
  | .d .ff=>valK ts b K
  | .d (.bool q)=>(q=true->valK ts a K)/\(q=false->valK ts b K)
  |_=>False)
 | .load t a =>
  match TT t with
  |none=>False
  |some ⟨size,_,agg,_,desc,_⟩=>valK ts a (fun a=>match a with
   | .ptr i off=>qp ks i (fun b=>match b with
    | .cells _ l=>wd agg size l off K
    |_=>False)
   | .aptr i off len ix=>match desc with
    | .int k=>qp ks i (fun b=>match b with
     | .cells _ l=>match Nat.ble (off+len) (lenL l) with
      |true=>vm l off (fun m=>vh m len (fun r=>qb7 k r (fun xs=>K (.d (.int k (u0 xs ix))))))
      |false=>False
     |_=>False)
    |_=>False
   | .dptr c off=>qp1 c (fun l=>wd agg size l off K)
   | .rptr i j off sz=>qp ks i (fun b=>match b with
    | .row _ sz' _ _ f=>match Nat.beq sz sz' with
     |true=>qp1 (f j) (fun l=>wd agg size l off K)
     |false=>False
    | .rows _ sz' _ f=>match Nat.beq sz sz' with
     |true=>wd agg size (f j) off K
     |false=>False
    |_=>False)
   | .ap i n off=>qp ks i (fun b=>match b with
    | .arena _ dom cols=>dom n/\qw7 cols n (fun l=>wd agg size l off K)
    |_=>False)
   |_=>False)
 | .lookup t x i c =>
  match TT t with
  |some ⟨_,_,_,_,.map kt et,_⟩=>match TT kt with
   |some ⟨_,_,ka,_,kd,eqk⟩=>match TT et with
    |some ⟨_,_,ea,zero,_,_⟩=>valK ts i (fun i=>keyK (keks ka kd eqk) ka i (fun ds=>valK ts x (fun x=>match x with
     | .map b=>qp ks b (fun k=>match k with
      | .mapx eks ka' ea' l _=>match ekEq (keks ka kd eqk) eks,bEq ka ka',bEq ea ea' with
       |true,true,true=>∃ r,y6 l ds=r/\lookK c ea zero r K
       |_,_,_=>False
      | .mapr eks ka' _ _ l st=>match st,c with
       | .free,false=>match ekEq (keks ka kd eqk) eks,bEq ka ka' with
        |true,true=>∃ r,qk1 l ds=r/\(match r with
         |some n=>K (.ln n)
         |none=>lookK false ea zero none K)
        |_,_=>False
       |_,_=>False
      |_=>False)
     | .v (.map none)=>lookK c ea zero none K
     |_=>False)))
    |none=>False
   |none=>False
  |_=>False
 | .fieldAddr t x f =>
  match TT t with
  |some ⟨_,_,_,_,.struct fs,_⟩=>match getF fs f with
   |some (o,_)=>valK ts x (fun x=>match x with
    | .ptr i off=>K (.ptr i (off+o))
    | .dptr c off=>K (.dptr c (off+o))
    | .rptr i j off sz=>K (.rptr i j (off+o) sz)
    | .ap i n off=>K (.ap i n (off+o))
    |_=>False)
   |none=>False
  |_=>False
 | .field t x f =>
  match TT t with
  |some ⟨_,_,_,_,.struct fs,_⟩=>match getF fs f with
   |some (o,ft)=>match TT ft with
    |some ⟨size,_,agg,_,_,_⟩=>valK ts x (fun x=>match x with
     | .agg l=>wd agg size l o K
     |_=>False)
    |none=>False
   |none=>False
  |_=>False
 | .indexAddr t x i0 =>
  match TT t with
  |some ⟨_,_,_,_,.slice e,_⟩=>match TT e with
   |none=>False
   |some ⟨size,_,_,_,desc,_⟩=>valK ts i0 (fun i=>match i with
    | .d (.int _ ix)=>valK ts x (fun x=>match x with
     | .d (.sl _ n sz f)=>match Nat.beq size sz with
      |true=>(0<=ix/\ix<n)/\K (.dptr (f ix.toNat) 0)
      |false=>False
     | .all b=>qp ks b (fun k=>match k with
      | .row _ sz n _ _=>match Nat.beq size sz with
       |true=>(0<=ix/\ix<n)/\K (.rptr b ix.toNat 0 size)
       |false=>False
      | .rows _ sz n _=>match Nat.beq size sz with
       |true=>(0<=ix/\ix<n)/\K (.rptr b ix.toNat 0 size)
       |false=>False
      |_=>False)
     | .row b lo n=>qp ks b (fun k=>match k with
      | .row _ sz m _ _=>match Nat.beq size sz with
       |true=>(0<=ix/\ix<n/\lo+n<=m)/\K (.rptr b (lo+ix.toNat) 0 size)
       |false=>False
      |_=>False)
     | .cs b off n _=>match desc with
      | .int _=>match size with
       |1=>(0<=ix/\ix<n)/\K (.aptr b off n ix)
       |_=>False
      |_=>(0<=ix/\ix<n)/\K (.ptr b (off+ix.toNat * size))
     |_=>False)
    |_=>False)
  |some ⟨_,_,_,_,.array len e,_⟩=>match Nat.ble 2 len with
   |false=>False
   |true=>match TT e with
    |none=>False
    |some ⟨size,_,_,_,desc,_⟩=>valK ts i0 (fun i=>match i with
     | .d (.int _ ix)=>valK ts x (fun x=>match x with
      | .ptr b off=>match desc with
       | .int _=>match size with
        |1=>match i0 with
         | .const _=>(0<=ix/\ix<len)/\K (.ptr b (off+ix.toNat))
         |_=>(0<=ix/\ix<len)/\K (.aptr b off len ix)
        |_=>False
       |_=>(0<=ix/\ix<len)/\K (.ptr b (off+ix.toNat * size))
      |_=>False)
     |_=>False)
  |_=>False
 | .index t x i =>
  match TT t with
  |some ⟨_,_,_,_,.str,_⟩=>valK ts x (fun x=>valK ts i (fun i=>match x,i with
   | .d (.str s),.d (.int _ ix)=>(0<=ix/\ix<s.length)/\K (.d (.int .u8 (jc s ix)))
   |_,_=>False))
  |some ⟨_,_,_,_,.array len e,_⟩=>match TT e with
   |none=>False
   |some ⟨size,_,agg,_,desc,_⟩=>valK ts x (fun x=>valK ts i (fun i=>match x,i with
    | .agg l,.d (.int _ ix)=>match desc with
     | .int k=>match size,Nat.beq (lenL l) len with
      |1,true=>(0<=ix/\ix<len)/\qb7 k l (fun xs=>K (.d (.int k (u0 xs ix))))
      |_,_=>False
     |_=>(0<=ix/\ix<len)/\wd agg size l (ix.toNat * size) K
    |_,_=>False))
  |_=>False
 | .binOp op t x y0 _=>valK ts x (fun x=>valK ts y0 (fun y=>match x,y with
  | .d a,.d b=>match TT t with
   |some ⟨_,_,_,_,desc,_⟩=>bin desc op a b K
   |none=>False
  | .agg l,.agg m=>match TT t with
   |some ⟨_,_,_,_,_,e :: es⟩=>match op with
    | .eql=>eqSK (e :: es) l m (fun b=>K (.d (.bool b)))
    | .neq=>eqSK (e :: es) l m (fun b=>K (.d (.bool (!b))))
    |_=>False
   |_=>False
  | .err b,.v .nilIface=>match TT t with
   |some ⟨_,_,_,_,.iface,_⟩=>match y0 with
    | .const _=>match op with
     | .eql=>K (.d (.bool (!b)))
     | .neq=>K (.d (.bool b))
     |_=>False
    |_=>False
   |_=>False
  | .v (.iface _ _),.v .nilIface=>match TT t with
   |some ⟨_,_,_,_,.iface,_⟩=>match y0 with
    | .const _=>match op with
     | .eql=>K (.d (.bool false))
     | .neq=>K (.d (.bool true))
     |_=>False
    |_=>False
   |_=>False
  | .map _,.v (.map none)=>match TT t with
   |some ⟨_,_,_,_,.map _ _,_⟩=>match op with
    | .eql=>K (.d .ff)
    | .neq=>K (.d .tt)
    |_=>False
   |_=>False
  | .cs _ _ _ _,.d (.sl true 0 0 _)=>match TT t with
   |some ⟨_,_,_,_,.slice _,_⟩=>match op with
    | .eql=>K (.d .ff)
    | .neq=>K (.d .tt)
    |_=>False
   |_=>False
  | .all i,.d (.sl true 0 0 _)=>match TT t with
   |some ⟨_,_,_,_,.slice _,_⟩=>qp ks i (fun b=>match b with
    | .row _ _ n z _=>match z with
     | .no=>match op with
      | .eql=>K (.d .ff)
      | .neq=>K (.d .tt)
      |_=>False
     | .iff=>match op with
      | .eql=>K (.d (.bool (Nat.beq n 0)))
      | .neq=>K (.d (.bool (!(Nat.beq n 0))))
      |_=>False
     | .may=>False
    |_=>False)
   |_=>False
  |x,y=>match TT t with
   |some ⟨_,_,_,_,.ptr e,_⟩=>match TT e with
    |some ⟨size,_,_,_,_,_⟩=>match Nat.ble 1 size with
     |true=>match op with
      | .eql=>qn9 ks x y (fun b=>K (.d b))
      | .neq=>qn9 ks x y (fun b=>jg4 b K)
      |_=>False
     |false=>False
    |none=>False
   |_=>False))
 | .unOp op _ x=>valK ts x (fun x=>match op,x with
  | .not,.d .tt=>K (.d .ff)
  | .not,.d .ff=>K (.d .tt)
  | .not,.d (.bool b)=>K (.d (.bool (!b)))
  | .neg,.d (.int k n)=>K (.d (.int k (k.wrap (0 - n))))
  | .xor,.d (.int k n)=>K (.d (.int k (bits .xor k (if k.signed then -1 else k.max) n)))
  |_,_=>False)
 | .convert src dst x =>
  match TT src with
  |none=>False
  |some ⟨_,_,_,_,ds,_⟩=>match TT dst with
   |some ⟨_,_,_,_,.int k,_⟩=>valK ts x (fun x=>match x with
    | .d (.int _ n)=>K (.d (.int k (k.wrap n)))
    |_=>False)
   |some ⟨_,_,_,_,.str,_⟩=>valK ts x (fun x=>match x with
    | .d (.str s)=>K (.d (.str s))
    | .d (.sl _ n 1 f)=>match ds with
     | .slice e=>match TT e with
      |some ⟨_,_,_,_,.int .u8,_⟩=>jc4 n f/\K (.d (.str (yb n f)))
      |_=>False
     |_=>False
    | .cs i off n _=>match ds with
     | .slice e=>match TT e with
      |some ⟨_,_,_,_,.int .u8,_⟩=>qp ks i (fun b=>match b with
       | .cells _ l=>match Nat.ble (off+n) (lenL l) with
        |true=>vm l off (fun m=>vh m n (fun r=>qb7 .u8 r (fun xs=>K (.d (.str (vr xs))))))
        |false=>False
       |_=>False)
      |_=>False
     |_=>False
    | .all i=>match ds with
     | .slice e=>match TT e with
      |some ⟨_,_,_,_,.int .u8,_⟩=>qp ks i (fun b=>match b with
       | .row _ 1 n _ f=>jc4 n f/\K (.d (.str (yb n f)))
       |_=>False)
      |_=>False
     |_=>False
    | .row i lo n=>match ds with
     | .slice e=>match TT e with
      |some ⟨_,_,_,_,.int .u8,_⟩=>qp ks i (fun b=>match b with
       | .row _ 1 m _ f=>lo+n<=m/\jc4 n (fun j=>f (lo+j))/\K (.d (.str (yb n (fun j=>f (lo+j)))))
       |_=>False)
      |_=>False
     |_=>False
    |_=>False)
   |_=>False
 | .extract x i=>valK ts x (fun x=>match x with
  | .tup l=>match Nat.ble (i+1) (lenL l) with
   |true=>ug l i K
   |false=>False
  |_=>False)
 | .makeInterface t x =>
  match TT t with
  |some ⟨_,_,_,_,.int _,_⟩=>match x with
   | .const (.int k n)=>K (.v (.iface t (.int k n)))
   |_=>False
  |_=>False
 | .makeFunc fn first caps =>
  match fn,first.toList with
  | .func f,[]=>qf5 ts caps.toList (fun l=>K (.fn f l))
  |_,_=>False
 | .build t parts =>
  match TT t with
  |some ⟨_,_,true,zero,.struct fs,_⟩=>wx TT ts fs zero parts.toList (fun cs=>K (.agg cs))
  |some ⟨_,_,true,zero,.array n e,_⟩=>match TT e with
   |some ⟨size,_,_,_,_,_⟩=>wx TT ts (qp7 n 0 size e) zero parts.toList (fun cs=>K (.agg cs))
   |none=>False
  |_=>False
 | .slice t x lo hi mx =>
  match mx with
  |some _=>match TT t with
   |some ⟨_,_,_,_,.slice e,_⟩=>match TT e with
    |none=>False
    |some ⟨size,_,_,_,_,_⟩=>valK ts x (fun x=>match x with
     | .all i=>qp ks i (fun b=>match b with
      | .row _ sz n z _=>match z with
       | .no=>match Nat.beq size sz with
        |true=>j9 ts lo 0 (fun l=>j9 ts hi n (fun h=>j9 ts mx n (fun m=>(hi.isSome=true/\0<=l/\l<=h/\h<=m/\m<=n/\l<m)/\K (.cs i (l.toNat * size) (h - l).toNat (m - l).toNat))))
        |false=>False
       |_=>False
      |_=>False)
     |_=>False)
   |_=>False
  |none=>match TT t with
   |some ⟨_,_,_,_,.str,_⟩=>valK ts x (fun x=>match x with
    | .d (.str s)=>j9 ts lo 0 (fun l=>j9 ts hi s.length (fun h=>(0<=l/\l<=h/\h<=s.length)/\K (.d (.str (sub s l h)))))
    |_=>False)
   |some ⟨_,_,_,_,.slice e,_⟩=>match TT e with
    |none=>False
    |some ⟨size,_,_,_,_,_⟩=>valK ts x (fun x=>match x with
     | .d (.sl nl n sz f)=>match Nat.beq size sz with
      |true=>j9 ts lo 0 (fun l=>j9 ts hi n (fun h=>(0<=l/\l<=h/\h<=n)/\K (.d (.sl nl (h - l).toNat sz (fun j=>f (l.toNat+j))))))
      |false=>False
     | .all i=>qp ks i (fun b=>match b with
      | .row _ sz n _ _=>match Nat.beq size sz with
       |true=>j9 ts lo 0 (fun l=>j9 ts hi n (fun h=>(0<=l/\l<=h/\h<=n)/\K (.row i l.toNat (h - l).toNat)))
       |false=>False
      |_=>False)
     | .row i lo' n=>qp ks i (fun b=>match b with
      | .row _ sz _ _ _=>match Nat.beq size sz with
       |true=>j9 ts lo 0 (fun l=>j9 ts hi n (fun h=>(0<=l/\l<=h/\h<=n)/\K (.row i (lo'+l.toNat) (h - l).toNat)))
       |false=>False
      |_=>False)
     | .cs i off n c=>j9 ts lo 0 (fun l=>j9 ts hi n (fun h=>(0<=l/\l<=h/\h<=n/\n<=c/\(l.toNat<c\/l=0))/\K (.cs i (off+l.toNat * size) (h - l).toNat (c - l.toNat))))
     |_=>False)
   |some ⟨_,_,_,_,.array n e,_⟩=>match TT e with
    |none=>False
    |some ⟨size,_,_,_,_,_⟩=>valK ts x (fun x=>match x with
     | .ptr i off=>j9 ts lo 0 (fun l=>j9 ts hi n (fun h=>(0<=l/\l<=h/\h<=n/\(l.toNat<n\/l=0))/\K (.cs i (off+l.toNat * size) (h - l).toNat (n - l.toNat))))
     |_=>False)
   |_=>False
 | .nilCheck x=>valK ts x (fun x=>match x with
  | .ptr i off=>K (.ptr i off)
  | .dptr c off=>K (.dptr c off)
  | .rptr i j off sz=>K (.rptr i j off sz)
  | .ap i n off=>K (.ap i n off)
  | .np i n=>n≠0/\K (.ap i n 0)
  | .fn f caps=>K (.fn f caps)
  |_=>False)
 | .call ⟨callee,args,argTypes⟩ =>
  match callee with
  | .builtin b =>
   match b,args.toList with
   | .len,[x]=>match argTypes.toList with
    |[t]=>match TT t with
     |none=>False
     |some ⟨_,_,_,_,desc,_⟩=>match desc with
      | .array n _=>K (.d (.int .i64 n))
      | .str=>valK ts x (fun x=>match x with
       | .d (.str s)=>K (.d (.int .i64 s.length))
       |_=>False)
      | .slice _=>valK ts x (fun x=>match x with
       | .d (.sl _ n _ _)=>K (.d (.int .i64 n))
       | .all i=>qp ks i (fun b=>match b with
        | .row _ _ n _ _=>K (.d (.int .i64 n))
        | .rows _ _ n _=>K (.d (.int .i64 n))
        |_=>False)
       | .row _ _ n=>K (.d (.int .i64 n))
       | .cs _ _ n _=>K (.d (.int .i64 n))
       | .ln n=>K (.d (.int .i64 n))
       |_=>False)
      | .map _ _=>valK ts x (fun x=>match x with
       | .map i=>qp ks i (fun b=>match b with
        | .mapx _ _ _ l _=>K (.d (.int .i64 l.length))
        | .mapr _ _ _ _ l _=>K (.d (.int .i64 l.length))
        |_=>False)
       | .v (.map none)=>K (.d (.int .i64 0))
       |_=>False)
      |_=>False
    |_=>False
   | .min,[x,y]=>valK ts x (fun x=>valK ts y (fun y=>match x,y with
    | .d (.int k a),.d (.int k' b)=>match kEq k k' with
     |true=>K (.d (.int k (if b<a then b else a)))
     |false=>False
    |_,_=>False))
   | .min,[x,y,z]=>valK ts x (fun x=>valK ts y (fun y=>valK ts z (fun z=>match x,y,z with
    | .d (.int k a),.d (.int k' b),.d (.int k'' c)=>match kEq k k',kEq k k'' with
     |true,true=>K (.d (.int k (if c<(if b<a then b else a) then c else (if b<a then b else a))))
     |_,_=>False
    |_,_,_=>False)))
   | .max,[x,y]=>valK ts x (fun x=>valK ts y (fun y=>match x,y with
    | .d (.int k a),.d (.int k' b)=>match kEq k k' with
     |true=>K (.d (.int k (if b > a then b else a)))
     |false=>False
    |_,_=>False))
   | .unsafeSliceData,[x]=>valK ts x (fun x=>match x with
    | .d (.sl true 0 _ _)=>K (.v (.pointer none))
    | .all i=>qp ks i (fun b=>match b with
     | .row _ 1 0 .iff _=>K (.v (.pointer none))
     | .row _ 1 n _ _=>1<=n/\K (.rptr i 0 0 1)
     |_=>False)
    |_=>False)
   |_,_=>False
  |_=>False
 |_=>False
def addB:List KB->KB->List KB
 |[],k=>[k]
 |a :: l,k=>a :: addB l k
def uh:List KB->KB->(List KB->Prop)->Prop
 |[],k,c=>c [k]
 |a :: l,k,c=>uh l k (fun l'=>c (a :: l'))
def jf:List KB->Nat->KB->(List KB->Prop)->Prop
 |[],_,_,c=>c []
 |_ :: l,0,v,c=>c (v :: l)
 |a :: l,n+1,v,c=>jf l n v (fun l'=>c (a :: l'))
def lenB:List KB->Nat
 |[]=>0
 |_ :: l=>lenB l+1
theorem qu9(l:List KB)(k:KB):addB l k=l++[k]:=by
 induction l with
 |nil=>rfl
 |cons a l ih=>simp[addB,ih]
theorem xr(l:List KB)(k:KB)(c:List KB->Prop):uh l k c=c (l++[k]):=by
 induction l generalizing c with
 |nil=>rfl
 |cons a l ih=>simp[uh,ih]
theorem jp(l:List KB)(n:Nat)(k:KB)(c:List KB->Prop):jf l n k c=c (l.set n k):=by
 induction l generalizing n c with
 |nil=>rfl
 |cons a l ih=>cases n with
  |zero=>rfl
  |succ n=>simp[jf,ih]
theorem qj1[Dr](l:List SV)(off:Nat)(vs:List SV)(c:List SV->Prop):putK l off vs c=c (putCells l off vs):=by
 induction vs generalizing l off with
 |nil=>cases l <;> rfl
 |cons v vs ih=>simp[putK,putCells,vt,ih]
theorem qa4(l:List KB):lenB l=l.length:=by
 induction l with
 |nil=>rfl
 |cons a l ih=>simp[lenB,ih]
def wv:List KB->Nat->(Nat->Prop)->Prop
 |[],n,k=>k n
 |_ :: l,n,k=>wv l (n+1) k
def memN(t:Nat):List Nat->Bool
 |[]=>false
 |a :: l=>match Nat.beq a t with
  |true=>true
  |false=>memN t l
def qx(ds:List DV)(sz:Nat):Nat->List DV:=fun j=>(ds.drop (j * sz)).take sz
def dvK(ks:List KB)(s:SV)(K:DV->List Nat->Prop):Prop :=
 match s with
 | .d x=>K x []
 | .all i=>qp ks i (fun b=>match b with
  | .row _ sz n z f=>match z with
   | .no=>K (.sl false n sz f) [i]
   | .iff=>K (.sl (Nat.beq n 0) n sz f) [i]
   | .may=>0<n/\K (.sl false n sz f) [i]
  |_=>False)
 | .row i lo n=>qp ks i (fun b=>match b with
  | .row _ sz m z f=>match z with
   | .no=>lo+n<=m/\K (.sl false n sz (fun j=>f (lo+j))) [i]
   |_=>(lo+n<=m/\0<m)/\K (.sl false n sz (fun j=>f (lo+j))) [i]
  |_=>False)
 | .cs i off n c=>qp ks i (fun b=>match b with
  | .cells _ l=>match Nat.ble (off+n * Nat.div (lenL l - off) c) (lenL l) with
   |true=>vm l off (fun m=>vh m (n * Nat.div (lenL l - off) c) (fun r=>qc5 r (fun ds=>K (.sl false n (Nat.div (lenL l - off) c) (qx ds (Nat.div (lenL l - off) c))) [i])))
   |false=>False
  |_=>False)
 |_=>False
def appN:List Nat->List Nat->(List Nat->Prop)->Prop
 |[],m,k=>k m
 |a :: l,m,k=>appN l m (fun r=>k (a :: r))
def dvsK(ks:List KB):List SV->(List DV->List Nat->Prop)->Prop
 |[],K=>K [] []
 |a :: l,K=>dvK ks a (fun d fr=>dvsK ks l (fun ds fr'=>appN fr fr' (fun r=>K (d :: ds) r)))
def uc:List Nat->List KB->(List KB->Prop)->Prop
 |[],ks,K=>K ks
 |i :: l,ks,K=>jf ks i .gone (fun ks'=>uc l ks' K)
def srcK(ks:List KB)(sz:Nat)(x:SV)(K:Nat->(Nat->List DV)->List Nat->Prop):Prop :=
 match x with
 | .d (.sl _ n sz' f)=>match Nat.beq sz' sz with
  |true=>K n f []
  |false=>match n with
   |0=>K 0 (fun _=>[]) []
   |_=>False
 | .d (.str s)=>match sz with
  |1=>K s.length (fun j=>[.int .u8 (jc s j)]) []
  |_=>False
 | .all i=>qp ks i (fun b=>match b with
  | .row _ sz' n _ f=>match Nat.beq sz' sz with
   |true=>K n f []
   |false=>False
  |_=>False)
 | .row i lo n=>qp ks i (fun b=>match b with
  | .row _ sz' m _ f=>match Nat.beq sz' sz with
   |true=>lo+n<=m/\K n (fun j=>f (lo+j)) []
   |false=>False
  |_=>False)
 | .cs i off n _=>qp ks i (fun b=>match b with
  | .cells _ l=>match Nat.ble (off+n * sz) (lenL l) with
   |true=>vm l off (fun m=>vh m (n * sz) (fun r=>dvsK ks r (fun ds fr=>K n (qx ds sz) fr)))
   |false=>False
  |_=>False)
 |_=>False
def catF(n:Nat)(f g:Nat->List DV):Nat->List DV:=fun t=>if t<n then f t else g (t - n)
def midF(lo n:Nat)(f g:Nat->List DV):Nat->List DV:=fun t=>if lo<=t/\t<lo+n then g (t - lo) else f t
def putD:List DV->Nat->List DV->List DV
 |l,_,[]=>l
 |l,off,v :: vs=>putD (l.set off v) (off+1) vs
def oneF(j off:Nat)(vs:List DV)(f:Nat->List DV):Nat->List DV:=fun t=>if t=j then putD (f t) off vs else f t
def oneS(j off:Nat)(vs:List SV)(f:Nat->List SV):Nat->List SV:=fun t=>if t=j then putCells (f t) off vs else f t
def ky(ks:List KB)(k:KB)(K:SV->List KB->Prop):Prop:=uh ks k (fun ks'=>wv ks 0 (fun j=>K (.all j) ks'))
def fillS(ts:List SV)(size:Nat):List SV->List (Nat × Operand)->(List SV->Prop)->Prop
 |cs,[],c=>c cs
 |cs,(i,x) :: r,c=>valK ts x (fun v=>km v (fun vs=>match Nat.beq (lenL vs) size,Nat.ble (i * size+size) (lenL cs) with
  |true,true=>putK cs (i * size) vs (fun cs'=>fillS ts size cs' r c)
  |_,_=>False))
def repK(z:List SV):Nat->(List SV->Prop)->Prop
 |0,c=>c []
 |n+1,c=>repK z n (fun r=>appK z r c)
def qw3(TT:Nat->Option TI)(t:TypeId):Bool :=
 match TT t with
 |some ⟨_,_,_,_,.slice _,_⟩=>true
 |some ⟨_,_,_,_,.str,_⟩=>true
 |_=>false
def lenC:List Col->Nat
 |[]=>0
 |_ :: l=>lenC l+1
def qw2(c:Col)(n:Nat)(v:SV)(K:Col->Prop):Prop :=
 match c with
 | .int k f=>match v with
  | .d (.int k' x)=>match kEq k' k with
   |true=>K (.int k (upd f n x))
   |false=>False
  |_=>False
 | .bool f=>match v with
  | .d x=>qc3 x (fun b=>K (.bool (upd f n b))) False
  |_=>False
 | .str f=>match v with
  | .d (.str x)=>K (.str (upd f n x))
  |_=>False
 | .sl sz nil m g=>match v with
  | .d (.sl b q sz' h)=>match Nat.beq sz' sz with
   |true=>K (.sl sz (upd nil n b) (upd m n q) (upd g n h))
   |false=>match q with
    |0=>K (.sl sz (upd nil n b) (upd m n 0) (upd g n (fun _=>[])))
    |_=>False
  |_=>False
 | .np i f=>match v with
  | .np j x=>match Nat.beq j i with
   |true=>K (.np i (upd f n x))
   |false=>False
  | .ap j x off=>match Nat.beq j i,off with
   |true,0=>K (.np i (upd f n x))
   |_,_=>False
  | .v (.pointer none)=>K (.np i (upd f n 0))
  |_=>False
 | .any=>K .any
def zu:List Col->Nat->Nat->List SV->(List Col->Prop)->Prop
 |cols,_,_,[],K=>K cols
 |[],_,_,_ :: _,_=>False
 |c :: l,0,n,v :: vs,K=>qw2 c n v (fun c'=>zu l 0 n vs (fun l'=>K (c' :: l')))
 |c :: l,off+1,n,v :: vs,K=>zu l off n (v :: vs) (fun l'=>K (c :: l'))
def ja3(ts:List SV)(o:Option Operand)(K:Prop):Prop :=
 match o with
 |none=>K
 |some x=>valK ts x (fun v=>match v with
  | .d (.int _ _)=>K
  |_=>False)
def qp4(ea:Bool)(v:SV)(K:List SV->Prop):Prop :=
 match ea with
 |true=>match v with
  | .agg l=>K l
  |_=>False
 |false=>match v with
  | .agg _=>False
  |v=>km v K
def qo4(k:Nat)(g:Nat->List DV):Nat->List SV->(List SV->Prop)->Prop
 |_,[],c=>c []
 |q,.d (.int k1 b) :: l,c=>match g q with
  |[.int k2 a]=>match kEq k1 k2 with
   |true=>qo4 k g (q+1) l (fun r=>c (.d (.int k1 (if q<k then a else b)) :: r))
   |false=>False
  |_=>False
 |_,_,_=>False
def jh1(ks:List KB)(size:Nat)(d:SV)(k:Nat)(g:Nat->List DV)(K:SV->List KB->Prop):Prop :=
 match d with
 | .all i=>qp ks i (fun b=>match b with
  | .row e sz n z f=>match Nat.beq sz size with
   |true=>k<=n/\jf ks i (.row e sz n z (midF 0 k f g)) (fun ks'=>K (.d (.int .i64 k)) ks')
   |false=>False
  |_=>False)
 | .row i lo n=>qp ks i (fun b=>match b with
  | .row e sz m z f=>match Nat.beq sz size with
   |true=>(k<=n/\lo+n<=m)/\jf ks i (.row e sz m z (midF lo k f g)) (fun ks'=>K (.d (.int .i64 k)) ks')
   |false=>False
  |_=>False)
 | .cs i off n _=>match size with
  |1=>qp ks i (fun b=>match b with
   | .cells t l=>match Nat.ble (off+n) (lenL l) with
    |true=>k<=n/\vm l off (fun m=>vh m n (fun r=>qo4 k g 0 r (fun r'=>putK l off r' (fun l'=>jf ks i (.cells t l') (fun ks'=>K (.d (.int .i64 k)) ks')))))
    |false=>False
   |_=>False)
  |_=>False
 |_=>False
def yz6(n:Nat)(f:Nat->List DV):Prop:=∀ i,i<n->∃ x:UInt8,f i=[.int .u8 (x.toNat:Int)]
def mev(TT:Nat->Option TI)(ts:List SV)(ks:List KB)(o:Op)(K:SV->List KB->Prop):Prop :=
 match o with
 | .alloc t =>
  match TT t with
  |none=>False
  |some ⟨_,_,_,zero,_,_⟩=>uh ks (.cells t zero) (fun ks'=>wv ks 0 (fun n=>K (.ptr n 0) ks'))
 | .box t x =>
  match TT t with
  |none=>False
  |some ⟨size,_,_,_,_,_⟩=>valK ts x (fun v=>km v (fun l=>match Nat.beq (lenL l) size with
   |true=>uh ks (.cells t l) (fun ks'=>wv ks 0 (fun n=>K (.ptr n 0) ks'))
   |false=>False))
 | .buildSlice t len parts =>
  match TT t with
  |some ⟨_,_,_,_,.slice e,_⟩=>match TT e with
   |some ⟨size,_,_,zero,_,_⟩=>match Nat.ble (len * size) 16777216 with
    |true=>repK zero len (fun cs=>fillS ts size cs parts.toList (fun cs'=>uh ks (.cells e cs') (fun ks'=>wv ks 0 (fun n=>K (.cs n 0 len len) ks'))))
    |false=>False
   |none=>False
  |_=>False
 | .makeSlice t len cap =>
  match TT t with
  |some ⟨_,_,_,_,.slice e,_⟩=>match TT e with
   |some ⟨size,bytes,_,zero,_,_⟩=>valK ts len (fun l=>valK ts cap (fun c=>match l,c with
    | .d (.int _ l),.d (.int _ c)=>dvsK [] zero (fun ds _=>(0<=l/\l<=c/\c * bytes<=281474976710656/\c<=9223372036854775807)/\ky ks (.row e size l.toNat .no (fun _=>ds)) K)
    |_,_=>False))
   |none=>False
  |_=>False
 | .convert src dst x =>
  match TT src,TT dst with
  |some _,some ⟨_,_,_,_,.slice e,_⟩=>match TT e with
   |some ⟨_,_,_,_,.int .u8,_⟩=>valK ts x (fun x=>match x with
    | .d (.str s)=>ky ks (.row e 1 s.length .no (fun j=>[.int .u8 (jc s j)])) K
    | .cs i 0 n c=>match Nat.beq src dst,Nat.beq n c with
     |true,true=>qp ks i (fun b=>match b with
      | .cells e' l=>match Nat.beq e' e,Nat.beq (lenL l) n,Nat.ble 1 n with
       |true,true,true=>qb7 .u8 l (fun xs=>jf ks i .gone (fun ks=>ky ks (.row e 1 n .no (qx (xs.map (DV.int .u8)) 1)) K))
       |_,_,_=>False
      |_=>False)
     |_,_=>False
    |_=>False)
   |_=>False
  |_,_=>False
 | .store t a x =>
  match TT t with
  |none=>False
  |some ⟨size,_,_,_,desc,_⟩=>valK ts x (fun v=>valK ts a (fun a=>match a with
   | .ptr i off=>qp ks i (fun b=>match b with
    | .cells t' l=>km v (fun vs=>match Nat.beq (lenL vs) size,Nat.ble (off+size) (lenL l),Nat.ble 1 size with
     |true,true,true=>putK l off vs (fun l'=>jf ks i (.cells t' l') (fun ks'=>K .any ks'))
     |_,_,_=>False)
    |_=>False)
   | .aptr i off len ix=>match desc,v with
    | .int k,.d (.int k' n)=>match size,kEq k' k with
     |1,true=>qp ks i (fun b=>match b with
      | .cells t' l=>match Nat.ble (off+len) (lenL l) with
       |true=>vm l off (fun m=>vh m len (fun r=>qp0 k ix n r 0 (fun r'=>putK l off r' (fun l'=>jf ks i (.cells t' l') (fun ks'=>K .any ks')))))
       |false=>False
      |_=>False)
     |_,_=>False
    |_,_=>False
   | .rptr i j off sz=>qp ks i (fun b=>match b with
    | .row e sz' n z f=>match Nat.beq sz sz' with
     |true=>km v (fun vs=>match Nat.beq (lenL vs) size,Nat.ble (off+size) sz,Nat.ble 1 size with
      |true,true,true=>dvsK ks vs (fun ds fr=>match memN i fr with
       |false=>uc fr ks (fun ks=>jf ks i (.row e sz' n z (oneF j off ds f)) (fun ks'=>K .any ks'))
       |true=>False)
      |_,_,_=>False)
     |false=>False
    | .rows e sz' n f=>match Nat.beq sz sz' with
     |true=>km v (fun vs=>match Nat.beq (lenL vs) size,Nat.ble (off+size) sz,Nat.ble 1 size with
      |true,true,true=>jf ks i (.rows e sz' n (oneS j off vs f)) (fun ks'=>K .any ks')
      |_,_,_=>False)
     |false=>False
    |_=>False)
   | .ap i n off=>qp ks i (fun b=>match b with
    | .arena t' dom cols=>km v (fun vs=>match Nat.beq (lenL vs) size,Nat.ble (off+size) (lenC cols),Nat.ble 1 size with
     |true,true,true=>dom n/\zu cols off n vs (fun cols'=>jf ks i (.arena t' dom cols') (fun ks'=>K .any ks'))
     |_,_,_=>False)
    |_=>False)
   |_=>False))
 | .makeMap t res =>
  match TT t with
  |some ⟨_,_,_,_,.map kt et,_⟩=>match TT kt,TT et with
   |some ⟨_,_,ka,_,kd,eqk⟩,some ⟨_,_,ea,_,_,_⟩=>ja3 ts res (uh ks (.mapx (keks ka kd eqk) ka ea [] .free) (fun ks'=>wv ks 0 (fun n=>K (.map n) ks')))
   |_,_=>False
  |_=>False
 | .mapUpdate t m k v =>
  match TT t with
  |some ⟨_,_,_,_,.map kt et,_⟩=>match TT kt,TT et with
   |some ⟨_,_,ka,_,kd,eqk⟩,some ⟨size,_,ea,_,_,_⟩=>valK ts k (fun key=>keyK (keks ka kd eqk) ka key (fun ds=>valK ts v (fun v=>qp4 ea v (fun vs=>match Nat.beq (lenL vs) size with
    |true=>valK ts m (fun m=>match m with
     | .map b=>qp ks b (fun kb=>match kb with
      | .mapx eks ka' ea' l .free=>match ekEq (keks ka kd eqk) eks,bEq ka ka',bEq ea ea' with
       |true,true,true=>∃ l',putM l ds vs=l'/\jf ks b (.mapx eks ka' ea' l' .free) (fun ks'=>K .any ks')
       |_,_,_=>False
      |_=>False)
     |_=>False)
    |false=>False))))
   |_,_=>False
  |_=>False
 | .call ⟨.builtin .delete,args,argTypes⟩ =>
  match args.toList,argTypes.toList with
  |[m,k],[t,_]=>match TT t with
   |some ⟨_,_,_,_,.map kt _,_⟩=>match TT kt with
    |some ⟨_,_,ka,_,kd,eqk⟩=>valK ts k (fun key=>keyK (keks ka kd eqk) ka key (fun ds=>valK ts m (fun m=>match m with
     | .map b=>qp ks b (fun kb=>match kb with
      | .mapx eks ka' ea' l .free=>match ekEq (keks ka kd eqk) eks,bEq ka ka' with
       |true,true=>∃ l',delM l ds=l'/\jf ks b (.mapx eks ka' ea' l' .free) (fun ks'=>K .any ks')
       |_,_=>False
      |_=>False)
     |_=>False)))
    |_=>False
   |_=>False
  |_,_=>False
 | .call ⟨.builtin .copy,args,argTypes⟩ =>
  match args.toList,argTypes.toList with
  |[d,x],[dt,xt]=>match TT dt with
   |some ⟨_,_,_,_,.slice e,_⟩=>match TT e with
    |some ⟨size,_,_,_,_,_⟩=>match Nat.ble 1 size && qw3 TT xt with
     |true=>valK ts x (fun x=>srcK ks size x (fun k g fr=>match fr with
      |[]=>valK ts d (fun d=>jh1 ks size d k g K)
      |_=>False))
     |false=>False
    |none=>False
   |_=>False
  |_,_=>False
 | .call ⟨.builtin .clear,args,argTypes⟩ =>
  match args.toList,argTypes.toList with
  |[x],[xt]=>match TT xt with
   |some ⟨_,_,_,_,.slice e,_⟩=>match TT e with
    |some ⟨size,_,_,zero,_,_⟩=>valK ts x (fun x=>match x with
     | .row i lo n=>qp ks i (fun b=>match b with
      | .row e' sz m z f=>match Nat.beq sz size,Nat.ble 1 size with
       |true,true=>qc5 zero (fun ds=>lo+n<=m/\jf ks i (.row e' sz m z (midF lo n f (fun _=>ds))) (fun ks'=>K .any ks'))
       |_,_=>False
      |_=>False)
     |_=>False)
    |none=>False
   |_=>False
  |_,_=>False
 | .call ⟨.builtin .unsafeString,args,argTypes⟩ =>
  match args.toList,argTypes.toList with
  |[p,m],[pt,_]=>valK ts m (fun m=>match m with
   | .d (.int .i64 c)=>valK ts p (fun p=>match p with
    | .v (.pointer none)=>c=0/\K (.d (.str [])) ks
    | .rptr i 0 0 1=>match TT pt with
     |some ⟨_,_,_,_,.ptr e,_⟩=>match TT e with
      |some ⟨1,_,_,_,_,_⟩=>qp ks i (fun b=>match b with
       | .row e' 1 n _ f=>match Nat.beq e' e with
        |true=>(c=(n:Int)/\n<=9223372036854775807/\yz6 n f)/\jf ks i .gone (fun ks'=>K (.d (.str (yb n f))) ks')
        |false=>False
       |_=>False)
      |_=>False
     |_=>False
    |_=>False)
   |_=>False)
  |_,_=>False
 | .call ⟨.builtin .append,args,argTypes⟩ =>
  match args.toList,argTypes.toList with
  |[s,x],[st,xt]=>match TT st with
   |some ⟨_,_,_,_,.slice e,_⟩=>match TT e with
    |some ⟨size,bytes,_,_,_,_⟩=>match Nat.ble 1 size && (Nat.ble 1 bytes && qw3 TT xt) with
     |true=>valK ts x (fun x=>srcK ks size x (fun k g fr=>valK ts s (fun s=>match s with
      | .d (.sl true 0 _ _)=>k * bytes<=70368744177664/\uc fr ks (fun ks=>ky ks (.row e size k .iff g) K)
      | .d (.sl false n sz' f)=>match k with
       |0=>uc fr ks (fun ks=>K (.d (.sl false n sz' f)) ks)
       |_=>False
      | .all i=>qp ks i (fun b=>match b with
       | .row e' sz n z f=>match Nat.beq e' e,Nat.beq sz size,memN i fr with
        |true,true,false=>(n+k) * bytes<=70368744177664/\uc fr ks (fun ks=>jf ks i .gone (fun ks=>ky ks (.row e size (n+k) z (catF n f g)) K))
        |_,_,_=>False
       |_=>False)
      | .row i 0 n=>qp ks i (fun b=>match b with
       | .row e' sz m z f=>match Nat.beq e' e,Nat.beq sz size,memN i fr with
        |true,true,false=>(n<=m/\(n+k) * bytes<=70368744177664)/\uc fr ks (fun ks=>jf ks i .gone (fun ks=>ky ks (.row e size (n+k) z.cut (catF n f g)) K))
        |_,_,_=>False
       |_=>False)
      | .cs i 0 n c=>qp ks i (fun b=>match b with
       | .cells e' l=>match Nat.beq e' e,Nat.beq n c,Nat.beq (lenL l) (n * size),memN i fr with
        |true,true,true,false=>(n+k) * bytes<=70368744177664/\dvsK ks l (fun ds fr'=>match memN i fr' with
         |false=>uc fr ks (fun ks=>uc fr' ks (fun ks=>jf ks i .gone (fun ks=>ky ks (.row e size (n+k) .no (catF n (qx ds size) g)) K)))
         |true=>False)
        |_,_,_,_=>False
       |_=>False)
      |_=>False)))
     |false=>False
    |none=>False
   |_=>False
  |_,_=>False
 |_=>False
def idxR:List (List DV × Nat × (Nat->List DV))->List DV->Nat->Option (Nat × Nat × (Nat->List DV))
 |[],_,_=>none
 |(k,n,f) :: l,key,i=>if jg key k then some (i,n,f) else idxR l key (i+1)
def opnM:List (List DV × List SV)->List DV->List SV->List (List DV × List SV) × List SV × Nat
 |[],key,z=>([(key,z)],z,0)
 |(k,v) :: l,key,z=>if jg key k then ((k,v) :: l,v,0) else ((k,v) :: (opnM l key z).1,(opnM l key z).2.1,(opnM l key z).2.2+1)
def putQ:List (List DV × List SV)->Nat->List SV->List (List DV × List SV)
 |[],_,_=>[]
 |(k,_) :: l,0,vs=>(k,vs) :: l
 |p :: l,q+1,vs=>p :: putQ l q vs
def putR:List (List DV × Nat × (Nat->List DV))->Nat->Nat->(Nat->List DV)->List (List DV × Nat × (Nat->List DV))
 |[],_,_,_=>[]
 |(k,_) :: l,0,n,f=>(k,n,f) :: l
 |p :: l,q+1,n,f=>p :: putR l q n f
def datR(sz:Nat):List (List DV × Nat × (Nat->List DV))->List (List DV × List SV)
 |[]=>[]
 |(k,n,f) :: l=>(k,[.d (.sl false n sz f)]) :: datR sz l
def zb3:Op->Bool
 | .mapEntry _ _ _=>true
 | .entryStore _ _ _ _=>true
 | .range _ _=>true
 | .next _ _=>true
 | .entry _=>true
 |_=>false
def sev(TT:Nat->Option TI)(ts:List SV)(ks:List KB)(o:Op)(K:SV->List KB->Prop):Prop :=
 match o with
 | .mapEntry t m k =>
  match TT t with
  |some ⟨_,_,_,_,.map kt et,_⟩=>match TT kt,TT et with
   |some ⟨_,_,ka,_,kd,eqk⟩,some ⟨_,_,ea,zero,_,_⟩=>valK ts k (fun key=>keyK (keks ka kd eqk) ka key (fun ds=>valK ts m (fun m=>match m with
    | .map b=>qp ks b (fun kb=>match kb with
     | .mapx eks ka' ea' l .free=>match ekEq (keks ka kd eqk) eks,bEq ka ka',bEq ea ea' with
      |true,true,true=>∃ l' vs q,opnM l ds zero=(l',vs,q)/\k6 ea vs (fun v=>∀ s,jf ks b (.mapx eks ka' ea' l' (.opn q s)) (fun ks'=>K (.tup [v,.d (.int .i64 s)]) ks'))
      |_,_,_=>False
     | .mapr eks ka' e sz l .free=>match ekEq (keks ka kd eqk) eks,bEq ka ka',ea with
      |true,true,false=>∃ r,idxR l ds 0=r/\(match r with
       |some (q,n,f)=>∀ s,jf ks b (.mapr eks ka' e sz l (.opn q s)) (fun k1=>ky k1 (.row e sz n .no f) (fun v k2=>K (.tup [v,.d (.int .i64 s)]) k2))
       |none=>k6 false zero (fun v=>∀ s l',l++[(ds,0,fun _=>[])]=l'->jf ks b (.mapr eks ka' e sz l' (.opn l.length s)) (fun k1=>K (.tup [v,.d (.int .i64 s)]) k1)))
      |_,_,_=>False
     |_=>False)
    |_=>False)))
   |_,_=>False
  |_=>False
 | .entryStore t m s x =>
  match TT t with
  |some ⟨_,_,_,_,.map _ et,_⟩=>match TT et with
   |some ⟨size,_,ea,_,_,_⟩=>valK ts s (fun s=>valK ts x (fun v=>valK ts m (fun m=>match m,s with
    | .map b,.d (.int .i64 s)=>qp ks b (fun kb=>match kb with
     | .mapx eks ka ea' l (.opn q s')=>match bEq ea ea' with
      |true=>s=s'/\qp4 ea v (fun vs=>match Nat.beq (lenL vs) size with
       |true=>∃ l',putQ l q vs=l'/\jf ks b (.mapx eks ka ea' l' .free) (fun ks'=>K .any ks')
       |false=>False)
      |false=>False
     | .mapr eks ka e sz l (.opn q s')=>match v with
      | .all j=>qp ks j (fun r=>match r with
       | .row e' sz' n z f=>match Nat.beq e' e,Nat.beq sz' sz with
        |true,true=>(s=s'/\(z = .no\/0<n))/\∃ l',putR l q n f=l'/\jf ks j .gone (fun k1=>jf k1 b (.mapr eks ka e sz l' .free) (fun ks'=>K .any ks'))
        |_,_=>False
       |_=>False)
      |_=>False
     |_=>False)
    |_,_=>False)))
   |none=>False
  |_=>False
 | .range t x =>
  match TT t with
  |some ⟨_,_,_,_,.map _ _,_⟩=>valK ts x (fun x=>match x with
   | .map b=>qp ks b (fun kb=>match kb with
    | .mapx eks ka ea l .free=>∀ bs c rem,bs.length=l.length->List.range l.length=rem->jf ks b (.mapx eks ka ea l (.born bs c)) (fun k1=>uh k1 (.iter b bs c rem bs.length) (fun k2=>wv k1 0 (fun j=>K (.ptr j 0) k2)))
    |_=>False)
   |_=>False)
  |_=>False
 | .next it str =>
  match str with
  |true=>False
  |false=>valK ts it (fun it=>match it with
   | .ptr j 0=>qp ks j (fun kb=>match kb with
    | .iter i bs c rem _=>qp ks i (fun mb=>match mb with
     | .mapx _ ka ea l (.born bs' c')=>(bs=bs'/\c=c')/\(∀ q,q ∈ rem->∃ kd vd,l[q]? = some (kd,vd)/\k6 ka (mapD kd) (fun kv=>k6 ea vd (fun vv=>∀ rem',rem.erase q=rem'->jf ks j (.iter i bs c rem' q) (fun ks'=>K (.tup [.d .tt,kv,vv]) ks'))))/\(rem=[]->K (.tup [.d .ff]) ks)
     |_=>False)
    |_=>False)
   |_=>False)
 | .entry it=>valK ts it (fun it=>match it with
  | .ptr j 0=>qp ks j (fun kb=>match kb with
   | .iter i bs c _ lst=>qp ks i (fun mb=>match mb with
    | .mapx _ ka ea l (.born bs' c')=>(bs=bs'/\c=c')/\∃ kd vd,l[lst]? = some (kd,vd)/\k6 ka (mapD kd) (fun kv=>k6 ea vd (fun vv=>K (.tup [kv,vv]) ks))
    |_=>False)
   |_=>False)
  |_=>False)
 |_=>False
def x5:Op->Bool
 | .alloc _=>true
 | .box _ _=>true
 | .store _ _ _=>true
 | .buildSlice _ _ _=>true
 | .makeSlice _ _ _=>true
 | .makeMap _ _=>true
 | .mapUpdate _ _ _ _=>true
 | .call ⟨.builtin .append,_,_⟩=>true
 | .call ⟨.builtin .copy,_,_⟩=>true
 | .call ⟨.builtin .unsafeString,_,_⟩=>true
 | .call ⟨.builtin .clear,_,_⟩=>true
 | .call ⟨.builtin .delete,_,_⟩=>true
 |_=>false
def wm(TT:Nat->Option TI):Op->Bool
 | .convert _ dst _=>match TT dst with
  |some ⟨_,_,_,_,.slice _,_⟩=>true
  |_=>false
 |_=>false
def qf6:SV:=.v (.tuple #[])
def j7(d:Option Tmp)(v:SV)(ts:List SV)(K:List SV->Prop):Prop :=
 match d with
 |none=>K ts
 |some t=>setK ts t v K
def va:Op->Bool
 | .alloc _=>true
 | .box _ _=>true
 | .buildSlice _ _ _=>true
 | .makeSlice _ _ _=>true
 | .convert s d _=>match Nat.beq s d with
  |true=>false
  |false=>true
 |_=>false
def qa9(o:Op):Bool :=
 match va o with
 |true=>false
 |false=>true
def jm:List Nat->List KB->List KB
 |[],ks=>ks
 |i :: l,ks=>jm l (setB ks i .gone)
def qn5(ks:List KB)(s:SV)(K:SV->List Nat->Prop):Prop :=
 match s with
 | .all _=>dvK ks s (fun d fr=>K (.d d) fr)
 | .row _ _ _=>dvK ks s (fun d fr=>K (.d d) fr)
 | .cs _ _ _ _=>dvK ks s (fun d fr=>K (.d d) fr)
 |s=>K s []
def qi9(ks:List KB):List SV->(List SV->List Nat->Prop)->Prop
 |[],K=>K [] []
 |a :: l,K=>qn5 ks a (fun s fr=>qi9 ks l (fun l' fr'=>appN fr fr' (fun r=>K (s :: l') r)))
def qv8(TT:Nat->Option TI)(ks:List KB)(s:SV)(ty:Option TypeId)(K:SV->List Nat->Prop):Prop :=
 match s with
 | .agg l=>qi9 ks l (fun l' fr=>K (.agg l') fr)
 | .cs i off n c=>match ty with
  |some t=>match TT t with
   |some ⟨_,_,_,_,.slice e,_⟩=>match TT e with
    |some ⟨size,_,_,_,_,_⟩=>qp ks i (fun b=>match b with
     | .row _ sz m _ f=>match Nat.beq size sz with
      |true=>(off=Nat.div off size * size/\Nat.div off size+n<=m/\0<m)/\K (.d (.sl false n size (fun j=>f (Nat.div off size+j)))) [i]
      |false=>False
     |_=>srcK ks size (.cs i off n c) (fun n g fr=>K (.d (.sl false n size g)) (i :: fr)))
    |none=>False
   |_=>False
  |none=>False
 |s=>qn5 ks s K
def xv2:List TypeId->Option TypeId
 |[]=>none
 |t :: _=>some t
def xu4:List TypeId->List TypeId
 |[]=>[]
 |_ :: l=>l
def ve(TT:Nat->Option TI)(ks:List KB):List SV->List TypeId->(List SV->List Nat->Prop)->Prop
 |[],_,K=>K [] []
 |a :: l,tys,K=>qv8 TT ks a (xv2 tys) (fun s fr=>ve TT ks l (xu4 tys) (fun l' fr'=>appN fr fr' (fun r=>K (s :: l') r)))
inductive CallStop [Dr] (P:Program) (TT:Nat->Option TI) (f:FuncId) (as:List SV) (tys:List TypeId) (ks:List KB) (K:Bool->SV->List KB->Prop):Prop where
 |data (r:SV):FnOk P f as r->xj as=true->closed r=true->K false r ks->CallStop P TT f as tys ks K
 |view (r:SV) (as':List SV) (fr:List Nat):FnOk P f as' r->ve TT ks as tys (fun l t=>l=as'/\t=fr)->xj as'=true->scalar r=true->K false r ks->CallStop P TT f as tys ks K
 |fresh (r:SV) (as':List SV) (fr:List Nat):zb9 P f as' r->ve TT ks as tys (fun l t=>l=as'/\t=fr)->xj as'=true->closed r=true->K false r ks->CallStop P TT f as tys ks K
 |frz (r:SV) (as':List SV) (fr:List Nat):FnOk P f as' r->ve TT ks as tys (fun l t=>l=as'/\t=fr)->xj as'=true->closed r=true->K true r (jm fr ks)->CallStop P TT f as tys ks K
 |mem (r:SV) (ks':List KB):COk P f as ks (fun s k=>s=r/\k=ks')->K true r ks'->CallStop P TT f as tys ks K
def cev[Dr](P:Program)(TT:Nat->Option TI)(ts:List SV)(ks:List KB)(g:Operand)(args:List Operand)(tys:List TypeId)(K:Bool->SV->List KB->Prop):Prop :=
 valK ts g (fun g=>match g with
  | .fn f caps=>qf5 ts args (fun as=>appK as caps (fun as=>CallStop P TT f as tys ks K))
  |_=>False)
def exec[Dr](P:Program)(TT:Nat->Option TI)(o:Oper)(ts:List SV)(ks:List KB)(K:Bool->List SV->List KB->Prop):Prop :=
 match o.op with
 | .call ⟨.value g,args,tys⟩=>cev P TT ts ks g args.toList tys.toList (fun h v ks'=>j7 o.dst v ts (fun ts'=>K h ts' ks'))
 |op=>match x5 op || wm TT op with
  |true=>mev TT ts ks op (fun v ks'=>j7 o.dst v ts (fun ts'=>K (qa9 op) ts' ks'))
  |false=>pev P TT ts ks op (fun v=>j7 o.dst v ts (fun ts'=>K false ts' ks))
def qg6:List Oper->Nat->Option Tmp
 |[],_=>none
 |o :: _,0=>o.dst
 |_ :: l,n+1=>qg6 l n
def ww:List Nat->List SV->List SV
 |[],l=>l
 |t :: ts,l=>ww ts (setT l t .any)
def u6:List Oper->List Nat
 |[]=>[]
 |o :: r=>match o.dst with
  |some t=>t :: u6 r
  |none=>u6 r
def qa7:Code->List Nat
 | .region _ ops _=>u6 ops.toList
 | .seq a b=>qa7 a++qa7 b
 | .cond _ a b=>qa7 a++qa7 b
 | .block _ a=>qa7 a
 | .loop a=>qa7 a
 | .scope a=>qa7 a
 |_=>[]
def SubV(a:SV):SV->Prop
 | .any=>True
 | .np i n=>match a with
  | .ap j m off=>j=i/\m=n/\off=0
  | .v (.pointer none)=>n=0
  |a=>a = .np i n
 | .d (.bool c)=>match a with
  | .d .tt=>c=true
  | .d .ff=>c=false
  |a=>a = .d (.bool c)
 |b=>a=b
def SubL:List SV->List SV->Prop
 |[],[]=>True
 |a :: l,b :: m=>SubV a b/\SubL l m
 |_,_=>False
def SubZ(n:Nat):Z->Z->Prop
 |_,.may=>True
 | .no,.no=>True
 | .iff,.iff=>True
 | .may,.iff=>0<n
 |_,_=>False
def SubM:List (List DV × List SV)->List (List DV × List SV)->Prop
 |l,m=>l=m
def SubR:List (List DV × Nat × (Nat->List DV))->List (List DV × Nat × (Nat->List DV))->Prop
 |[],[]=>True
 |(k,n,f) :: l,(k',n',f') :: m=>(k=k'/\n=n'/\∀ i,i<n->f i=f' i)/\SubR l m
 |_,_=>False
def SubC(dom:Nat->Prop):List Col->List Col->Prop
 |[],[]=>True
 |c :: l,c' :: m=>(∀ n,dom n->c.at n=c'.at n)/\SubC dom l m
 |_,_=>False
def SubK:KB->KB->Prop
 |_,.gone=>True
 | .cells t l,.cells t' l'=>t=t'/\SubL l l'
 | .row e sz n z f,.row e' sz' n' z' f'=>e=e'/\sz=sz'/\n=n'/\SubZ n z z'/\∀ i,i<n->f i=f' i
 | .rows e sz n f,.rows e' sz' n' f'=>e=e'/\sz=sz'/\n=n'/\∀ i,i<n->SubL (f i) (f' i)
 | .mapx eks ka ea l st,.mapx eks' ka' ea' l' st'=>match st' with
  | .free=>(eks=eks'/\ka=ka'/\ea=ea')/\SubM l l'
  |st'=>((eks=eks'/\ka=ka'/\ea=ea')/\SubM l l')/\st=st'
 | .mapr eks ka e sz l st,.mapr eks' ka' e' sz' l' st'=>((eks=eks'/\ka=ka'/\e=e'/\sz=sz')/\SubR l l')/\st=st'
 | .iter i bs c rem lst,.iter i' bs' c' rem' lst'=>i=i'/\bs=bs'/\c=c'/\rem=rem'/\lst=lst'
 | .arena t dom cols,.arena t' dom' cols'=>t=t'/\(∀ n,dom n↔dom' n)/\SubC dom cols cols'
 | .obj φ,.obj φ'=>∀ w M L fp,φ w M L fp->js9 φ'/\φ' w M L fp
 | .loop l ps a b st,.loop l' ps' a' b' st'=>SubL l l'/\ps=ps'/\a=a'/\b=b'/\st=st'
 |_,_=>False
def SubB:List KB->List KB->Prop
 |[],[]=>True
 |a :: l,b :: m=>SubK a b/\SubB l m
 |_,_=>False
def posN(i:Nat):List Nat->Nat->Option Nat
 |[],_=>none
 |a :: l,p=>match Nat.beq a i with
  |true=>some p
  |false=>posN i l (p+1)
mutual
def renV(ρ:List Nat):SV->SV
 | .ptr i off=>match posN i ρ 0 with
  |some p=>.ptr p off
  |none=>.any
 | .aptr i off len ix=>match posN i ρ 0 with
  |some p=>.aptr p off len ix
  |none=>.any
 | .all i=>match posN i ρ 0 with
  |some p=>.all p
  |none=>.any
 | .row i lo n=>match posN i ρ 0 with
  |some p=>.row p lo n
  |none=>.any
 | .cs i off n c=>match posN i ρ 0 with
  |some p=>.cs p off n c
  |none=>.any
 | .rptr i j off sz=>match posN i ρ 0 with
  |some p=>.rptr p j off sz
  |none=>.any
 | .map i=>match posN i ρ 0 with
  |some p=>.map p
  |none=>.any
 | .ap i n off=>match posN i ρ 0 with
  |some p=>.ap p n off
  |none=>.any
 | .np i n=>match posN i ρ 0 with
  |some p=>.np p n
  |none=>.any
 | .yl i=>match posN i ρ 0 with
  |some p=>.yl p
  |none=>.any
 | .agg l=>.agg (renL ρ l)
 | .tup l=>.tup (renL ρ l)
 | .fn f l=>.fn f (renL ρ l)
 | .d x=>.d x
 | .dptr c off=>.dptr c off
 | .ln n=>.ln n
 | .err b=>.err b
 | .v x=>.v x
 | .any=>.any
def renL(ρ:List Nat):List SV->List SV
 |[]=>[]
 |a :: l=>renV ρ a :: renL ρ l
end
def renM(ρ:List Nat):List (List DV × List SV)->List (List DV × List SV)
 |[]=>[]
 |(k,v) :: l=>(k,renL ρ v) :: renM ρ l
def renC(ρ:List Nat):Col->Col
 | .np i f=>match posN i ρ 0 with
  |some p=>.np p f
  |none=>.any
 |c=>c
def qj7(ρ:List Nat):List Col->List Col
 |[]=>[]
 |c :: l=>renC ρ c :: qj7 ρ l
def renK(ρ:List Nat):KB->KB
 | .cells t l=>.cells t (renL ρ l)
 | .rows e sz n f=>.rows e sz n (fun i=>renL ρ (f i))
 | .mapx eks ka ea l st=>.mapx eks ka ea (renM ρ l) st
 | .iter i bs c rem lst=>match posN i ρ 0 with
  |some p=>.iter p bs c rem lst
  |none=>.gone
 | .arena t dom cols=>.arena t dom (qj7 ρ cols)
 | .loop l ps a b st=>.loop (renL ρ l) ps a b st
 |k=>k
def renB(ρ:List Nat)(ks:List KB):List Nat->List KB
 |[]=>[]
 |o :: l=>renK ρ (getB ks o) :: renB ρ ks l
def okN(m:Nat):List Nat->Bool
 |[]=>true
 |a :: l=>match memN a l,Nat.ble (a+1) m with
  |false,true=>okN m l
  |_,_=>false
def qj9:Nat->Nat->List Nat->Bool
 |0,_,_=>true
 |_+1,_,[]=>false
 |n+1,i,a :: l=>match Nat.beq a i with
  |true=>qj9 n (i+1) l
  |false=>false
def Subs(nb:Nat)(ρ:List Nat)(ts:List SV)(ks:List KB)(ts':List SV)(ks':List KB):Prop :=
 match okN (lenB ks) ρ,qj9 nb 0 ρ with
 |true,true=>SubL (renL ρ ts) ts'/\SubB (renB ρ ks ρ) ks'
 |_,_=>False
def qf2:List Nat->List SV->(List SV->Prop)->Prop
 |[],l,k=>k l
 |t :: ts,l,k=>setK l t .any (fun l'=>qf2 ts l' k)
def jf8:List (Nat × SV)->List SV->(List SV->Prop)->Prop
 |[],l,k=>k l
 |(t,v) :: ts,l,k=>setK l t v (fun l'=>jf8 ts l' k)
def je4:List (Nat × KB)->List KB->(List KB->Prop)->Prop
 |[],l,k=>k l
 |(t,v) :: ts,l,k=>jf l t v (fun l'=>je4 ts l' k)
def qb9(body:Code)(ts:List SV)(ks:List KB)(u:List (Nat × SV))(k:List (Nat × KB))(c:List SV->List KB->Prop):Prop :=
 qf2 (qa7 body) ts (fun l=>jf8 u l (fun ts'=>je4 k ks (fun ks'=>c ts' ks')))
inductive It where
 |code (c:Code)
 |ops (draw:Bool) (hs:List Bool) (all rest:List Oper)
 |blk (id:Nat)
 |scp
 |lp (J:List SV->List KB->Prop)
 |again (body:Code)
def qg0(id:Nat):List It->Option (List It)
 |[]=>none
 | .blk i :: r=>match Nat.beq i id with
  |true=>some r
  |false=>qg0 id r
 |_ :: r=>qg0 id r
def xk:List Operand->List Nat
 |[]=>[]
 | .tmp t :: r=>t :: xk r
 |_ :: r=>xk r
def kq(all:List Oper)(o:Oper):List Nat :=
 match o.guard with
 |none=>xk o.op.operands.toList
 |some (j,_)=>match qg6 all j with
  |some t=>t :: xk o.op.operands.toList
  |none=>xk o.op.operands.toList
def getN:List Nat->Nat->Nat
 |[],_=>0
 |a :: _,0=>a
 |_ :: l,n+1=>getN l n
def je9{α:Sort 1}(n:Nat)(k:Nat->α):α :=
 match n with
 |0=>k 0
 |m+1=>k (m+1)
def qc4(acc:List Nat)(i:Nat):List Edge->Nat
 |[]=>0
 |e :: r=>match Region.binds .any e with
  |true=>Nat.lor (Nat.lor (Nat.shiftLeft 1 e.on) (getN acc (i - 1 - e.on))) (qc4 acc i r)
  |false=>qc4 acc i r
def onLt(i:Nat):List Edge->Bool
 |[]=>true
 |e :: r=>match Region.binds .any e with
  |true=>match Nat.ble (e.on+1) i with
   |true=>onLt i r
   |false=>false
  |false=>onLt i r
def jf2(m mask:Nat):Bool:=Nat.beq (Nat.land mask (2 ^ m - 1)) (2 ^ m - 1)
def qe1:Option Tmp->Option Tmp->Bool
 |some a,some b=>Nat.beq a b
 |_,_=>false
def qf1:Option Tmp->List Nat->Bool
 |none,_=>true
 |some d,l=>match memN d l with
  |true=>false
  |false=>true
def apart(all:List Oper)(x y:Oper):Bool :=
 match qf1 x.dst (kq all y) with
 |true=>qf1 y.dst (kq all x)
 |false=>false
def yy4(all:List Oper)(mask i:Nat)(x y:Oper):Bool :=
 match qe1 x.dst y.dst with
 |true=>false
 |false=>match Nat.testBit mask i with
  |true=>true
  |false=>apart all x y
def jd3(all:List Oper)(mask:Nat)(y:Oper):List (Nat × Oper)->Bool
 |[]=>true
 |(i,x) :: r=>match yy4 all mask i x y with
  |true=>jd3 all mask y r
  |false=>false
def qf3(all:List Oper):List Oper->List Bool->List Nat->Nat->Nat->List (Nat × Oper)->Bool
 |[],[],_,_,_,_=>true
 |o :: os,h :: hs,acc,i,m,seg=>je9 (qc4 acc i o.after.toList) (fun mask=>match onLt i o.after.toList,jf2 m mask with
  |true,true=>match h with
   |true=>match jf2 i mask with
    |true=>je9 (i+1) (fun i'=>qf3 all os hs (mask :: acc) i' i' [])
    |false=>false
   |false=>match jd3 all mask o seg with
    |true=>je9 (i+1) (fun i'=>qf3 all os hs (mask :: acc) i' m ((i,o) :: seg))
    |false=>false
  |_,_=>false)
 |_,_,_,_,_,_=>false
def revB:List Bool->List Bool->List Bool
 |[],m=>m
 |a :: l,m=>revB l (a :: m)
def kh(all:List Oper)(hs:List Bool):Bool:=qf3 all all hs [] 0 0 []
def resK(TT:Nat->Option TI)(ts:List SV)(ks:List KB):List ResultVar->(List SV->Prop)->Prop
 |[],c=>c []
 | .tmp t :: r,c=>ug ts t (fun v=>resK TT ts ks r (fun vs=>c (v :: vs)))
 | .cell a t :: r,c=>match TT t with
  |none=>False
  |some ⟨size,_,agg,_,_,_⟩=>ug ts a (fun p=>match p with
   | .ptr i off=>qp ks i (fun b=>match b with
    | .cells _ l=>wd agg size l off (fun v=>resK TT ts ks r (fun vs=>c (v :: vs)))
    |_=>False)
   |_=>False)
def retV:List SV->SV
 |[s]=>s
 |l=>.tup l
def anys:Nat->List SV
 |0=>[]
 |n+1=>.any :: anys n
structure Inl where
 nargs:Nat
 extra:Nat
 results:List ResultVar
 body:Code
def subN:List Nat->List Nat->Bool
 |[],_=>true
 |a :: l,m=>match memN a m with
  |true=>subN l m
  |false=>false
def qt6(ks:List KB)(fr:List Nat):List (Nat × TypeId × List SV)->Prop
 |[]=>True
 |(j,t,l') :: r=>(∃ l,getB ks j = .cells t l/\qi9 ks l (fun m f=>m=l'/\subN f fr=true)/\memN j fr=false)/\qt6 ks fr r
def qi4:List KB->List (Nat × TypeId × List SV)->List KB
 |ks,[]=>ks
 |ks,(j,t,l') :: r=>qi4 (setB ks j (.cells t l')) r
inductive SeqStop [Dr] (P:Program) (TT:Nat->Option TI) (f:FuncId) (as:List SV) (tys:List TypeId):List KB->(SV->List KB->Prop)->Prop where
 |one {ks:List KB} {K:SV->List KB->Prop}:CallStop P TT f as tys ks (fun _ v k=>K v k)->SeqStop P TT f as tys ks K
 |rel {ks:List KB} {K:SV->List KB->Prop} (R:SV->List KB->Prop):COk P f as ks R->(∀ r ks',R r ks'->K r ks')->SeqStop P TT f as tys ks K
 |still {ks:List KB} {K:SV->List KB->Prop} (fr:List Nat) (js:List (Nat × TypeId × List SV)) (r:SV) (as':List SV):qt6 ks fr js->ve TT ks as tys (fun l t=>l=as'/\subN t fr=true)->FnOk P f as' r->xj as'=true->closed r=true->K r (qi4 (jm fr ks) js)->SeqStop P TT f as tys ks K
 |fz {ks:List KB} {K:SV->List KB->Prop} (fr:List Nat) (js:List (Nat × TypeId × List SV)):qt6 ks fr js->SeqStop P TT f as tys (qi4 (jm fr ks) js) K->SeqStop P TT f as tys ks K
theorem oD [Dr]{P:Program}{TT:Nat->Option TI}{f:FuncId}{as:List SV}{tys:List TypeId}{ks:List KB}{K:SV->List KB->Prop}{r:SV}(a:FnOk P f as r)(b:xj as=true)(c:closed r=true)(d:K r ks):SeqStop P TT f as tys ks K:=.one (.data r a b c d)
inductive LoopStop (nb:Nat) (body:Code) (ts:List SV) (ks:List KB) (round:(List SV->List KB->Prop)->List SV->List KB->Prop) (once:Prop) (again:List SV->List KB->Prop):Prop where
 |inv (ι:Type) (ok:ι->Prop) (u:ι->List (Nat × SV)) (k:ι->List (Nat × KB)) (μ:ι->Nat) :
  (∃ i ρ,ok i/\qb9 body ts ks (u i) (k i) (fun ts' ks'=>Subs nb ρ ts ks ts' ks')) ->
  (∀ i,ok i->qb9 body ts ks (u i) (k i) (fun ts1 ks1=>round (fun ts2 ks2=>∃ j ρ,ok j/\μ j<μ i/\qb9 body ts ks (u j) (k j) (fun ts' ks'=>Subs nb ρ ts2 ks2 ts' ks')) ts1 ks1))->LoopStop nb body ts ks round once again
 |once:once->LoopStop nb body ts ks round once again
 |nilT (t:Nat) (e:TypeId) (sz:Nat) (f:Nat->List DV) (sz':Nat) (f':Nat->List DV):getT ts t = .d (.sl true 0 sz' f')->again (setT ts t (.all (lenB ks))) (addB ks (.row e sz 0 .iff f))->LoopStop nb body ts ks round once again
 |nilC (i j:Nat) (e:TypeId) (sz:Nat) (f:Nat->List DV) (sz':Nat) (f':Nat->List DV) (t:TypeId) (l:List SV):getB ks i = .cells t l->getT l j = .d (.sl true 0 sz' f') ->
  again ts (addB (setB ks i (.cells t (setT l j (.all (lenB ks))))) (.row e sz 0 .iff f))->LoopStop nb body ts ks round once again
 |rowsD (i:Nat) (eks:List EK) (ka:Bool) (e:TypeId) (sz:Nat) (l:List (List DV × Nat × (Nat->List DV))):getB ks i = .mapr eks ka e sz l .free->again ts (setB ks i (.mapx eks ka false (datR sz l) .free))->LoopStop nb body ts ks round once again
 |toR (i:Nat) (eks:List EK) (ka:Bool) (e:TypeId) (sz:Nat):getB ks i = .mapx eks ka false [] .free->again ts (setB ks i (.mapr eks ka e sz [] .free))->LoopStop nb body ts ks round once again
 |pad:again ts (addB ks .gone)->LoopStop nb body ts ks round once again
 |csT (t i:Nat) (e:TypeId) (sz:Nat) (f:Nat->List DV):getT ts t = .cs i 0 0 0->getB ks i = .cells e []->again (setT ts t (.all (lenB ks))) (addB (setB ks i .gone) (.row e sz 0 .no f))->LoopStop nb body ts ks round once again
 |moveC (i j q:Nat) (t:TypeId) (l:List SV) (e:TypeId) (sz n:Nat) (z:Z) (f:Nat->List DV):getB ks j = .cells t l->getT l q = .all i->getB ks i = .row e sz n z f ->
  again ts (addB (setB (setB ks j (.cells t (setT l q (.all (lenB ks))))) i .gone) (.row e sz n z f))->LoopStop nb body ts ks round once again
structure Nb where
 n:Nat
 rd:Option Nat
def jg1:List SV->List Tmp->List SV->(List SV->Prop)->Prop
 |l,[],[],k=>k l
 |l,t :: ps,a :: as,k=>setK l t a (fun l'=>jg1 l' ps as k)
 |_,_,_,_=>False
def toK(ks:List KB)(i:Nat)(st:RS)(K:List KB->Prop):Prop :=
 qp ks i (fun b=>match b with
  | .loop l ps a c _=>jf ks i (.loop l ps a c st) K
  |_=>False)
def js0(rec:Nb->List It->List SV->List KB->(Exit->List SV->List KB->Prop)->Prop)(i:Nat)(as:List SV)(ks:List KB)(K:SV->List KB->Prop):Prop :=
 qp ks i (fun b=>match b with
  | .loop tc ps asg body st=>match st with
   | .ready=>jg1 tc ps as (fun t1=>wv ks 0 (fun nb=>rec ⟨nb,some i⟩ [.code asg] t1 ks (fun e t2 k2=>match e with
    | .normal=>qp k2 i (fun b=>match b with
     | .loop tc' ps' asg' body' st'=>match st' with
      | .ready=>jf k2 i (.loop tc' ps' asg' body' .busy) (fun k3=>rec ⟨nb,some i⟩ [.code body] t2 k3 (fun e _ k4=>match e with
       | .normal=>toK k4 i .ready (fun k5=>K (.d .tt) k5)
       | .ret=>toK k4 i (.done .ret) (fun k5=>K (.d .ff) k5)
       | .exit id=>toK k4 i (.done (.exit id)) (fun k5=>K (.d .ff) k5)
       |_=>False))
      |_=>False
     |_=>False)
    |_=>False)))
   |_=>False
  |_=>False)
def jt6(nb:Nb)(ks:List KB)(K:Prop):Prop :=
 match nb.rd with
 |none=>K
 |some q=>qp ks q (fun b=>match b with
  | .loop _ _ _ _ _=>K
  |_=>False)
def qp2[Dr](P:Program)(TT:Nat->Option TI)(IN:Nat->Option Inl)(rec:Nb->List It->List SV->List KB->(Exit->List SV->List KB->Prop)->Prop)(o:Oper)(ts:List SV)(ks:List KB)(K:List SV->List KB->Prop):Prop :=
 match o.op with
 | .call ⟨.value g,args,tys⟩=>valK ts g (fun g=>match g with
  | .fn f caps=>qf5 ts args.toList (fun as=>appK as caps (fun as=>match IN f with
   |some ⟨nargs,extra,results,body⟩=>match Nat.beq (lenL as) nargs with
    |true=>appK as (anys extra) (fun ts1=>wv ks 0 (fun nb=>rec ⟨nb,none⟩ [.code body] ts1 ks (fun e ts2 ks2=>match e with
     | .normal=>resK TT ts2 ks2 results (fun vs=>j7 o.dst (retV vs) ts (fun ts'=>K ts' ks2))
     | .ret=>resK TT ts2 ks2 results (fun vs=>j7 o.dst (retV vs) ts (fun ts'=>K ts' ks2))
     |_=>False)))
    |false=>False
   |none=>SeqStop P TT f as tys.toList ks (fun v ks'=>j7 o.dst v ts (fun ts'=>K ts' ks'))))
  | .yl i=>qf5 ts args.toList (fun as=>js0 rec i as ks (fun v ks'=>j7 o.dst v ts (fun ts'=>K ts' ks')))
  |_=>False)
 |op=>match zb3 op with
  |true=>sev TT ts ks op (fun v ks'=>j7 o.dst v ts (fun ts'=>K ts' ks'))
  |false=>match x5 op || wm TT op with
   |true=>mev TT ts ks op (fun v ks'=>j7 o.dst v ts (fun ts'=>K ts' ks'))
   |false=>pev P TT ts ks op (fun v=>j7 o.dst v ts (fun ts'=>K ts' ks))
def jr7(t:TypeId):List KB->Nat->Option Nat
 |[],_=>none
 | .arena t' _ _ :: l,i=>match Nat.beq t' t with
  |true=>some i
  |false=>jr7 t l (i+1)
 |_ :: l,i=>jr7 t l (i+1)
def qk2(ks:List KB):List SV->Option (Nat × Nat)
 |[]=>none
 | .ptr k _ :: l=>match getB ks k with
  | .cells t _=>match jr7 t ks 0 with
   |some i=>some (k,i)
   |none=>qk2 ks l
  |_=>qk2 ks l
 |_ :: l=>qk2 ks l
def yq3:List KB->Bool
 |[]=>false
 | .arena _ _ _ :: _=>true
 |_ :: l=>yq3 l
def absF(ts:List SV)(ks:List KB):Option (Nat × Nat) :=
 match yq3 ks with
 |true=>qk2 ks ts
 |false=>none
mutual
def subV(k i n:Nat):SV->SV
 | .ptr j off=>match Nat.beq j k with
  |true=>.ap i n off
  |false=>.ptr j off
 | .agg l=>.agg (subL k i n l)
 | .tup l=>.tup (subL k i n l)
 | .fn f l=>.fn f (subL k i n l)
 |s=>s
def subL(k i n:Nat):List SV->List SV
 |[]=>[]
 |a :: l=>subV k i n a :: subL k i n l
end
mutual
def zc(k i n:Nat)(s:SV)(K:SV->Prop):Prop :=
 match s with
 | .ptr j off=>match Nat.beq j k with
  |true=>K (.ap i n off)
  |false=>K (.ptr j off)
 | .agg l=>vz k i n l (fun r=>K (.agg r))
 | .tup l=>vz k i n l (fun r=>K (.tup r))
 | .fn f l=>vz k i n l (fun r=>K (.fn f r))
 |s=>K s
def vz(k i n:Nat)(l:List SV)(K:List SV->Prop):Prop :=
 match l with
 |[]=>K []
 |a :: l=>zc k i n a (fun s=>vz k i n l (fun r=>K (s :: r)))
end
def subK(k i n:Nat):KB->KB
 | .cells t l=>.cells t (subL k i n l)
 | .loop l ps a b st=>.loop (subL k i n l) ps a b st
 |b=>b
def qo6(k i n:Nat):List KB->(List KB->Prop)->Prop
 |[],K=>K []
 | .cells t l :: r,K=>vz k i n l (fun l'=>qo6 k i n r (fun r'=>K (.cells t l' :: r')))
 | .loop l ps a b st :: r,K=>vz k i n l (fun l'=>qo6 k i n r (fun r'=>K (.loop l' ps a b st :: r')))
 |b :: r,K=>qo6 k i n r (fun r'=>K (b :: r'))
def absK(ts:List SV)(ks:List KB)(k i:Nat)(K:List SV->List KB->Prop):Prop :=
 qp ks k (fun b=>match b with
  | .cells t l=>qp ks i (fun b'=>match b' with
   | .arena t' dom cols=>match Nat.beq (lenL l) (lenC cols) && Nat.beq t t' with
    |true=>∀ n,n≠0->¬ dom n->vz k i n l (fun l'=>zu cols 0 n l' (fun cols'=>jf ks k .gone (fun k1=>jf k1 i (.arena t' (fun m=>m=n\/dom m) cols') (fun k2=>qo6 k i n k2 (fun k3=>vz k i n ts (fun ts'=>K ts' k3))))))
    |false=>False
   |_=>False)
  |_=>False)
def atB:List Bool->Nat->Bool
 |[],_=>false
 |a :: _,0=>a
 |_ :: l,n+1=>atB l n
def vk:List Bool->Nat->List Bool
 |[],_=>[]
 |_ :: l,0=>true :: l
 |a :: l,n+1=>a :: vk l n
def xx(done:List Bool):List Edge->Bool
 |[]=>true
 |e :: r=>match Region.binds .any e with
  |true=>match atB done e.on with
   |true=>xx done r
   |false=>false
  |false=>xx done r
def xw:List Oper->List Bool
 |[]=>[]
 |_ :: l=>false :: xw l
def allT:List Bool->Bool
 |[]=>true
 |true :: l=>allT l
 |false :: _=>false
def qi7(done:List Bool):Nat->List Oper->Bool
 |_,[]=>false
 |i,o :: os=>match atB done i with
  |true=>qi7 done (i+1) os
  |false=>match xx done o.after.toList with
   |true=>true
   |false=>qi7 done (i+1) os
def qg5(done:List Bool)(F:Nat->Oper->Prop):Nat->List Oper->Prop
 |_,[]=>True
 |i,o :: os=>match atB done i with
  |true=>qg5 done F (i+1) os
  |false=>match xx done o.after.toList with
   |true=>F i o/\qg5 done F (i+1) os
   |false=>qg5 done F (i+1) os
def yq8:List Edge->Bool
 |[]=>false
 |e :: r=>match Region.binds .any e with
  |true=>yq8 r
  |false=>true
def yx3:List Oper->Bool
 |[]=>false
 |o :: r=>match yq8 o.after.toList with
  |true=>true
  |false=>yx3 r
def xn5:Op->Bool
 | .store _ _ _=>true
 |_=>false
def jc5:List Oper->Bool
 |[]=>false
 |o :: r=>match xn5 o.op with
  |true=>true
  |false=>jc5 r
def ql5:List Oper->Nat
 |[]=>0
 |o :: r=>match o.op with
  | .call ⟨.value _,_,_⟩=>ql5 r+1
  |_=>ql5 r
def za4:Op->Bool
 | .call ⟨.builtin .append,_,_⟩=>true
 |_=>false
def js6:List Oper->Bool
 |[]=>false
 |o :: r=>match za4 o.op with
  |true=>true
  |false=>js6 r
def bldR(l:List Oper):Bool :=
 match Nat.ble 1 (ql5 l) with
 |true=>match js6 l with
  |true=>false
  |false=>true
 |false=>false
def zb7:List SV->Bool
 |[]=>true
 | .d _ :: l=>zb7 l
 |_ :: _=>false
def js1(ts:List SV):List (Nat × Operand)->Bool
 |[]=>true
 |(_,x) :: r=>match val ts x with
  | .d _=>js1 ts r
  | .agg l=>match zb7 l with
   |true=>js1 ts r
   |false=>false
  |_=>false
def useD(b:Bool)(ts:List SV)(op:Op):Bool :=
 match op with
 | .call ⟨.builtin .append,args,_⟩=>match args.toList with
  |[.tmp s,.tmp x]=>match getT ts s with
   | .cs _ 0 0 0=>match getT ts x with
    | .d (.sl _ _ _ _)=>true
    |_=>false
   |_=>false
  |_=>false
 | .buildSlice _ len parts=>match b with
  |true=>match Nat.ble 1 len with
   |true=>js1 ts parts.toList
   |false=>false
  |false=>false
 |_=>false
def wz(TT:Nat->Option TI)(ts:List SV)(op:Op)(K:SV->Prop):Prop :=
 match op with
 | .call ⟨.builtin .append,args,argTypes⟩ =>
  match args.toList,argTypes.toList with
  |[s,x],[st,xt]=>match TT st with
   |some ⟨_,_,_,_,.slice e,_⟩=>match TT e with
    |some ⟨size,bytes,_,_,_,_⟩=>match Nat.ble 1 size && (Nat.ble 1 bytes && qw3 TT xt) with
     |true=>valK ts s (fun s=>match s with
      | .cs _ 0 0 0=>valK ts x (fun x=>match x with
       | .d (.sl _ n sz f)=>match Nat.beq sz size with
        |true=>n * bytes<=70368744177664/\K (.d (.sl false n size f))
        |false=>False
       |_=>False)
      |_=>False)
     |false=>False
    |none=>False
   |_=>False
  |_,_=>False
 | .buildSlice t len parts =>
  match TT t with
  |some ⟨_,_,_,_,.slice e,_⟩=>match TT e with
   |some ⟨size,_,_,zero,_,_⟩=>match Nat.ble (len * size) 16777216 with
    |true=>repK zero len (fun cs=>fillS ts size cs parts.toList (fun cs'=>qc5 cs' (fun ds=>K (.d (.sl false len size (qx ds size))))))
    |false=>False
   |none=>False
  |_=>False
 |_=>False
def qp3[Dr](P:Program)(TT:Nat->Option TI)(b:Bool)(o:Oper)(ts:List SV)(ks:List KB)(K:Bool->List SV->List KB->Prop):Prop :=
 match useD b ts o.op with
 |true=>wz TT ts o.op (fun v=>j7 o.dst v ts (fun ts'=>K false ts' ks))
 |false=>exec P TT o ts ks K
def yz0:List Oper->List Bool
 |[]=>[]
 |o :: r=>(match x5 o.op with
  |true=>match za4 o.op with
   |true=>false
   |false=>qa9 o.op
  |false=>false) :: yz0 r
def hsOf:List Oper->List Bool
 |[]=>[]
 |o :: r=>(match x5 o.op with
  |true=>qa9 o.op
  |false=>false) :: hsOf r
def yy1:List Oper->Bool
 |[]=>true
 |o :: r=>match o.guard with
  |some _=>false
  |none=>match o.op with
   | .call ⟨.value _,_,_⟩=>false
   |_=>yy1 r
def ju2(t:Nat):List Oper->Bool
 |[]=>false
 |o :: r=>match o.op with
  | .call ⟨.value _,args,_⟩=>match memN t (xk args.toList) with
   |true=>true
   |false=>ju2 t r
  |_=>ju2 t r
def jd7(all:List Oper):List Oper->Bool
 |[]=>false
 |o :: r=>match o.op with
  | .load _ (.tmp t)=>match ju2 t all with
   |true=>true
   |false=>jd7 all r
  |_=>jd7 all r
def xv3:Bool->List Oper->Bool
 |false,_=>false
 |true,l=>match jc5 l with
  |true=>match jd7 l l with
   |true=>false
   |false=>match yx3 l with
    |true=>true
    |false=>match yy1 l with
     |true=>match kh l (hsOf l) with
      |true=>false
      |false=>true
     |false=>false
  |false=>false
def addE(o:Oper):Oper:={ o with after:=⟨⟨0,.data⟩ :: o.after.toList⟩ }
def mapE:List Oper->List Oper
 |[]=>[]
 |o :: r=>addE o :: mapE r
def wt:Op->Bool
 | .move _=>true
 | .assign _=>true
 | .load _ _=>true
 | .store _ _ _=>true
 | .nilCheck _=>true
 | .fieldAddr _ _ _=>true
 | .buildSlice _ _ _=>true
 | .build _ _=>true
 | .call ⟨.builtin _,_,_⟩=>true
 |_=>false
def qv2:List Edge->Bool
 |[]=>false
 |e :: r=>match Region.binds .any e with
  |true=>match e.on with
   |0=>true
   |_+1=>qv2 r
  |false=>qv2 r
def qs7(d:Nat)(xs:List Nat):List Oper->Bool
 |[]=>true
 |o :: r=>match o.guard with
  |some _=>false
  |none=>match wt o.op,qf1 o.dst (d :: xs) with
   |true,true=>match memN d (xk o.op.operands.toList) with
    |false=>qs7 d xs r
    |true=>match qv2 o.after.toList with
     |true=>qs7 d xs r
     |false=>false
   |_,_=>false
def qw4:List Oper->Option (List Oper)
 |[]=>none
 |o :: r=>match o.op,o.dst,o.guard,o.after.toList with
  | .move x,some d,none,[]=>match qs7 d (xk [x]) r with
   |true=>match kh (o :: mapE r) (hsOf (o :: mapE r)) with
    |true=>some (o :: mapE r)
    |false=>none
   |false=>none
  |_,_,_,_=>none
def qb8:Op->Bool
 | .move _=>true
 | .assign _=>true
 | .load _ _=>true
 | .store _ _ _=>true
 | .nilCheck _=>true
 | .fieldAddr _ _ _=>true
 | .indexAddr _ _ _=>true
 | .binOp _ _ _ _ _=>true
 | .convert _ _ _=>true
 | .buildSlice _ _ _=>true
 | .call ⟨.builtin _,_,_⟩=>true
 | .call ⟨.value _,_,_⟩=>true
 | .alloc _=>true
 | .extract _ _=>true
 | .lookup _ _ _ _=>true
 | .mapEntry _ _ _=>true
 | .build _ _=>true
 |_=>false
def qo1(i:Nat):List Edge->Bool
 |[]=>false
 |e :: r=>match Region.binds .any e with
  |true=>match Nat.beq e.on i with
   |true=>true
   |false=>qo1 i r
  |false=>qo1 i r
def qt9:Op->Bool
 | .move _=>true
 | .assign _=>true
 | .load _ _=>true
 | .nilCheck _=>true
 | .fieldAddr _ _ _=>true
 | .indexAddr _ _ _=>true
 | .extract _ _=>true
 |_=>false
def ldOp:Op->Bool
 | .load _ _=>true
 |_=>false
def yx0(o p:Op):Bool :=
 match ldOp o with
 |true=>qt9 p
 |false=>true
def atO:List Oper->Nat->Option Oper
 |[],_=>none
 |o :: _,0=>some o
 |_ :: l,j+1=>atO l j
def ancE(f:Nat->List Nat):List Edge->List Nat
 |[]=>[]
 |e :: r=>match Region.binds .any e with
  |true=>e.on :: (f e.on++ancE f r)
  |false=>ancE f r
def ancs(all:List Oper):Nat->Nat->List Nat
 |0,_=>[]
 |k+1,j=>match atO all j with
  |none=>[]
  |some o=>ancE (ancs all k) o.after.toList
def memB(i:Nat):List Nat->Bool
 |[]=>false
 |a :: l=>match Nat.beq a i with
  |true=>true
  |false=>memB i l
def wa(all:List Oper)(i:Nat)(o:Oper)(d:Nat):Nat->List Oper->Bool
 |_,[]=>true
 |j,p :: r=>match Nat.beq i j with
  |true=>wa all i o d (j+1) r
  |false=>match qo1 j o.after.toList with
   |true=>wa all i o d (j+1) r
   |false=>match qo1 i p.after.toList with
    |true=>wa all i o d (j+1) r
    |false=>match qb8 p.op,qf1 p.dst (d :: xk o.op.operands.toList),yx0 o.op p.op,memN d (xk p.op.operands.toList) with
     |true,true,true,false=>wa all i o d (j+1) r
     |_,_,_,_=>match memB i (ancs all 8 j) with
      |true=>wa all i o d (j+1) r
      |false=>false
def qn8:Op->Bool
 | .load _ _=>true
 | .nilCheck _=>true
 | .fieldAddr _ _ _=>true
 | .move _=>true
 | .assign _=>true
 | .binOp .add _ _ _ _=>true
 | .binOp .sub _ _ _ _=>true
 | .indexAddr _ _ _=>true
 | .extract _ _=>true
 |_=>false
def xu(all:List Oper):Nat->List Oper->(List Bool->Prop)->Prop
 |_,[],K=>K []
 |i,o :: r,K=>match o.dst,qn8 o.op with
  |some d,true=>match wa all i o d 0 all with
   |true=>xu all (i+1) r (fun l=>K (true :: l))
   |false=>xu all (i+1) r (fun l=>K (false :: l))
  |_,_=>xu all (i+1) r (fun l=>K (false :: l))
def wh:List Oper->Bool
 |[]=>true
 |o :: r=>match o.guard with
  |none=>wh r
  |some _=>false
def jc6(l:List Nat):Nat->Bool
 |0=>true
 |i+1=>match memB i l with
  |true=>jc6 l i
  |false=>false
def qr2(j:Nat):List Edge->Bool
 |[]=>true
 |e :: r=>match Region.binds .any e with
  |true=>match Nat.blt e.on j with
   |true=>qr2 j r
   |false=>false
  |false=>qr2 j r
def qo7(all:List Oper)(p:Nat):List Oper->Nat->Bool
 |[],_=>true
 |o :: r,j=>match qr2 j o.after.toList with
  |true=>match Nat.blt j p with
   |true=>qo7 all p r (j+1)
   |false=>match jc6 (ancs all 8 j) j with
    |true=>qo7 all p r (j+1)
    |false=>false
  |false=>false
def qm0(t:Tmp):List Oper->Bool
 |[]=>false
 |o :: l=>match o.op with
  | .load _ _=>match o.dst with
   |some d=>match Nat.beq d t with
    |true=>true
    |false=>qm0 t l
   |none=>qm0 t l
  | .move (.tmp 0)=>match o.dst with
   |some d=>match Nat.beq d t with
    |true=>true
    |false=>qm0 t l
   |none=>qm0 t l
  |_=>qm0 t l
def ql9(all:List Oper):List Oper->Nat->Option Nat
 |[],_=>none
 |o :: l,i=>match o.op with
  | .call ⟨.value (.tmp t),_,_⟩=>match qm0 t all with
   |true=>some i
   |false=>ql9 all l (i+1)
  |_=>ql9 all l (i+1)
def xm:Nat->List Oper->List Oper
 |0,_=>[]
 |_,[]=>[]
 |k+1,o :: l=>o :: xm k l
def u4:Nat->List Oper->List Oper
 |0,l=>l
 |_,[]=>[]
 |k+1,_ :: l=>u4 k l
def qo8(all:List Oper):Option Nat :=
 match ql9 all all 0 with
 |none=>none
 |some p=>match wh all with
  |true=>match qo7 all p all 0 with
   |true=>some p
   |false=>none
  |false=>none
def qm9(ts:List SV)(o:Op):Bool :=
 match o with
 | .load _ _=>true
 | .nilCheck _=>true
 | .fieldAddr _ _ _=>true
 | .extract _ _=>true
 | .move _=>true
 | .assign _=>true
 | .binOp _ _ x y _=>match val ts x with
  | .d (.int k _)=>match val ts y with
   | .d (.int k' _)=>kEq k k'
   |_=>false
  |_=>false
 | .indexAddr _ x y=>match val ts y with
  | .d (.int _ _)=>match val ts x with
   | .d (.sl _ _ _ _)=>true
   | .all _=>true
   | .row _ _ _=>true
   |_=>false
  |_=>false
 |_=>false
def qb4(ts:List SV)(fr done:List Bool):Nat->List Oper->Option (Nat × Oper)
 |_,[]=>none
 |i,o :: os=>match atB done i with
  |true=>qb4 ts fr done (i+1) os
  |false=>match atB fr i with
   |true=>match xx done o.after.toList with
    |true=>match qm9 ts o.op with
     |true=>some (i,o)
     |false=>qb4 ts fr done (i+1) os
    |false=>qb4 ts fr done (i+1) os
   |false=>qb4 ts fr done (i+1) os
def xd[Dr](P:Program)(TT:Nat->Option TI)(all:List Oper)(fr:List Bool)(K:List SV->List KB->Prop):Nat->List Bool->List SV->List KB->Prop
 |0,done,ts,ks=>match allT done with
  |true=>K ts ks
  |false=>False
 |k+1,done,ts,ks=>match qb4 ts fr done 0 all with
  |some (i,o)=>exec P TT o ts ks (fun _ ts' ks'=>xd P TT all fr K k (vk done i) ts' ks')
  |none=>match qi7 done 0 all with
   |true=>qg5 done (fun i o=>match o.guard with
    |none=>match zb3 o.op with
     |true=>sev TT ts ks o.op (fun v ks'=>j7 o.dst v ts (fun ts'=>xd P TT all fr K k (vk done i) ts' ks'))
     |false=>exec P TT o ts ks (fun _ ts' ks'=>xd P TT all fr K k (vk done i) ts' ks')
    |some _=>False) 0 all
   |false=>False
def jo8:List Oper->Bool
 |[]=>false
 |o :: r=>match o.op with
  | .buildSlice _ 0 _=>true
  |_=>jo8 r
def xt0(l:List Oper):Bool :=
 match Nat.ble 1 (ql5 l) with
 |true=>match jc5 l with
  |true=>match jo8 l with
   |true=>false
   |false=>match kh l (hsOf l) with
    |true=>false
    |false=>true
  |false=>false
 |false=>false
def xu7(l:List Oper):Bool :=
 match jd7 l l with
 |true=>true
 |false=>match xt0 l with
  |true=>true
  |false=>match Nat.ble 2 (ql5 l) with
   |true=>match js6 l with
    |true=>jc5 l
    |false=>false
   |false=>false
def yz8(TT:Nat->Option TI):List TypeId->Bool
 |[]=>false
 |t :: l=>match TT t with
  |some ⟨_,_,_,_,.ptr _,_⟩=>true
  |_=>yz8 TT l
def yu2(TT:Nat->Option TI):Op->Bool
 | .call ⟨.value _,_,tys⟩=>yz8 TT tys.toList
 |_=>false
def jk6(TT:Nat->Option TI):List Oper->Bool
 |[]=>false
 |o :: r=>match yu2 TT o.op with
  |true=>true
  |false=>jk6 TT r
def jt7(TT:Nat->Option TI):List Oper->List Bool
 |[]=>[]
 |o :: r=>(match x5 o.op with
  |true=>qa9 o.op
  |false=>yu2 TT o.op) :: jt7 TT r
def zb0(TT:Nat->Option TI)(l:List Oper):Bool :=
 match jk6 TT l with
 |false=>false
 |true=>match kh l (jt7 TT l) with
  |true=>false
  |false=>true
def yq4:List Oper->Bool
 |[]=>false
 |o :: r=>match o.op with
  | .alloc _=>true
  |_=>yq4 r
def za9(TT:Nat->Option TI)(l:List Oper):Bool :=
 match xu7 l with
 |true=>true
 |false=>match wh l with
  |false=>false
  |true=>match Nat.ble 2 (ql5 l) || yq4 l with
   |false=>false
   |true=>match jk6 TT l with
    |false=>false
    |true=>match kh l (jt7 TT l) with
     |true=>false
     |false=>true
def js5:List Oper->Bool
 |[]=>false
 |o :: r=>match o.op with
  | .mapEntry _ _ _=>true
  |_=>js5 r
def xr3(l:List Oper):Bool :=
 match kh l (yz0 l) with
 |false=>false
 |true=>match jo8 l with
  |true=>true
  |false=>kh l (hsOf l)
def jg0[Dr](P:Program)(TT:Nat->Option TI)(IN:Nat->Option Inl)(rec:Nb->List It->List SV->List KB->(Exit->List SV->List KB->Prop)->Prop)
 (nb:Nb) (stk:List It) (ts:List SV) (ks:List KB) (K:Exit->List SV->List KB->Prop):Prop :=
 match stk with
 |[]=>K .normal ts ks
 | .blk _ :: r=>rec nb r ts ks K
 | .scp :: r=>rec nb r ts ks K
 | .lp J :: _=>J ts ks
 | .ops true hs all os :: r =>
  match os with
  |[]=>match kh all (revB hs []) with
   |true=>rec nb r ts ks K
   |false=>False
  |o :: os=>match o.guard with
   |none=>qp3 P TT (bldR all) o ts ks (fun h ts' ks'=>rec nb (.ops true (h :: hs) all os :: r) ts' ks' K)
   |some (j,want)=>match qg6 all j with
    |none=>False
    |some t=>ug ts t (fun g=>match g with
     | .d .tt=>match want with
      |true=>qp3 P TT (bldR all) o ts ks (fun h ts' ks'=>rec nb (.ops true (h :: hs) all os :: r) ts' ks' K)
      |false=>j7 o.dst qf6 ts (fun ts'=>rec nb (.ops true (false :: hs) all os :: r) ts' ks K)
     | .d .ff=>match want with
      |false=>qp3 P TT (bldR all) o ts ks (fun h ts' ks'=>rec nb (.ops true (h :: hs) all os :: r) ts' ks' K)
      |true=>j7 o.dst qf6 ts (fun ts'=>rec nb (.ops true (false :: hs) all os :: r) ts' ks K)
     | .v (.tuple _)=>j7 o.dst qf6 ts (fun ts'=>rec nb (.ops true (false :: hs) all os :: r) ts' ks K)
     | .d (.bool b) =>
      (b=true->setK ts t (.d .tt) (fun ts=>rec nb (.ops true hs all (o :: os) :: r) ts ks K)) /\
      (b=false->setK ts t (.d .ff) (fun ts=>rec nb (.ops true hs all (o :: os) :: r) ts ks K))
     |_=>False)
 | .ops false hs all os :: r =>
  match os with
  |[]=>rec nb r ts ks K
  |o :: os=>match o.guard with
   |none=>qp2 P TT IN rec o ts ks (fun ts' ks'=>rec nb (.ops false hs all os :: r) ts' ks' K)
   |some (j,want)=>match qg6 all j with
    |none=>False
    |some t=>ug ts t (fun g=>match g with
     | .d .tt=>match want with
      |true=>qp2 P TT IN rec o ts ks (fun ts' ks'=>rec nb (.ops false hs all os :: r) ts' ks' K)
      |false=>j7 o.dst qf6 ts (fun ts'=>rec nb (.ops false hs all os :: r) ts' ks K)
     | .d .ff=>match want with
      |false=>qp2 P TT IN rec o ts ks (fun ts' ks'=>rec nb (.ops false hs all os :: r) ts' ks' K)
      |true=>j7 o.dst qf6 ts (fun ts'=>rec nb (.ops false hs all os :: r) ts' ks K)
     | .v (.tuple _)=>j7 o.dst qf6 ts (fun ts'=>rec nb (.ops false hs all os :: r) ts' ks K)
     | .d (.bool b) =>
      (b=true->setK ts t (.d .tt) (fun ts=>rec nb (.ops false hs all (o :: os) :: r) ts ks K)) /\
      (b=false->setK ts t (.d .ff) (fun ts=>rec nb (.ops false hs all (o :: os) :: r) ts ks K))
     |_=>False)
 | .code c :: r =>
  match c with
  | .skip=>rec nb r ts ks K
  | .label _=>rec nb r ts ks K
  | .scope c=>rec nb (.code c :: .scp :: r) ts ks K
  | .seq a b=>rec nb (.code a :: .code b :: r) ts ks K
  | .block id c=>rec nb (.code c :: .blk id :: r) ts ks K
  | .exit id=>match qg0 id r with
   |some r'=>rec nb r' ts ks K
   |none=>K (.exit id) ts ks
  | .ret=>K .ret ts ks
  | .region id ops draw=>match absF ts ks with
   |none=>match xv3 draw ops.toList with
    |false=>match draw with
     |false=>rec nb (.ops false [] ops.toList ops.toList :: r) ts ks K
     |true=>match qo8 ops.toList with
      |none=>match js5 ops.toList with
       |false=>match za9 TT ops.toList with
        |false=>rec nb (.ops true [] ops.toList ops.toList :: r) ts ks K
        |true=>match wh ops.toList with
         |true=>∃ ts' ks',xu ops.toList 0 ops.toList (fun fr=>xd P TT ops.toList fr (fun t k=>t=ts'/\k=ks') ops.toList.length (xw ops.toList) ts ks)/\rec nb r ts' ks' K
         |false=>False
       |true=>match wh ops.toList with
        |true=>∃ ks',xu ops.toList 0 ops.toList (fun fr=>xd P TT ops.toList fr (fun t k=>ww (u6 ops.toList) t=ww (u6 ops.toList) ts/\k=ks') ops.toList.length (xw ops.toList) ts ks)/\qf2 (u6 ops.toList) ts (fun ts1=>rec nb r ts1 ks' K)
        |false=>False
      |some p=>match zb0 TT (xm p ops.toList) with
       |false=>rec nb (.ops true [] (xm p ops.toList) (xm p ops.toList) :: .ops false [] ops.toList (u4 p ops.toList) :: r) ts ks K
       |true=>∃ ts' ks',xu (xm p ops.toList) 0 (xm p ops.toList) (fun fr=>xd P TT (xm p ops.toList) fr (fun t k=>t=ts'/\k=ks') p (xw (xm p ops.toList)) ts ks)/\rec nb (.ops false [] ops.toList (u4 p ops.toList) :: r) ts' ks' K
    |true=>match qw4 ops.toList with
     |some l=>rec nb (.ops true [] l l :: r) ts ks K
     |none=>match xr3 ops.toList with
      |true=>rec nb (.ops true [] ops.toList ops.toList :: r) ts ks K
      |false=>match wh ops.toList with
       |true=>∃ ts' ks',xu ops.toList 0 ops.toList (fun fr=>xd P TT ops.toList fr (fun t k=>t=ts'/\k=ks') ops.toList.length (xw ops.toList) ts ks)/\rec nb r ts' ks' K
       |false=>False
   |some (k,i)=>absK ts ks k i (fun ts' ks'=>rec nb (.code (.region id ops draw) :: r) ts' ks' K)
  | .cond c x y=>valK ts c (fun c=>match c with
   | .d .tt=>rec nb (.code x :: r) ts ks K
   | .d .ff=>rec nb (.code y :: r) ts ks K
   | .d (.bool b)=>(b=true->rec nb (.code x :: r) ts ks K)/\(b=false->rec nb (.code y :: r) ts ks K)
   |_=>False)
  | .loop body=>rec nb (.again body :: r) ts ks K
  | .rangeFunc g ps asg body=>valK ts g (fun g=>match g with
   | .fn f caps=>match IN f with
    |some ⟨nargs,extra,results,fb⟩=>match Nat.beq (lenL caps+1) nargs with
     |true=>jt6 nb ks (wv ks 0 (fun i=>appK (.yl i :: caps) (anys extra) (fun t1=>uh ks (.loop ts ps.toList asg body .ready) (fun k1=>rec ⟨i+1,none⟩ [.code fb] t1 k1 (fun e t2 k2 =>
      match e with
      | .normal=>resK TT t2 k2 results (fun _=>qp k2 i (fun b=>match b with
       | .loop _ _ _ _ st=>match st with
        | .ready=>jf k2 i .gone (fun k3=>rec nb r ts k3 K)
        | .done c=>jf k2 i .gone (fun k3=>rec nb (.code c :: r) ts k3 K)
        |_=>False
       |_=>False))
      | .ret=>resK TT t2 k2 results (fun _=>qp k2 i (fun b=>match b with
       | .loop _ _ _ _ st=>match st with
        | .ready=>jf k2 i .gone (fun k3=>rec nb r ts k3 K)
        | .done c=>jf k2 i .gone (fun k3=>rec nb (.code c :: r) ts k3 K)
        |_=>False
       |_=>False))
      |_=>False)))))
     |false=>False
    |none=>False
   |_=>False)
  |_=>False
 | .again body :: r=>LoopStop nb.n body ts ks (fun J ts1 ks1=>rec nb (.code body :: .lp J :: r) ts1 ks1 K) (rec nb (.code body :: .again body :: r) ts ks K) (fun ts1 ks1=>rec nb (.again body :: r) ts1 ks1 K)
def run[Dr](P:Program)(TT:Nat->Option TI)(IN:Nat->Option Inl)(n:Nat):Nb->List It->List SV->List KB->(Exit->List SV->List KB->Prop)->Prop :=
 Nat.rec (motive:=fun _=>Nb->List It->List SV->List KB->(Exit->List SV->List KB->Prop)->Prop) (fun _ _ _ _ _=>False) (fun _ ih=>jg0 P TT IN ih) n
section
theorem qd9(l:List SV)(n:Nat)(k:SV->Prop):ug l n k=k (getT l n):=by
 induction l generalizing n with
 |nil=>rfl
 |cons a l ih=>cases n with
  |zero=>rfl
  |succ n=>simp only[ug,getT,ih]
theorem qs(l:List KB)(n:Nat)(k:KB->Prop):qp l n k=k (getB l n):=by
 induction l generalizing n with
 |nil=>rfl
 |cons a l ih=>cases n with
  |zero=>rfl
  |succ n=>simp only[qp,getB,ih]
theorem zj9(v:Value)(k:SV->Prop):jn8 v k=k (jd5 v):=by
 unfold jn8 jd5;split <;> rfl
theorem qm[Dr](l:List SV)(x:Operand)(k:SV->Prop):valK l x k=k (val l x):=by
 cases x <;> simp[valK,val,qd9,zj9]
theorem qa0[Dr](l:List SV)(xs:List Operand)(k:List SV->Prop):qf5 l xs k=k (vals l xs):=by
 induction xs generalizing k with
 |nil=>rfl
 |cons x xs ih=>simp[qf5,vals,qm,ih]
theorem qe7(l m:List SV)(k:List SV->Prop):appK l m k=k (l++m):=by
 induction l generalizing k with
 |nil=>rfl
 |cons a l ih=>simp[appK,ih]
theorem qa1(l:List SV)(n:Nat)(k:List SV->Prop):vh l n k=k (l.take n):=by
 induction l generalizing n k with
 |nil=>cases n <;> simp[vh]
 |cons a l ih=>cases n with
  |zero=>rfl
  |succ n=>simp[vh,ih]
theorem qa3(l:List SV)(n:Nat)(k:List SV->Prop):vm l n k=k (l.drop n):=by
 induction l generalizing n with
 |nil=>cases n <;> simp[vm]
 |cons a l ih=>cases n with
  |zero=>rfl
  |succ n=>simp[vm,ih]
theorem jo2(l:List DV)(k:List SV->Prop):qp1 l k=k (l.map .d):=by
 induction l generalizing k with
 |nil=>rfl
 |cons a l ih=>simp[qp1,ih]
theorem y9(l:List SV):lenL l=l.length:=by
 induction l with
 |nil=>rfl
 |cons a l ih=>simp[lenL,ih]
theorem zx(l:List KB)(n:Nat)(k:Nat->Prop):wv l n k=k (n+l.length):=by
 induction l generalizing n with
 |nil=>rfl
 |cons a l ih=>simp only[wv,ih,ou];congr 1;omega
theorem jr{a b:Nat}(h:Nat.ble a b=true):a<=b:=tq h
theorem qv{a b:Nat}(h:Nat.beq a b=true):a=b:=bq h
theorem yd0[Dr]{agg:Bool}{size:Nat}{l:List SV}{off:Nat}{k:SV->Prop}(h:wd agg size l off k) :
 off+size<=l.length/\((agg=true/\k (.agg ((l.drop off).take size)))\/(agg=false/\size=1/\k (getT l off))):=by
 unfold wd at h;split at h
 ·rename_i hb;rw [y9] at hb;refine⟨jr hb,?_⟩;split at h
  ·rw [qa3,qa1] at h;exact .inl ⟨rfl,h⟩
  ·split at h
   ·rw [qd9] at h;exact .inr ⟨rfl,rfl,h⟩
   ·cases h
 ·cases h
section
variable{P:Program}{w:World}
theorem zc1(ad:Addr):∀ (vs:List Value) (i:Nat) (acc:Array Value),(∀ (j:Nat) (u:Value),vs[j]? = some u->w.cell? (ad.add (i+j))=some u) ->
 (loadCellsFrom ad i vs.length acc).run P w = .ok (acc++vs.toArray) w:=by
 intro vs;induction vs with
 |nil=>intro i acc _;simp[loadCellsFrom]
 |cons v vs ih =>
  intro i acc h;have h0:=h 0 v rfl;rw [du] at h0;simp only[ou,loadCellsFrom,p6,run_load,h0,p9];rw[ih (i+1) (acc.push v) (fun j u hu=>by
   have:=h (j+1) u (by simpa using hu);rw[show i+1+j=i+(j+1) from by omega];exact this)]
  simp
theorem jv7[Dr](ad:Addr)(vs:List Value)(n:Nat)(hn:vs.length=n)(h:∀ (j:Nat) (u:Value),vs[j]? = some u->w.cell? (ad.add j)=some u) :
 (loadCells ad n).run P w = .ok vs.toArray w:=by
 subst hn;have:=zc1 (P:=P) ad vs 0 #[] (fun j u hu=>by rw[ox];exact h j u hu);simpa[loadCells] using this
def je(cs:Array Value)(off:Nat):List Value->Array Value
 |[]=>cs
 |v :: vs=>je (cs.setIfInBounds off v) (off+1) vs
theorem ku(cs:Array Value)(off:Nat)(vs:List Value):(je cs off vs).size=cs.size:=by
 induction vs generalizing cs off with
 |nil=>rfl
 |cons v vs ih=>simp[je,ih]
theorem xh(cs:Array Value)(off:Nat)(vs:List Value)(j:Nat)(hin:off+vs.length<=cs.size) :
 (je cs off vs)[j]? = if off<=j/\j<off+vs.length then vs[j - off]? else cs[j]?:=by
 induction vs generalizing cs off with
 |nil=>simp[je];intro _ _;omega
 |cons v vs ih =>
  simp only [ou] at hin;simp only[je,ou];rw[ih (cs.setIfInBounds off v) (off+1) (by simp;omega)];by_cases h1:off+1<=j/\j<off+1+vs.length
  ·rw[if_pos h1,if_pos (by omega)];rw[show j - off=(j - (off+1))+1 from by omega];simp
  ·rw[if_neg h1,f6];by_cases h2:off=j
   ·subst h2;rw[if_pos rfl,if_pos (by omega),if_pos (by omega)];simp
   ·rw[if_neg h2,if_neg (by omega)]
def World.setBlock(w:World)(b:Nat)(o:Obj):World:={ w with heap:=w.heap.setIfInBounds b o }
theorem yf(w:World)(b:Nat)(o:Obj)(h:b<w.heap.size):(World.setBlock w b o).heap[b]? = some o:=by
 simp[World.setBlock,f6,h]
theorem x6(w:World)(b c:Nat)(o:Obj)(h:c≠b):(World.setBlock w b o).heap[c]? = w.heap[c]?:=by
 simp only[World.setBlock,f6];rw[if_neg (fun e=>h e.symm)]
theorem Step.setBlock[Dr]{M:Nat->Prop}(w:World){b:Nat}(hb:M b)(o:Obj):Step M w (World.setBlock w b o) :=
 ⟨rfl,rfl,rfl,by simp[World.setBlock],fun c _ hm=>x6 w b c o (fun e=>hm (e ▸ hb)),fun _=>pr _⟩
theorem jo{w:World}{b:Nat}{o:Obj}(h:w.heap[b]? = some o):b<w.heap.size:=by
 rcases oo b w.heap.size with h'|h'
 ·exact h'
 ·rw [rv h'] at h;cases h
theorem ju6[Dr]{w:World}{b:Nat}{cs:Array Value}{t:TypeId}{fz:Nat × Nat}(h:w.heap[b]? = some (.cells cs t fz))(off:Nat)(v:Value) :
 w.setCell ⟨b,off,none⟩ v=World.setBlock w b (.cells (cs.setIfInBounds off v) t fz):=by
 have hlt:=jo h;obtain⟨lo,hi⟩:=fz;unfold World.setCell World.setBlock;congr 1;apply rn;intro i;rw[dq,f6];by_cases hi':b=i
 ·subst hi';have hg:w.heap[b] = .cells cs t (lo,hi):=by
   rw [oz hlt] at h;exact p7 h
  simp[hlt,hg]
 ·rw[if_neg hi',if_neg hi']
theorem ju7(w:World)(b:Nat)(o o':Obj):World.setBlock (World.setBlock w b o) b o'=World.setBlock w b o':=by
 unfold World.setBlock;simp
theorem jv1[Dr](b:Nat)(t:TypeId)(fz:Nat × Nat):∀ (vs:List Value) (w:World) (cs:Array Value) (off i:Nat),w.heap[b]? = some (.cells cs t fz)->off+i+vs.length<=cs.size ->
 (∀ o,o<cs.size->¬ (fz.1<=o/\o<fz.2))->(∀ u ∈ vs,u.oneCell'=true) ->
 (storeCells ⟨b,off,none⟩ vs i).run P w = .ok () (if vs=[] then w else World.setBlock w b (.cells (je cs (off+i) vs) t fz)):=by
 intro vs;induction vs with
 |nil=>intro w cs off i _ _ _ _;simp[storeCells]
 |cons v vs ih =>
  intro w cs off i hb hin hfz h1;simp only [ou] at hin;have hadd:(⟨b,off,none⟩:Addr).add i=⟨b,off+i,none⟩:=by
   unfold Addr.add;split
   ·rename_i h0;subst h0;rfl
   ·rfl
  have hcell:w.cell? ⟨b,off+i,none⟩=some (cs[off+i]'(by omega)):=by
   simp[World.cell?,hb]
  have hfr:w.frozen? ⟨b,off+i,none⟩=false:=by
   obtain⟨lo,hi⟩:=fz;have:=hfz (off+i) (by omega);simp[World.frozen?,hb];intro hlo;simp at this;exact this hlo
  simp only[storeCells,p6,hadd,run_store P w _ v .plain (h1 v (by simp)),hcell,hfr,d6,if_false,p9];rw[ju6 hb];have hb':(World.setBlock w b (.cells (cs.setIfInBounds (off+i) v) t fz)).heap[b]? = some (.cells (cs.setIfInBounds (off+i) v) t fz):=yf _ _ _ (jo hb);rw[ih _ _ off (i+1) hb' (by simp;omega) (by simpa using hfz) (fun u hu=>h1 u (by simp[hu]))];simp only[reduceCtorEq,if_false];split
  ·rename_i h0;subst h0;simp[je]
  ·rw[ju7];rfl
end
theorem qi{P:Program}{TT:Nat->Option TI}(hTT:TTok P TT){t:Nat}{ti:TI}(h:TT t=some ti) :
 ∃ (info:TypeInfo) (d:TypeDesc) (z:Value),P.info? t=some info/\P.underlying t=some d/\info.size=ti.size/\info.bytes=ti.bytes/\info.zero=some z/\yt d=ti.agg /\
 z.cells.size=ti.zero.length/\ti.zero.length=ti.size/\(∀ (w:World) (M:Nat->Prop) (β:Env) (j:Nat) (s:SV) (u:Value),ti.zero[j]? = some s->z.cells[j]? = some u->Den w M β s u)/\(∀ (j:Nat) (u:Value),z.cells[j]? = some u->u.oneCell'=true)/\TDok P d ti.desc:=(hTT t ti h).all
section
variable{P:Program}{w:World}
theorem run_sizeOf{t:TypeId}{i:TypeInfo}(h:P.info? t=some i):(sizeOf t).run P w = .ok i.size w:=by
 simp[sizeOf,typeInfo,h]
theorem qp9{t:TypeId}{i:TypeInfo}{z:Value}(h:P.info? t=some i)(hz:i.zero=some z):(zeroValue t).run P w = .ok z w:=by
 simp[zeroValue,typeInfo,h,hz]
theorem run_isAgg{t:TypeId}{d:TypeDesc}(h:P.underlying t=some d):(isAgg t).run P w = .ok (yt d) w:=by
 simp only[isAgg,p6,run_underlying h,p9];cases d <;> rfl
theorem zc6[Dr]{t:TypeId}{d:TypeDesc}{i:TypeInfo}(hd:P.underlying t=some d)(hi:P.info? t=some i)(ha:yt d=true)(ad:Addr)(vs:List Value)(hn:vs.length=i.size)
 (h:∀ (j:Nat) (u:Value),vs[j]? = some u->w.cell? (ad.add j)=some u):(loadVar t ad).run P w = .ok (.agg vs.toArray) w:=by
 simp[loadVar,run_isAgg hd,ha,run_sizeOf hi,jv7 ad vs i.size hn h]
theorem jv0[Dr]{t:TypeId}{d:TypeDesc}(hd:P.underlying t=some d)(ha:yt d=false)(ad:Addr)(u:Value)
 (h:w.cell? ad=some u):(loadVar t ad).run P w = .ok u w:=by
 simp[loadVar,run_isAgg hd,ha,h]
end
theorem qr1{w:World}{M:Nat->Prop}{x:DV}{v:Value}(h:Rd w M x v):v.oneCell'=true:=by cases h <;> rfl
end
section
def Ran(P:Program)(o:Oper)(a:Act)(w:World)(M:Nat->Prop)(β:Env)(K:SV->Prop):Prop :=
 ∃ r v,K r/\(execOp a.eval o).run P w = .ok (.value v) w/\Den w M β r v
section
variable{P:Program}{TT:Nat->Option TI}{ts:List SV}{ks:List KB}{w:World}{M:Nat->Prop}{β:Env}{a:Act}{K:SV->Prop}{o:Oper}
theorem qk[Dr]{i:Nat}{k:KB}(h:getB ks i=k)(hne:k≠.gone):ks[i]? = some k:=by
 rw [wo] at h;cases hg:ks[i]? with
 |none=>rw [hg] at h;exact absurd h.symm hne
 |some x=>rw [hg] at h;simpa using h
theorem jr4[Dr]{l:List SV}{vs:List Value}(hl:l.length=vs.length)(h:∀ (j:Nat) (s:SV) (u:Value),l[j]? = some s->vs[j]? = some u->Den w M β s u)(j:Nat)(hj:j<l.length) :
 ∃ u,vs[j]? = some u/\Den w M β (getT l j) u:=by
 have hv:vs[j]? = some (vs[j]'(by omega)):=pp (by omega);have hs:l[j]? = some (l[j]'hj):=pp hj;refine⟨_,hv,?_⟩;rw[wn,hs];exact h j _ _ hs hv
theorem qk8[Dr]{t:TypeId}{ti:TI}(hTT:TTok P TT)(ht:TT t=some ti)(ad:Addr)(l:List SV)(off:Nat)(vs:List Value)(hl:l.length=vs.length)
 (hd:∀ (j:Nat) (s:SV) (u:Value),l[j]? = some s->vs[j]? = some u->Den w M β s u) (h1:∀ u ∈ vs,u.oneCell'=true) (hc:∀ (j:Nat) (u:Value),vs[j]? = some u->w.cell? (ad.add j)=some u)
 (hp:wd ti.agg ti.size l off K):∃ r v,K r/\(loadVar t (ad.add off)).run P w = .ok v w/\Den w M β r v:=by
 obtain⟨info,d,z,hi,hu,hsz,_,_,hag,_⟩:=qi hTT ht;obtain⟨hin,⟨hagg,hk⟩|⟨hagg,hone,hk⟩⟩:=yd0 hp
 ·refine⟨_,_,hk,zc6 hu hi (by rw[hag];exact hagg) (ad.add off) ((vs.drop off).take ti.size) (by simp;omega) (fun j u hju=>?_),?_⟩
  ·rw[add_add];rw [mu] at hju;split at hju
   ·rw [lq] at hju;exact hc _ _ hju
   ·cases hju
  ·refine .agg _ _ (by simp;omega) (fun j s u hs hu'=>?_) (fun u hu'=>h1 u (ar (gt hu')));rw [mu] at hs hu';split at hs
   ·rename_i hj;rw [if_pos hj] at hu';rw [lq] at hs hu';exact hd _ _ _ hs hu'
   ·cases hs
 ·obtain⟨u,hu',hd'⟩:=jr4 hl hd off (by omega);exact⟨_,_,hk,jv0 hu (by rw[hag];exact hagg) _ u (hc off u hu'),hd'⟩
theorem yc7[Dr]{t:TypeId}{ti:TI}(hTT:TTok P TT)(ht:TT t=some ti)(l:List SV)(off:Nat)(vs:List Value)(hl:l.length=vs.length)
 (hd:∀ (j:Nat) (s:SV) (u:Value),l[j]? = some s->vs[j]? = some u->Den w M β s u) (h1:∀ u ∈ vs,u.oneCell'=true)
 (hp:wd ti.agg ti.size l off K):∃ r v,K r/\(part t vs.toArray off).run P w = .ok v w/\Den w M β r v:=by
 obtain⟨info,d,z,hi,hu,hsz,_,_,hag,_⟩:=qi hTT ht;obtain⟨hin,⟨hagg,hk⟩|⟨hagg,hone,hk⟩⟩:=yd0 hp
 ·refine⟨_,.agg ((vs.drop off).take ti.size).toArray,hk,?_,?_⟩
  ·simp only[part,p6,run_isAgg hu,hag,hagg,p9,if_true,run_sizeOf hi,oy];congr 2;apply Array.ext';simp[hsz]
  ·refine .agg _ _ (by simp;omega) (fun j s u hs hu'=>?_) (fun u hu'=>h1 u (ar (gt hu')));rw [mu] at hs hu';split at hs
   ·rename_i hj;rw [if_pos hj] at hu';rw [lq] at hs hu';exact hd _ _ _ hs hu'
   ·cases hs
 ·obtain⟨u,hu',hd'⟩:=jr4 hl hd off (by omega);refine⟨_,u,hk,?_,hd'⟩;simp[part,run_isAgg hu,hag,hagg,hu']
theorem qz1[Dr]{k:IntKind}{l:List SV}{c:List Int->Prop}(h:qb7 k l c):∃ xs:List Int,l=xs.map (fun n=>.d (.int k n))/\c xs:=by
 induction l generalizing c with
 |nil=>exact⟨[],rfl,h⟩
 |cons s l ih =>
  cases s with
  |d x =>
   cases x with
   |int k' n =>
    simp only [qb7] at h;split at h
    ·rename_i hk;cases wr hk;obtain⟨xs,rfl,hc⟩:=ih h;exact⟨n :: xs,rfl,hc⟩
    ·cases h
   |_=>exact h.elim
  |_=>exact h.elim
theorem w5{n j:Nat}{u:Nat->Value}{v:Value}(h:((List.range n).map u)[j]? = some v):j<n/\u j=v:=by
 rw [o4] at h;rcases oo j n with hj|hj
 ·rw [co hj] at h;exact⟨hj,p7 h⟩
 ·rw [gp (by simpa using hj)] at h;cases h
theorem yi3(xs:List Int)(i:Int)(h0:0<=i)(h1:i<xs.length):xs[i.toNat]? = some (u0 xs i):=by
 induction xs generalizing i with
 |nil=>simp at h1;omega
 |cons x xs ih =>
  unfold u0;split
  ·subst_vars;rfl
  ·simp at h1;have:=ih (i - 1) (by omega) (by omega);rw[show i.toNat=(i - 1).toNat+1 from by omega];simpa using this
theorem jq(hB:∀ (i:Nat) (L:Loc) (k:KB),ks[i]? = some k->k≠.gone->β i=some L->∃ fp,KBat w M β L fp k){i:Nat}{L:Loc}{k:KB}(hL:β i=some L)(hk:ks[i]? = some k)(hne:k≠.gone):∃ fp,KBat w M β L fp k:=by
 exact hB i L k hk hne hL
theorem ja{k:IntKind}{n:Int}{v:Value}(h:Den w M β (.d (.int k n)) v):v = .int k n:=by
 cases h with
 |d h=>cases h;rfl
theorem xt5(c:Col)(n:Nat)(K:SV->Prop):atK c n K=K (c.at n):=by cases c <;> rfl
theorem yr5[Dr](l:List Col)(n:Nat)(K:List SV->Prop):qw7 l n K=K (l.map (·.at n)):=by
 induction l generalizing K with
 |nil=>rfl
 |cons c l ih=>simp[qw7,xt5,ih]
theorem xf2[Dr](hTT:TTok P TT)(hT:∀ x,Den w M β (val ts x) (a.eval x))(hB:∀ (i:Nat) (L:Loc) (k:KB),ks[i]? = some k->k≠.gone->β i=some L->∃ fp,KBat w M β L fp k){t:TypeId}{x:Operand}(ho:o.op = .load t x)
 (h:pev P TT ts ks (.load t x) K):Ran P o a w M β K:=by
 unfold Ran;simp only[execOp,ho];simp only [pev,qm] at h;split at h
 ·cases h
 ·rename_i size bytes agg zero desc eqk ht;have hv:=hT x;generalize a.eval x=av at hv ⊢;split at h
  ·rename_i i off hx;rw [hx] at hv;cases hv with
   |ptr _ _ b hbi =>
   rw [qs] at h;split at h
   ·rename_i t' l hg;obtain⟨fp',hk⟩:=jq hB hbi (qk hg (by simp)) (by simp);cases hk with
    |cells _ _ vs hfp hb hl hd h1 =>
     obtain⟨r,v,hK,hr,hd'⟩:=qk8 (K:=K) (w:=w) (M:=M) (β:=β) hTT ht ⟨b.b,0,none⟩ l off vs.toList (by simpa using hl) (fun j s u hs hu=>hd j s u hs (by simpa using hu)) (fun u hu=>by
      obtain⟨j,hj,rfl⟩:=o9.1 hu;exact h1 j _ (by simp)) (fun j u hu=>by
      rw[show(⟨b.b,0,none⟩:Addr).add j=⟨b.b,j,none⟩ from by unfold Addr.add;split <;> simp_all];simpa[World.cell?,hb] using hu) h
     rw [show (⟨b.b,0,none⟩:Addr).add off=⟨b.b,off,none⟩ from by unfold Addr.add;split <;> simp_all] at hr;refine⟨r,v,hK,?_,hd'⟩;simp[Instr.loadAt,Instr.sureAddr,hr]
   ·cases h
  ·rename_i i off len ix hx;rw [hx] at hv;cases hv with
   |aptr _ _ _ _ b h0 h1 hbi =>
   split at h
   ·rename_i k;rw [qs] at h;split at h
    ·rename_i t' l hg;split at h
     ·rename_i hble;rw [qa3,qa1] at h;obtain⟨xs,hxs,hK⟩:=qz1 h;obtain⟨fp',hk⟩:=jq hB hbi (qk hg (by simp)) (by simp);obtain⟨info,d,z,hi,hu,hsz,_,_,hag,_,_,_,_,hdesc⟩:=qi hTT ht;cases hk with
      |cells _ _ vs hfp hb hl hd h1' =>
       rw [y9] at hble;have hble:=jr hble;have hlen:xs.length=len:=by
        have:=congrArg List.length hxs;simp at this;omega
       have hget:=yi3 xs ix h0 (by omega);have hs:l[off+ix.toNat]? = some (.d (.int k (u0 xs ix))):=by
        have h2:((l.drop off).take len)[ix.toNat]? = some (.d (.int k (u0 xs ix))):=by rw[hxs];simp[hget]
        rw [mu,if_pos (by omega),lq] at h2;exact h2
       have hvs:vs[off+ix.toNat]? = some (vs[off+ix.toNat]'(by omega)):=oz (by omega);have hden:=hd _ _ _ hs hvs;have hval:=ja hden;refine⟨_,_,hK,?_,.d (.int k _)⟩;have hcell:w.cell? ⟨b.b,off+ix.toNat,none⟩=some (.int k (u0 xs ix)):=by
        simp[World.cell?,hb,hvs,hval]
       have hdd:d = .int k:=hdesc;have:=jv0 (P:=P) (w:=w) hu (by rw[hdd];rfl) _ _ hcell;simp[Instr.loadAt,Instr.sureAddr,this]
     ·cases h
    ·cases h
   ·cases h
  ·rename_i c off hx;rw [hx] at hv;cases hv with
   |dptr _ _ ad u hlt hnm hc hr =>
   rw [jo2] at h;obtain⟨r,v,hK,hr',hd'⟩:=qk8 (K:=K) (w:=w) (M:=M) (β:=β) hTT ht ad (c.map .d) off ((List.range c.length).map u) (by simp) (fun j s v hs hv=>by
    simp at hs;obtain⟨x,hx,rfl⟩:=hs;obtain⟨_,rfl⟩:=w5 hv;exact .d (hr j x hx)) (fun v hv=>by
    simp at hv;obtain⟨j,hj,rfl⟩:=hv;exact qr1 (hr j _ (pp hj))) (fun j v hv=>by
    obtain⟨hj,rfl⟩:=w5 hv;exact hc _ _ (pp hj)) h
   refine⟨r,v,hK,?_,hd'⟩;simp[Instr.loadAt,Instr.sureAddr,hr']
  ·rename_i i j off sz hx;rw [hx] at hv;cases hv with
   |rptr _ _ _ _ b hbi hjL =>
   rw [qs] at h;split at h
   ·rename_i e sz' n z f hg;split at h
    ·rename_i hsz';have hsz':=qv hsz';subst hsz';rw [jo2] at h;obtain⟨fp',hk⟩:=jq hB hbi (qk hg (by simp)) (by simp);cases hk with
     |rowNil _ _ _ _ _ _ _ hLn=>rw [hLn] at hjL;omega
     |row _ _ _ _ _ vs fz hfp hnil hLs hLn hzz hb hfz hvs hng hfl hr _ =>
      have hjn':j<n:=hLn ▸ hjL;have hin:∀ m,m<sz->j * sz+m<vs.size:=fun m hm=>by
       rw[hvs];calc j * sz+m<j * sz+sz:=by omega
        _=(j+1) * sz:=by rw[ow,mv]
        _<=b.c * sz:=o6 _ (by omega)
      have hjn:j<n:=hLn ▸ hjL;have hlen:=hfl j hjn;obtain⟨r,v,hK,hr',hd'⟩:=qk8 (K:=K) (w:=w) (M:=M) (β:=β) hTT ht ⟨b.b,j * sz,none⟩ ((f j).map .d) off ((List.range sz).map fun m=>vs[j * sz+m]?.getD undef) (by simp[hlen]) (fun m s v hs hv=>by
       simp at hs;obtain⟨x,hx,rfl⟩:=hs;obtain⟨hm,rfl⟩:=w5 hv;rw[oz (hin _ hm)];exact .d (hr j m x _ hjn hx (oz (hin _ hm)))) (fun v hv=>by
       simp at hv;obtain⟨m,hm,rfl⟩:=hv;rw[oz (hin _ hm)];exact qr1 (hr j m _ _ hjn (pp (by omega)) (oz (hin _ hm)))) (fun m v hv=>by
       obtain⟨hm,rfl⟩:=w5 hv;rw[oz (hin _ hm)];rw[show(⟨b.b,j * sz,none⟩:Addr).add m=⟨b.b,j * sz+m,none⟩ from by unfold Addr.add;split <;> simp_all];simp[World.cell?,hb,oz (hin _ hm)]) h
      rw [show (⟨b.b,j * sz,none⟩:Addr).add off=⟨b.b,j * sz+off,none⟩ from by unfold Addr.add;split <;> simp_all] at hr';refine⟨r,v,hK,?_,hd'⟩;simp[Instr.loadAt,Instr.sureAddr,hr']
    ·cases h
   ·rename_i e sz' n f hg;split at h
    ·rename_i hsz';have hsz':=qv hsz';subst hsz';obtain⟨fp',hk⟩:=jq hB hbi (qk hg (by simp)) (by simp);cases hk with
     |rows _ _ _ _ vs fz hfp hnil hLs hLn hb hfz hvs hng hfl hr hone =>
      have hjn:j<n:=hLn ▸ hjL;have hin:∀ m,m<sz->j * sz+m<vs.size:=fun m hm=>by
       rw[hvs];calc j * sz+m<j * sz+sz:=by omega
        _=(j+1) * sz:=by rw[ow,mv]
        _<=b.c * sz:=o6 _ (by omega)
      have hlen:=hfl j hjn;obtain⟨r,v,hK,hr',hd'⟩:=qk8 (K:=K) (w:=w) (M:=M) (β:=β) hTT ht ⟨b.b,j * sz,none⟩ (f j) off ((List.range sz).map fun m=>vs[j * sz+m]?.getD undef) (by simp[hlen]) (fun m s v hs hv=>by
       obtain⟨hm,rfl⟩:=w5 hv;rw[oz (hin _ hm)];exact hr j m s _ hjn hs (oz (hin _ hm))) (fun v hv=>by
       simp at hv;obtain⟨m,hm,rfl⟩:=hv;rw[oz (hin _ hm)];exact hone _ _ (oz (hin _ hm))) (fun m v hv=>by
       obtain⟨hm,rfl⟩:=w5 hv;rw[oz (hin _ hm)];rw[show(⟨b.b,j * sz,none⟩:Addr).add m=⟨b.b,j * sz+m,none⟩ from by unfold Addr.add;split <;> simp_all];simp[World.cell?,hb,oz (hin _ hm)]) h
      rw [show (⟨b.b,j * sz,none⟩:Addr).add off=⟨b.b,j * sz+off,none⟩ from by unfold Addr.add;split <;> simp_all] at hr';refine⟨r,v,hK,?_,hd'⟩;simp[Instr.loadAt,Instr.sureAddr,hr']
    ·cases h
   ·cases h
  ·rename_i i n off hx;rw [hx] at hv;cases hv with
   |ap _ n _ L hL =>
   rw [qs] at h;split at h
   ·rename_i t' dom cols hg;obtain⟨hdom,h⟩:=h;rw [yr5] at h;obtain⟨fp',hk⟩:=jq hB hL (qk hg (by simp)) (by simp);cases hk with
    |arena _ _ _ hfp h0 hall =>
     obtain⟨vs,hb,hl,hd,h1⟩:=hall n hdom;obtain⟨r,v,hK,hr,hd'⟩:=qk8 (K:=K) (w:=w) (M:=M) (β:=β) hTT ht ⟨n,0,none⟩ (cols.map (·.at (n+1))) off vs.toList (by simpa using hl.symm) (fun j s u hs hu=>by
      rw [o4,fw] at hs;obtain⟨c,hc,rfl⟩:=hs;exact hd j c u hc (by simpa using hu)) (fun u hu=>by
      obtain⟨j,hj,rfl⟩:=o9.1 hu;exact h1 j _ (by simp)) (fun j u hu=>by
      rw[show(⟨n,0,none⟩:Addr).add j=⟨n,j,none⟩ from by unfold Addr.add;split <;> simp_all];simpa[World.cell?,hb] using hu) h
     rw [show (⟨n,0,none⟩:Addr).add off=⟨n,off,none⟩ from by unfold Addr.add;split <;> simp_all] at hr;refine⟨r,v,hK,?_,hd'⟩;simp[Instr.loadAt,Instr.sureAddr,hr]
   ·cases h
  ·cases h
end
end
section
section
variable{P:Program}{TT:Nat->Option TI}{ts:List SV}{ks:List KB}{w:World}{M:Nat->Prop}{β:Env}{a:Act}{K:SV->Prop}{o:Oper}
theorem yc(b off n:Nat):(⟨b,off,none⟩:Addr).add n=⟨b,off+n,none⟩:=by unfold Addr.add;split <;> simp_all
theorem jd8(l:List (Nat × TypeId))(n:Nat):getF l n=l[n]?:=by
 induction l generalizing n with
 |nil=>rfl
 |cons a l ih=>cases n with
  |zero=>rfl
  |succ n=>simp[getF,ih]
theorem yo5(hT:∀ x,Den w M β (val ts x) (a.eval x)){x:Operand}(ho:o.op = .move x\/o.op = .assign x)(h:K (val ts x)):Ran P o a w M β K:=by
 refine⟨_,a.eval x,h,?_,hT x⟩;rcases ho with ho|ho <;> simp[execOp,ho]
theorem xf1[Dr](hT:∀ x,Den w M β (val ts x) (a.eval x)){c x y:Operand}(ho:o.op = .pick c x y)(h:pev P TT ts ks (.pick c x y) K):Ran P o a w M β K:=by
 unfold Ran;simp only[execOp,ho];simp only [pev,qm] at h;have hc:=hT c;generalize a.eval c=cv at hc ⊢;split at h
 ·rename_i hx;rw [hx] at hc;cases hc with|d hc=>cases hc;exact ⟨_,_,h,by simp [asBool],hT x⟩
 ·rename_i hx;rw [hx] at hc;cases hc with|d hc=>cases hc;exact ⟨_,_,h,by simp [asBool],hT y⟩
 ·rename_i q hx;rw [hx] at hc;cases hc with|d hc =>
   cases hc;cases q
   ·exact⟨_,_,h.2 rfl,by simp[asBool],hT y⟩
   ·exact⟨_,_,h.1 rfl,by simp[asBool],hT x⟩
 ·cases h
theorem jy2[Dr]{t:TypeId}{fields:Array Field}{f:Field}{fi:TypeInfo}{j:Nat}(hu:P.underlying t=some (.struct fields))(hf:fields[j]? = some f)(hi:P.info? f.type=some fi)(hz:fi.size≠0)(ad:Addr) :
 (Instr.fieldAt t (.pointer (some ad)) j).run P w = .ok (.pointer (some (ad.add f.offset))) w:=by
 simp[Instr.fieldAt,run_underlying hu,hf,Instr.sureAddr,fieldPlace,run_sizeOf hi,hz]
theorem ze8[Dr](hTT:TTok P TT)(hT:∀ x,Den w M β (val ts x) (a.eval x)){t:TypeId}{x:Operand}{f:Nat}(ho:o.op = .fieldAddr t x f)(h:pev P TT ts ks (.fieldAddr t x f) K):Ran P o a w M β K:=by
 unfold Ran;simp only[execOp,ho];simp only [pev,qm] at h;split at h
 ·rename_i size bytes agg zero fs eqk ht;split at h
  ·rename_i off ft hf;rw [jd8] at hf;obtain⟨info,d,z,hi,hu,_,_,_,_,_,_,_,_,fields,rfl,hsz,hfs⟩:=qi hTT ht;obtain⟨fd,fi,hfd,hoff,hty,hfi,hz⟩:=hfs f off ft hf;have hv:=hT x;generalize a.eval x=av at hv ⊢;have hrun:=fun ad=>jy2 (w:=w) hu hfd (by rw[hty];exact hfi) hz ad
   split at h
   ·rename_i i o' hx;rw [hx] at hv;cases hv with
    |ptr _ _ b hbi=>exact⟨_,.pointer (some ((⟨b.b,o',none⟩:Addr).add fd.offset)),h,by simp[hrun],by rw[yc,hoff];exact .ptr i (o'+off) b hbi⟩
   ·rename_i c o' hx;rw [hx] at hv;cases hv with
    |dptr _ _ ad u h1 h2 h3 h4=>exact⟨_,.pointer (some ((ad.add o').add fd.offset)),h,by simp[hrun],by rw[add_add,hoff];exact .dptr c (o'+off) ad u h1 h2 h3 h4⟩
   ·rename_i i j o' sz hx;rw [hx] at hv;cases hv with
    |rptr _ _ _ _ b hbi hjL=>exact⟨_,.pointer (some ((⟨b.b,j * sz+o',none⟩:Addr).add fd.offset)),h,by simp[hrun],by rw[yc,hoff,Nat.add_assoc];exact .rptr i j (o'+off) sz b hbi hjL⟩
   ·rename_i i n o' hx;rw [hx] at hv;cases hv with
    |ap _ n _ L hL=>exact⟨_,.pointer (some ((⟨n,o',none⟩:Addr).add fd.offset)),h,by simp[hrun],by rw[yc,hoff];exact .ap i n (o'+off) L hL⟩
   ·cases h
  ·cases h
 ·cases h
theorem zw2[Dr](hTT:TTok P TT)(hT:∀ x,Den w M β (val ts x) (a.eval x)){t:TypeId}{x:Operand}{f:Nat}(ho:o.op = .field t x f)(h:pev P TT ts ks (.field t x f) K):Ran P o a w M β K:=by
 unfold Ran;simp only[execOp,ho];simp only [pev,qm] at h;split at h
 ·rename_i size bytes agg zero fs eqk ht;split at h
  ·rename_i off ft hf;rw [jd8] at hf;obtain⟨info,d,z,hi,hu,_,_,_,_,_,_,_,_,fields,rfl,hsz,hfs⟩:=qi hTT ht;obtain⟨fd,fi,hfd,hoff,hty,hfi,hz⟩:=hfs f off ft hf;split at h
   ·rename_i size' bytes' agg' zero' desc' eqk' htf;have hv:=hT x;generalize a.eval x=av at hv ⊢;split at h
    ·rename_i l hx;rw [hx] at hv;cases hv with
     |agg _ vs hl hd h1 =>
      obtain⟨r,v,hK,hr,hd'⟩:=yc7 (w:=w) (M:=M) (β:=β) hTT htf l off vs hl hd h1 h;refine⟨r,v,hK,?_,hd'⟩;simp[Instr.field,run_underlying hu,hfd,asAgg,hty,hoff,hr]
    ·cases h
   ·cases h
  ·cases h
 ·cases h
theorem ze7[Dr](hTT:TTok P TT)(hT:∀ x,Den w M β (val ts x) (a.eval x))(hB:∀ (i:Nat) (L:Loc) (k:KB),ks[i]? = some k->k≠.gone->β i=some L->∃ fp,KBat w M β L fp k){t:TypeId}{x ix:Operand}(ho:o.op = .indexAddr t x ix)(h:pev P TT ts ks (.indexAddr t x ix) K):Ran P o a w M β K:=by
 unfold Ran;simp only[execOp,ho];simp only [pev,qm] at h;have hv:=hT x;generalize a.eval x=av at hv ⊢;have hw:=hT ix;generalize a.eval ix=iv at hw ⊢;split at h
 ·rename_i size bytes agg zero e eqk ht;obtain⟨info,d,z,hi,hu,_,_,_,_,_,_,_,_,hd⟩:=qi hTT ht;cases hd;split at h
  ·cases h
  ·rename_i size' bytes' agg' zero' desc' eqk' hte;obtain⟨infoe,de,ze,hie,hue,hsze,_⟩:=qi hTT hte;simp only at hsze;split at h
   ·rename_i k n hix;rw [hix] at hw;cases ja hw;split at h
    ·rename_i nil m sz f hx;rw [hx] at hv;split at h
     ·rename_i hsz;cases qv hsz;obtain⟨⟨h0,h1⟩,h⟩:=h;cases hv with
      |d hv =>
       cases hv with
       |nil=>exfalso;omega
       |sl _ _ _ ad cap u hcap hblk hlen hcell hrd =>
        obtain⟨hb,hnm⟩:=hblk (by omega);refine⟨_,.pointer (some (ad.add (n.toNat * size'))),h,?_,?_⟩
        ·simp[Instr.indexAt,asIntOf,run_underlying hu,h0,h1,run_sizeOf hie,hsze]
        ·have:=Den.dptr (w:=w) (M:=M) (β:=β) (f n.toNat) 0 (ad.add (n.toNat * size')) (u n.toNat) (by rw[qr8];exact hb) (by rw[qr8];exact hnm)
          (fun j d hj=>by rw[add_add];exact hcell _ _ _ (by omega) hj) (fun j d hj=>hrd _ _ _ (by omega) hj)
         rw [add_add] at this;simpa using this
     ·cases h
    ·rename_i b hx;rw [hx] at hv;rw [qs] at h;split at h
     ·rename_i e' sz m z f hg;split at h
      ·rename_i hsz;cases qv hsz;obtain⟨⟨h0,h1⟩,h⟩:=h;cases hv with
       |allNil _ L hbi hnil =>
        obtain⟨fp',hk⟩:=jq hB hbi (qk hg (by simp)) (by simp);cases hk with
        |rowNil=>exfalso;omega
        |row _ _ _ _ _ vs fz hfp hnil'=>rw [hnil] at hnil';cases hnil'
       |all _ L hbi hnil =>
        obtain⟨fp',hk⟩:=jq hB hbi (qk hg (by simp)) (by simp);cases hk with
        |rowNil _ _ _ _ _ hnil'=>rw [hnil] at hnil';cases hnil'
        |row _ _ _ _ _ vs fz hfp _ hLs hLn =>
         refine⟨_,.pointer (some ⟨L.b,n.toNat * size'+0,none⟩),h,?_,.rptr b n.toNat 0 size' L hbi (by omega)⟩;simp[Instr.indexAt,asIntOf,run_underlying hu,h0,hLn,h1,run_sizeOf hie,hsze,yc]
      ·cases h
     ·rename_i e' sz m f hg;split at h
      ·rename_i hsz;cases qv hsz;obtain⟨⟨h0,h1⟩,h⟩:=h;cases hv with
       |allNil _ L hbi hnil =>
        obtain⟨fp',hk⟩:=jq hB hbi (qk hg (by simp)) (by simp);cases hk with
        |rows _ _ _ _ vs fz hfp hnil'=>rw [hnil] at hnil';cases hnil'
       |all _ L hbi hnil =>
        obtain⟨fp',hk⟩:=jq hB hbi (qk hg (by simp)) (by simp);cases hk with
        |rows _ _ _ _ vs fz hfp _ hLs hLn =>
         refine⟨_,.pointer (some ⟨L.b,n.toNat * size'+0,none⟩),h,?_,.rptr b n.toNat 0 size' L hbi (by omega)⟩;simp[Instr.indexAt,asIntOf,run_underlying hu,h0,hLn,h1,run_sizeOf hie,hsze,yc]
      ·cases h
     ·cases h
    ·rename_i b lo m hx;rw [hx] at hv;rw [qs] at h;split at h
     ·rename_i e' sz q z f hg;split at h
      ·rename_i hsz;cases qv hsz;obtain⟨⟨h0,h1,h2⟩,h⟩:=h;cases hv with
       |rowNil _ L hbi hnil=>exfalso;omega
       |row _ _ _ off L hbi hnil hc ho' =>
        obtain⟨fp',hk⟩:=jq hB hbi (qk hg (by simp)) (by simp);cases hk with
        |rowNil _ _ _ _ _ hnil'=>rw [hnil] at hnil';cases hnil'
        |row _ _ _ _ _ vs fz hfp _ hLs hLn =>
         have hoff:off=lo * L.sz:=ho' (.inl (by omega));refine⟨_,.pointer (some ⟨L.b,(lo+n.toNat) * size'+0,none⟩),h,?_,.rptr b (lo+n.toNat) 0 size' L hbi (by omega)⟩;simp[Instr.indexAt,asIntOf,run_underlying hu,h0,h1,run_sizeOf hie,hsze,yc,hoff,hLs,ow]
      ·cases h
     ·cases h
    ·rename_i b off m c hx;rw [hx] at hv;cases hv with
     |cs _ _ _ _ L hbi hnc =>
     split at h
     ·split at h
      ·obtain⟨⟨h0,h1⟩,h⟩:=h;refine⟨_,.pointer (some ⟨L.b,off+n.toNat,none⟩),h,?_,.aptr b off m n L h0 h1 hbi⟩;simp[Instr.indexAt,asIntOf,run_underlying hu,h0,h1,run_sizeOf hie,hsze,yc]
      ·cases h
     ·obtain⟨⟨h0,h1⟩,h⟩:=h;refine⟨_,.pointer (some ⟨L.b,off+n.toNat * size',none⟩),h,?_,.ptr b _ L hbi⟩;simp[Instr.indexAt,asIntOf,run_underlying hu,h0,h1,run_sizeOf hie,hsze,yc]
    ·cases h
   ·cases h
 ·rename_i size bytes agg zero len e eqk ht;obtain⟨info,d,z,hi,hu,_,_,_,_,_,_,_,_,hd⟩:=qi hTT ht;cases hd;split at h
  ·cases h
  ·rename_i hlen;have hlen:=jr hlen;split at h
   ·cases h
   ·rename_i size' bytes' agg' zero' desc' eqk' hte;obtain⟨infoe,de,ze,hie,hue,hsze,_⟩:=qi hTT hte;simp only at hsze;split at h
    ·rename_i k n hix;rw [hix] at hw;cases ja hw;split at h
     ·rename_i b off hx;rw [hx] at hv;cases hv with
      |ptr _ _ bb hbi =>
      split at h
      ·split at h
       ·split at h
        ·obtain⟨⟨h0,h1⟩,h⟩:=h;refine⟨_,.pointer (some ⟨bb.b,off+n.toNat,none⟩),h,?_,.ptr b _ bb hbi⟩;simp[Instr.indexAt,asIntOf,run_underlying hu,h0,h1,run_sizeOf hie,hsze,yc,Instr.sureAddr]
        ·obtain⟨⟨h0,h1⟩,h⟩:=h;refine⟨_,.pointer (some ⟨bb.b,off+n.toNat,none⟩),h,?_,.aptr b off len n bb h0 h1 hbi⟩;simp[Instr.indexAt,asIntOf,run_underlying hu,h0,h1,run_sizeOf hie,hsze,yc,Instr.sureAddr]
       ·cases h
      ·obtain⟨⟨h0,h1⟩,h⟩:=h;refine⟨_,.pointer (some ⟨bb.b,off+n.toNat * size',none⟩),h,?_,.ptr b _ bb hbi⟩;simp[Instr.indexAt,asIntOf,run_underlying hu,h0,h1,run_sizeOf hie,hsze,yc,Instr.sureAddr]
     ·cases h
    ·cases h
 ·cases h
theorem xo2(s:List UInt8)(i:Nat):(⟨s.toArray⟩:ByteArray)[i]? = s[i]?:=by
 rcases oo i s.length with h|h
 ·rw[pp h];have:i<(⟨s.toArray⟩:ByteArray).size:=by simpa[ByteArray.size] using h
  rw[getElem?_pos (⟨s.toArray⟩:ByteArray) i this];rfl
 ·rw[gp h];have:¬ i<(⟨s.toArray⟩:ByteArray).size:=by simpa[ByteArray.size] using h
  rw[getElem?_neg (⟨s.toArray⟩:ByteArray) i this]
theorem qa2(s:List UInt8):(⟨s.toArray⟩:ByteArray).size=s.length:=by simp[ByteArray.size]
theorem um(s:List UInt8):(⟨s.toArray⟩:ByteArray).toList=s:=by
 rw[Lib.toList_data]
theorem yk{s:List UInt8}{v:Value}(h:Den w M β (.d (.str s)) v):v=strV s:=by
 cases h with
 |d h=>cases h;rfl
end
end
section
section
variable{P:Program}{TT:Nat->Option TI}{ts:List SV}{ks:List KB}{w:World}{M:Nat->Prop}{β:Env}{a:Act}{K:SV->Prop}{o:Oper}
theorem zw1[Dr](hTT:TTok P TT)(hT:∀ x,Den w M β (val ts x) (a.eval x)){t:TypeId}{x ix:Operand}(ho:o.op = .index t x ix)(h:pev P TT ts ks (.index t x ix) K):Ran P o a w M β K:=by
 unfold Ran;simp only[execOp,ho];simp only [pev,qm] at h;have hv:=hT x;generalize a.eval x=av at hv ⊢;have hw:=hT ix;generalize a.eval ix=iv at hw ⊢;split at h
 ·rename_i size bytes agg zero eqk ht;obtain⟨info,d,z,hi,hu,_,_,_,_,_,_,_,_,hd⟩:=qi hTT ht;cases hd;split at h
  ·rename_i s k n hx hix;rw [hx] at hv;rw [hix] at hw;cases ja hw;cases yk hv;obtain⟨⟨h0,h1⟩,h⟩:=h;have hlt:n.toNat<s.length:=by omega
   refine⟨_,.int .u8 (jc s n),h,?_,.d (.int _ _)⟩;simp[Instr.index,asIntOf,run_underlying hu,strV,h0,xo2,pp hlt,jc]
  ·cases h
 ·rename_i size bytes agg zero len e eqk ht;obtain⟨info,d,z,hi,hu,_,_,_,_,_,_,_,_,hd⟩:=qi hTT ht;cases hd;split at h
  ·cases h
  ·rename_i size' bytes' agg' zero' desc' eqk' hte;split at h
   ·rename_i l k n hx hix;rw [hx] at hv;rw [hix] at hw;cases ja hw;cases hv with
    |agg _ vs hl hdn h1' =>
     split at h
     ·rename_i k';split at h
      ·rename_i hlen;have hlen:=qv hlen;rw [y9] at hlen;obtain⟨⟨h0,h1⟩,h⟩:=h;obtain⟨xs,rfl,hK⟩:=qz1 h;have hxl:xs.length=len:=by simpa using hlen
       have hget:=yi3 xs n h0 (by omega);have hvl:n.toNat<vs.length:=by rw[<-hl];simp;omega
       have hval:=ja (hdn n.toNat (.d (.int k' (u0 xs n))) _ (by simp[hget]) (pp hvl));refine⟨_,.int k' (u0 xs n),hK,?_,.d (.int _ _)⟩;obtain⟨infoe,de,ze,hie,hue,hsze,_,_,hage,_,_,_,_,hde⟩:=qi hTT hte;simp only at hsze;cases hde;simp[Instr.index,asIntOf,run_underlying hu,h0,h1,run_sizeOf hie,hsze,part,run_isAgg hue,yt,pp hvl,hval]
      ·cases h
     ·obtain⟨⟨h0,h1⟩,h⟩:=h;obtain⟨r,v,hK,hr,hd'⟩:=yc7 (w:=w) (M:=M) (β:=β) hTT hte l (n.toNat * size') vs hl hdn h1' h;refine⟨r,v,hK,?_,hd'⟩;obtain⟨infoe,de,ze,hie,hue,hsze,_⟩:=qi hTT hte;simp only at hsze;simp[Instr.index,asIntOf,run_underlying hu,h0,h1,run_sizeOf hie,hsze,hr]
   ·cases h
 ·cases h
theorem qr4{x:DV}{k:Bool->Prop}(h:qc3 x k False):∃ b,k b/\∀ (w:World) (M:Nat->Prop) (v:Value),Rd w M x v->v = .bool b:=by
 unfold qc3 at h;split at h
 ·exact⟨_,h,fun _ _ _ hr=>by cases hr;rfl⟩
 ·exact⟨_,h,fun _ _ _ hr=>by cases hr;rfl⟩
 ·exact⟨_,h,fun _ _ _ hr=>by cases hr;rfl⟩
 ·cases h
theorem zs2(a b:List UInt8):(⟨a.toArray⟩:ByteArray)++⟨b.toArray⟩=⟨(a++b).toArray⟩:=by
 have:((⟨a.toArray⟩:ByteArray)++⟨b.toArray⟩).data=(a++b).toArray:=by simp
 exact congrArg ByteArray.mk this
theorem zd5(d:Nat)(t e:TypeId)(ad:Option Addr)(l c:Nat)(h:P.underlying t=some (.slice e)):(Op.equalIn (d+1) t (.slice ad l c) (.slice none 0 0)).run P w = .ok ad.isNone w:=by
 cases ad <;> simp[Op.equalIn,run_underlying h]
theorem w6[Dr](t e:TypeId)(ad:Option Addr)(l c:Nat)(h:P.underlying t=some (.slice e)):(Op.equal t (.slice ad l c) (.slice none 0 0)).run P w = .ok ad.isNone w :=
 zd5 9999 t e ad l c h
theorem yl3(d:Nat)(t:TypeId)(p q:Bool)(h:P.underlying t=some .bool):(Op.equalIn (d+1) t (.bool p) (.bool q)).run P w = .ok (p == q) w:=by
 simp[Op.equalIn,run_underlying h]
theorem jr1[Dr](t:TypeId)(p q:Bool)(h:P.underlying t=some .bool):(Op.equal t (.bool p) (.bool q)).run P w = .ok (p == q) w :=
 yl3 9999 t p q h
theorem xa6[Dr]{t:TypeId}{td:TD}{d:TypeDesc}(hu:P.underlying t=some d)(htd:TDok P d td){op:BinOp}{x y:DV}{u v:Value}(hx:Rd w M x u)(hy:Rd w M y v)(h:bin td op x y K) :
 ∃ r z,K r/\(binOp op t u v).run P w = .ok z w/\Den w M β r z:=by
 unfold bin at h;split at h
 ·rename_i k a k' b;cases hx;cases hy;split at h
  ·obtain⟨h0,h⟩:=h;exact⟨_,_,h,by simp[binOp,Op.shift,show ¬ b<0 from by omega],.d (.int _ _)⟩
  ·obtain⟨h0,h⟩:=h;exact⟨_,_,h,by simp[binOp,Op.shift,show ¬ b<0 from by omega],.d (.int _ _)⟩
  ·rename_i op hn1 hn2;split at h
   ·cases h
   ·rename_i hk;cases wr hk;split at h
    ·exact⟨_,_,h,by simp[binOp,Op.intArith],.d (.int _ _)⟩
    ·exact⟨_,_,h,by simp[binOp,Op.intArith],.d (.int _ _)⟩
    ·exact⟨_,_,h,by simp[binOp,Op.intArith],.d (.int _ _)⟩
    ·obtain⟨h0,h⟩:=h;exact⟨_,_,h,by simp[binOp,Op.intDiv,h0],.d (.int _ _)⟩
    ·obtain⟨h0,h⟩:=h;exact⟨_,_,h,by simp[binOp,Op.intDiv,h0],.d (.int _ _)⟩
    ·exact⟨_,_,h,by rw[binOp_and,intBits_and];rfl,.d (.int _ _)⟩
    ·exact⟨_,_,h,by rw[binOp_or,intBits_or];rfl,.d (.int _ _)⟩
    ·exact⟨_,_,h,by rw[binOp_xor,intBits_xor];rfl,.d (.int _ _)⟩
    ·exact⟨_,_,h,by rw[binOp_andNot,intBits_andNot];rfl,.d (.int _ _)⟩
    ·exact⟨_,_,h,by rw[binOp_eql];rfl,.d (.bool _)⟩
    ·exact⟨_,_,h,by rw[binOp_neq];rfl,.d (.bool _)⟩
    ·exact⟨_,_,h,by rw[binOp_lss];rfl,.d (.bool _)⟩
    ·exact⟨_,_,h,by rw[binOp_leq];rfl,.d (.bool _)⟩
    ·exact⟨_,_,h,by rw[binOp_gtr];rfl,.d (.bool _)⟩
    ·exact⟨_,_,h,by rw[binOp_geq];rfl,.d (.bool _)⟩
    ·cases h
 ·rename_i a b;cases hx;cases hy;split at h
  ·obtain⟨h0,h⟩:=h;refine⟨_,strV (a++b),h,?_,.d (.str _)⟩;have:¬ ((((⟨a.toArray⟩:ByteArray).size+(⟨b.toArray⟩:ByteArray).size:Nat):Int) > IntKind.i64.max):=by
    rw[qa2,qa2,IntKind.max_i64];omega
   simp only[binOp,strV,Op.stringOp,if_neg this];rw[zs2];rfl
  ·exact⟨_,_,h,by simp[binOp,strV,Op.stringOp,um],.d (.bool _)⟩
  ·exact⟨_,_,h,by simp[binOp,strV,Op.stringOp,um],.d (.bool _)⟩
  ·exact⟨_,_,h,by simp[binOp,strV,Op.stringOp,um],.d (.bool _)⟩
  ·exact⟨_,_,h,by simp[binOp,strV,Op.stringOp,um],.d (.bool _)⟩
  ·exact⟨_,_,h,by simp[binOp,strV,Op.stringOp,um],.d (.bool _)⟩
  ·exact⟨_,_,h,by simp[binOp,strV,Op.stringOp,um],.d (.bool _)⟩
  ·cases h
 ·rename_i b n sz f f';cases hy;split at h
  ·rename_i e;cases htd;cases hx
   ·exact⟨_,.bool true,h,by simp[binOp,w6 t e none 0 0 hu],.d (.bool _)⟩
   ·exact⟨_,.bool false,h,by simp[binOp,w6 t e (some _) _ _ hu],.d (.bool _)⟩
  ·rename_i e;cases htd;cases hx
   ·exact⟨_,.bool false,h,by simp[binOp,w6 t e none 0 0 hu],.d (.bool _)⟩
   ·exact⟨_,.bool true,h,by simp[binOp,w6 t e (some _) _ _ hu],.d (.bool _)⟩
  ·cases h
 ·obtain⟨p,h,hp⟩:=qr4 h;obtain⟨q,h,hq⟩:=qr4 h;cases hp w M u hx;cases hq w M v hy;split at h
  ·cases htd;exact⟨_,.bool (p == q),h,by simp[binOp,jr1 t p q hu],.d (.bool _)⟩
  ·cases htd;exact⟨_,.bool (!(p == q)),h,by simp[binOp,jr1 t p q hu],.d (.bool _)⟩
  ·cases h
end
end
section
section
variable{P:Program}{TT:Nat->Option TI}{ts:List SV}{ks:List KB}{w:World}{M:Nat->Prop}{β:Env}{a:Act}{K:SV->Prop}{o:Oper}
theorem yl2[Dr]{es:List EK}:∀ {l m:List SV} {c:Bool->Prop} (_:eqSK es l m c) (xs ys:List Value),l.length=xs.length->m.length=ys.length ->
 (∀ (j:Nat) (s:SV) (u:Value),l[j]? = some s->xs[j]? = some u->Den w M β s u)->(∀ (j:Nat) (s:SV) (u:Value),m[j]? = some s->ys[j]? = some u->Den w M β s u) ->
 c (jl es xs ys)/\xs.length=es.length/\ys.length=es.length/\(∀ (j:Nat) (k:EK) (x:Value),es[j]? = some k->xs[j]? = some x->fits k x)/\(∀ (j:Nat) (k:EK) (y:Value),es[j]? = some k->ys[j]? = some y->fits k y):=by
 induction es with
 |nil =>
  intro l m c h xs ys hl hm _ _;cases l with
  |nil=>cases m with
   |nil =>
    have:xs=[]:=f8 (by simpa using hl.symm);have:ys=[]:=f8 (by simpa using hm.symm)
    subst_vars
    exact⟨h,rfl,rfl,by simp,by simp⟩
   |cons=>exact h.elim
  |cons=>exact h.elim
 |cons e es ih =>
  intro l m c h xs ys hl hm hdx hdy;have go:∀ (s t:SV) (l' m':List SV) (b:Bool),l=s :: l'->m=t :: m'->(∀ u,Den w M β s u->fits e u)->(∀ u,Den w M β t u->fits e u)->(∀ u v,Den w M β s u->Den w M β t v->zr e u v=b)->eqSK es l' m' (fun q=>c (b && q)) ->
   c (jl (e :: es) xs ys)/\xs.length=(e :: es).length/\ys.length=(e :: es).length/\(∀ (j:Nat) (k:EK) (x:Value),(e :: es)[j]? = some k->xs[j]? = some x->fits k x)/\(∀ (j:Nat) (k:EK) (y:Value),(e :: es)[j]? = some k->ys[j]? = some y->fits k y):=by
   rintro s t l' m' b rfl rfl hs ht hst hq
   cases xs with
   |nil=>simp at hl
   |cons x xs=>cases ys with
    |nil=>simp at hm
    |cons y ys =>
     have hx:=hdx 0 s x rfl rfl;have hy:=hdy 0 t y rfl rfl;obtain⟨h1,h2,h3,h4,h5⟩:=ih hq xs ys (by simpa using hl) (by simpa using hm) (fun j s u a b=>hdx (j+1) s u (by simpa using a) (by simpa using b)) (fun j s u a b=>hdy (j+1) s u (by simpa using a) (by simpa using b));refine⟨by simp only[jl,hst x y hx hy];exact h1,by simp[h2],by simp[h3],fun j k z hj hz=>?_,fun j k z hj hz=>?_⟩
     ·cases j with
      |zero=>simp at hj hz;subst_vars;exact hs _ hx
      |succ j=>exact h4 j k z (by simpa using hj) (by simpa using hz)
     ·cases j with
      |zero=>simp at hj hz;subst_vars;exact ht _ hy
      |succ j=>exact h5 j k z (by simpa using hj) (by simpa using hz)
  unfold eqSK at h;split at h
  ·cases ‹e :: es=[]›
  ·rename_i he;obtain⟨rfl,rfl⟩:=m5 he;split at h
   ·rename_i hk1 hk2;have hk1:=wr hk1;have hk2:=wr hk2;subst hk1 hk2;exact go _ _ _ _ _ rfl rfl (fun u hu=>by cases ja hu;rfl) (fun u hu=>by cases ja hu;rfl) (fun u v hu hv=>by cases ja hu;cases ja hv;rfl) h
   ·cases h
  ·rename_i he;obtain⟨rfl,rfl⟩:=m5 he;obtain⟨p,h,hp⟩:=qr4 h;obtain⟨q,h,hq⟩:=qr4 h;exact go _ _ _ _ (p == q) rfl rfl (fun u hu=>by cases hu with|d hu=>cases hp w M u hu;trivial) (fun u hu=>by cases hu with|d hu=>cases hq w M u hu;trivial)
    (fun u v hu hv=>by cases hu with|d hu=>cases hv with|d hv=>cases hp w M u hu;cases hq w M v hv;rfl) h
  ·rename_i he;obtain⟨rfl,rfl⟩:=m5 he;exact go _ _ _ _ _ rfl rfl (fun u hu=>by cases yk hu;trivial) (fun u hu=>by cases yk hu;trivial) (fun u v hu hv=>by cases yk hu;cases yk hv;simp[strV,zr,um]) h
  ·cases h
theorem jb{x:DV}{v:Value}(h:Den w M β (.d x) v):Rd w M x v:=by cases h;assumption
theorem zd2{op:BinOp}{t:TypeId}{x y:Operand}{p q:DV}{u v:Value}(hu:Rd w M p u)(_hv:Rd w M q v):(eqGuard op t x y u v).run P w = .ok () w:=by
 cases hu <;> simp only[strV,eqGuard_at_int,eqGuard_at_bool,eqGuard_at_string,eqGuard_at_slice] <;> rfl
theorem qx4(d:Nat)(t e:TypeId)(p:Addr)(h:P.underlying t=some (.pointer e)):(Op.equalIn (d+1) t (.pointer (some p)) (.pointer none)).run P w = .ok false w:=by
 simp[Op.equalIn,run_underlying h]
theorem qc7(d:Nat)(t e:TypeId)(p:Option Addr)(h:P.underlying t=some (.pointer e)):(Op.equalIn (d+1) t (.pointer none) (.pointer p)).run P w = .ok p.isNone w:=by
 simp[Op.equalIn,run_underlying h]
theorem ji6[Dr](d:Nat)(t e:TypeId)(p q:Addr)(i:TypeInfo)(b:Bool)(h:P.underlying t=some (.pointer e))(hi:P.info? e=some i)(hz:i.size≠0)(hs:(sameAddr p q).run P w = .ok b w):(Op.equalIn (d+1) t (.pointer (some p)) (.pointer (some q))).run P w = .ok b w:=by
 simp[Op.equalIn,run_underlying h,run_sizeOf hi,hz,hs]
theorem yz1{t:TypeId}{u v:Option Addr}{b:Bool}(h:∀ d,(Op.equalIn (d+1) t (.pointer u) (.pointer v)).run P w = .ok b w)(op:BinOp)(x y:Operand) :
 (op = .eql->(do eqGuard op t x y (.pointer u) (.pointer v);binOp op t (.pointer u) (.pointer v):Sem Value).run P w = .ok (.bool b) w) /\
 (op = .neq->(do eqGuard op t x y (.pointer u) (.pointer v);binOp op t (.pointer u) (.pointer v):Sem Value).run P w = .ok (.bool (!b)) w):=by
 have e:(Op.equal t (.pointer u) (.pointer v)).run P w = .ok b w:=h 9999;refine⟨fun ho=>?_,fun ho=>?_⟩ <;> subst ho <;> simp[eqGuard,binOp,e]
def jh6(β:Env)(ks:List KB):Prop:=∀ (i j:Nat) (L L':Loc) (t t':TypeId) (l l':List SV),i≠j->ks[i]? = some (.cells t l)->ks[j]? = some (.cells t' l')->β i=some L->β j=some L'->L.b≠L'.b
def BoolD(x:DV)(b:Bool):Prop:=x = .bool b\/(x = .tt/\b=true)\/(x = .ff/\b=false)
theorem BoolD.rd{x:DV}{b:Bool}(h:BoolD x b)(w:World)(M:Nat->Prop):Rd w M x (.bool b):=by
 rcases h with rfl|⟨rfl,rfl⟩|⟨rfl,rfl⟩
 ·exact .bool _
 ·exact .tt
 ·exact .ff
theorem zp3{x:DV}{b:Bool}(hb:BoolD x b){K:SV->Prop}(h:jg4 x K):∃ s,K s/\∀ (w:World) (M:Nat->Prop) (β:Env),Den w M β s (.bool (!b)):=by
 rcases hb with rfl|⟨rfl,rfl⟩|⟨rfl,rfl⟩
 ·exact⟨_,h,fun _ _ _=>.d (.bool _)⟩
 ·exact⟨_,h,fun _ _ _=>.d .ff⟩
 ·exact⟨_,h,fun _ _ _=>.d .tt⟩
theorem jx3{x:SV}{c:Nat->Nat->Prop}(h:qu8 x c){u:Value}(hu:Den w M β x u):∃ i n,c i n/\((n=0/\u = .pointer none)\/∃ m L,n=m+1/\β i=some L/\u = .pointer (some ⟨m,0,none⟩)):=by
 unfold qu8 at h;split at h
 ·rename_i i n;cases hu with
  |npNil=>exact⟨_,_,h,.inl ⟨rfl,rfl⟩⟩
  |np _ m L hL=>exact⟨_,_,h,.inr ⟨m,L,rfl,hL,rfl⟩⟩
 ·rename_i i n off;split at h
  ·cases hu with
   |ap _ m _ L hL=>exact⟨_,_,h,.inr ⟨m,L,rfl,hL,rfl⟩⟩
  ·cases h
 ·cases h
theorem jz0[Dr]{P:Program}(hB:∀ (i:Nat) (L:Loc) (k:KB),ks[i]? = some k->k≠.gone->β i=some L->∃ fp,KBat w M β L fp k)(hA:jh6 β ks){x y:SV}{c:DV->Prop}(h:qn9 ks x y c){u v:Value}(hu:Den w M β x u)(hv:Den w M β y v)
 {t e:TypeId} {i:TypeInfo} (ht:P.underlying t=some (.pointer e)) (hi:P.info? e=some i) (hz:i.size≠0):∃ dv b p q,c dv/\BoolD dv b/\u = .pointer p/\v = .pointer q/\∀ d,(Op.equalIn (d+1) t (.pointer p) (.pointer q)).run P w = .ok b w:=by
 unfold qn9 at h;split at h
 ·rename_i i' a';cases hu with
  |ptr _ _ L hL =>
  split at h
  ·cases hv;exact⟨_,false,_,_,h,.inr (.inr ⟨rfl,rfl⟩),rfl,rfl,fun d=>qx4 d t e _ ht⟩
  ·rename_i j' b';cases hv with
   |ptr _ _ L' hL' =>
   split at h
   ·rename_i hij;cases qv hij;obtain rfl:L=L':=p7 (hL.symm.trans hL');have key:∀ b,Nat.beq a' b'=b->∀ d,(Op.equalIn (d+1) t (.pointer (some ⟨L.b,a',none⟩)) (.pointer (some ⟨L.b,b',none⟩))).run P w = .ok b w:=fun b hb d=>by
     refine ji6 d t e _ _ i _ ht hi hz ?_;simp only[sameAddr,beq_self_eq_true,if_true];show Result.ok _ _=_;cases b with
     |true=>simp[bq hb]
     |false =>
      have:a'≠b':=fun e=>by subst e;rw [show Nat.beq a' a'=true from cw a'] at hb;cases hb
      simp[this]
    split at h
    ·rename_i hb;exact⟨_,true,_,_,h,.inr (.inl ⟨rfl,rfl⟩),rfl,rfl,key true hb⟩
    ·rename_i hb;exact⟨_,false,_,_,h,.inr (.inr ⟨rfl,rfl⟩),rfl,rfl,key false hb⟩
   ·rename_i hij;have hne:i'≠j':=fun e=>by subst e;rw [show Nat.beq i' i'=true from cw i'] at hij;cases hij
    rw [qs] at h;split at h
    ·rename_i t1 l1 hg1;rw [qs] at h;split at h
     ·rename_i t2 l2 hg2;have k1:=qk hg1 (by simp);have k2:=qk hg2 (by simp);obtain⟨f1,hk1⟩:=jq hB hL k1 (by simp);obtain⟨f2,hk2⟩:=jq hB hL' k2 (by simp);have hb:=hA _ _ _ _ _ _ _ _ hne k1 k2 hL hL';cases hk1 with
      |cells _ _ v1 _ h1 =>
      cases hk2 with
      |cells _ _ v2 _ h2 =>
      exact⟨_,false,_,_,h,.inr (.inr ⟨rfl,rfl⟩),rfl,rfl,fun d=>ji6 d t e _ _ i _ ht hi hz (run_sameAddr_other w (fun e=>hb (congrArg Addr.block e)) h1 h2)⟩
     ·cases h
    ·cases h
  ·cases h
 ·cases hu;split at h
  ·cases hv;exact⟨_,true,_,_,h,.inr (.inl ⟨rfl,rfl⟩),rfl,rfl,fun d=>qc7 d t e _ ht⟩
  ·cases hv;exact⟨_,false,_,_,h,.inr (.inr ⟨rfl,rfl⟩),rfl,rfl,fun d=>qc7 d t e _ ht⟩
  ·cases hv;exact⟨_,false,_,_,h,.inr (.inr ⟨rfl,rfl⟩),rfl,rfl,fun d=>qc7 d t e _ ht⟩
  ·cases hv with
   |npNil=>exact⟨_,true,_,_,h,.inl rfl,rfl,rfl,fun d=>qc7 d t e _ ht⟩
   |np _ n L hL=>exact⟨_,false,_,_,h,.inl rfl,rfl,rfl,fun d=>qc7 d t e _ ht⟩
  ·cases h
 ·split at h
  ·cases hv;split at h
   ·cases hu;exact⟨_,false,_,_,h,.inr (.inr ⟨rfl,rfl⟩),rfl,rfl,fun d=>qx4 d t e _ ht⟩
   ·cases hu with
    |npNil=>exact⟨_,true,_,_,h,.inl rfl,rfl,rfl,fun d=>qc7 d t e _ ht⟩
    |np _ n L hL=>exact⟨_,false,_,_,h,.inl rfl,rfl,rfl,fun d=>qx4 d t e _ ht⟩
   ·cases h
  ·obtain⟨i',n,h,hn⟩:=jx3 h hu;obtain⟨j',m,h,hm⟩:=jx3 h hv;rw [qs] at h;split at h
   ·rename_i t1 dom c1 hg1;rw [qs] at h;split at h
    ·rename_i t2 dom' c2 hg2;obtain⟨⟨hdn,hdm⟩,h⟩:=h;rcases hn with⟨rfl,rfl⟩|⟨n,L,rfl,hL,rfl⟩
     ·rcases hm with⟨rfl,rfl⟩|⟨m,L',rfl,hL',rfl⟩
      ·exact⟨_,true,_,_,h,.inl rfl,rfl,rfl,fun d=>qc7 d t e _ ht⟩
      ·exact⟨_,false,_,_,h,.inl rfl,rfl,rfl,fun d=>qc7 d t e _ ht⟩
     ·rcases hm with⟨rfl,rfl⟩|⟨m,L',rfl,hL',rfl⟩
      ·exact⟨_,false,_,_,h,.inl rfl,rfl,rfl,fun d=>qx4 d t e _ ht⟩
      ·refine⟨_,n == m,_,_,h,.inl (by simp),rfl,rfl,fun d=>ji6 d t e _ _ i _ ht hi hz ?_⟩;by_cases hnm:n=m
       ·subst hnm;simp only[sameAddr,beq_self_eq_true,if_true];show Result.ok _ _=_;simp
       ·obtain⟨f1,hk1⟩:=jq hB hL (qk hg1 (by simp)) (by simp);obtain⟨f2,hk2⟩:=jq hB hL' (qk hg2 (by simp)) (by simp);cases hk1 with
        |arena _ _ _ _ _ h1 =>
        cases hk2 with
        |arena _ _ _ _ _ h2 =>
        obtain⟨v1,e1,_⟩:=h1 n (hdn (by omega));obtain⟨v2,e2,_⟩:=h2 m (hdm (by omega));rw[show(n == m)=false from by simpa using hnm];exact run_sameAddr_other w (fun e=>hnm (congrArg Addr.block e)) e1 e2
    ·cases h
   ·cases h
theorem zw4[Dr](hTT:TTok P TT)(hT:∀ x,Den w M β (val ts x) (a.eval x))(hB:∀ (i:Nat) (L:Loc) (k:KB),ks[i]? = some k->k≠.gone->β i=some L->∃ fp,KBat w M β L fp k)(hA:jh6 β ks){op:BinOp}{t t':TypeId}{x y:Operand}(ho:o.op = .binOp op t x y t')(h:pev P TT ts ks (.binOp op t x y t') K):Ran P o a w M β K:=by
 unfold Ran;simp only[execOp,ho];simp only [pev,qm] at h;have hv:=hT x;generalize a.eval x=av at hv ⊢;have hw:=hT y;generalize a.eval y=bv at hw ⊢;split at h
 ·rename_i p q hx hy;rw [hx] at hv;rw [hy] at hw;split at h
  ·rename_i size bytes agg zero desc eqk ht;obtain⟨info,d,z,hi,hu,_,_,_,_,_,_,_,_,hd⟩:=qi hTT ht;obtain⟨r,z,hK,hr,hd'⟩:=xa6 (β:=β) hu hd (jb hv) (jb hw) h;refine⟨r,z,hK,?_,hd'⟩;simp[zd2 (jb hv) (jb hw),hr]
  ·cases h
 ·rename_i l m hx hy;rw [hx] at hv;rw [hy] at hw;cases hv with
  |agg _ xs hlx hdx _ =>
  cases hw with
  |agg _ ys hly hdy _ =>
  split at h
  ·rename_i size bytes agg zero desc e es ht;have heq:=(hTT _ _ ht).eqk (by simp) w xs ys;simp only at heq;split at h
   ·obtain⟨hK,h1,h2,h3,h4⟩:=yl2 (w:=w) (M:=M) (β:=β) h xs ys hlx hly hdx hdy;obtain⟨hr,hg⟩:=heq h1 h2 h3 h4;refine⟨_,_,hK,?_,.d (.bool _)⟩;have:(eqGuard .eql t x y (.agg xs.toArray) (.agg ys.toArray)).run P w = .ok () w:=by simp[eqGuard,hg]
    simp[this,binOp,hr]
   ·obtain⟨hK,h1,h2,h3,h4⟩:=yl2 (w:=w) (M:=M) (β:=β) h xs ys hlx hly hdx hdy;obtain⟨hr,hg⟩:=heq h1 h2 h3 h4;refine⟨_,_,hK,?_,.d (.bool _)⟩;have:(eqGuard .neq t x y (.agg xs.toArray) (.agg ys.toArray)).run P w = .ok () w:=by simp[eqGuard,hg]
    simp[this,binOp,hr]
   ·cases h
  ·cases h
 ·rename_i b hx hy;rw [hx] at hv;rw [hy] at hw;split at h
  ·rename_i size bytes agg zero eqk ht;obtain⟨info,d,z,hi,hu,_,_,_,_,_,_,_,_,hd⟩:=qi hTT ht;obtain⟨ms,rfl⟩:=hd;cases hw;have hq1:∀ (d:Nat) tp v,(Op.equalIn (d+1) t (.iface tp v) .nilIface).run P w = .ok false w:=fun d tp v=>by simp[Op.equalIn,run_underlying hu]
   have hq2:∀ (d:Nat),(Op.equalIn (d+1) t .nilIface .nilIface).run P w = .ok true w:=fun d=>by simp[Op.equalIn,run_underlying hu]
   have e1:∀ tp v,(Op.equal t (.iface tp v) .nilIface).run P w = .ok false w:=fun tp v=>hq1 9999 tp v
   have e2:(Op.equal t .nilIface .nilIface).run P w = .ok true w:=hq2 9999;cases hv with
   |err _ _ h1 h2 =>
   split at h
   ·rename_i cv;cases b with
    |true =>
     obtain⟨tp,xv,rfl⟩:=h1 rfl;split at h
     ·exact⟨_,.bool false,h,by simp[eqGuard,binOp,e1],.d (.bool _)⟩
     ·exact⟨_,.bool true,h,by simp[eqGuard,binOp,e1],.d (.bool _)⟩
     ·cases h
    |false =>
     have:=h2 rfl;subst this;split at h
     ·exact⟨_,.bool true,h,by simp[eqGuard,binOp,e2],.d (.bool _)⟩
     ·exact⟨_,.bool false,h,by simp[eqGuard,binOp,e2],.d (.bool _)⟩
     ·cases h
   ·cases h
  ·cases h
 ·rename_i tp xv hx hy;rw [hx] at hv;rw [hy] at hw;split at h
  ·rename_i size bytes agg zero eqk ht;obtain⟨info,d,z,hi,hu,_,_,_,_,_,_,_,_,hd⟩:=qi hTT ht;obtain⟨ms,rfl⟩:=hd;cases hw;cases hv;have hq1:∀ (d:Nat) tp v,(Op.equalIn (d+1) t (.iface tp v) .nilIface).run P w = .ok false w:=fun d tp v=>by simp[Op.equalIn,run_underlying hu]
   have e1:∀ tp v,(Op.equal t (.iface tp v) .nilIface).run P w = .ok false w:=fun tp v=>hq1 9999 tp v
   split at h
   ·rename_i cv;split at h
    ·exact⟨_,.bool false,h,by simp[eqGuard,binOp,e1],.d (.bool _)⟩
    ·exact⟨_,.bool true,h,by simp[eqGuard,binOp,e1],.d (.bool _)⟩
    ·cases h
   ·cases h
  ·cases h
 ·rename_i i hx hy;rw [hx] at hv;rw [hy] at hw;split at h
  ·rename_i size bytes agg zero kt et eqk ht;obtain⟨info,d,z,hi,hu,_,_,_,_,_,_,_,_,hd⟩:=qi hTT ht;cases hd;cases hw;cases hv with
   |map _ L hL =>
    have e1:(Op.equal t (.map (some L.b)) (.map none)).run P w = .ok false w:=by
     have:∀ d:Nat,(Op.equalIn (d+1) t (.map (some L.b)) (.map none)).run P w = .ok false w:=fun d=>by simp[Op.equalIn,run_underlying hu]
     exact this 9999
    split at h
    ·exact⟨_,.bool false,h,by simp[eqGuard,binOp,e1],.d .ff⟩
    ·exact⟨_,.bool true,h,by simp[eqGuard,binOp,e1],.d .tt⟩
    ·cases h
  ·cases h
 ·rename_i i off n c f' hx hy;rw [hx] at hv;rw [hy] at hw;split at h
  ·rename_i size bytes agg zero e eqk ht;obtain⟨info,d,z,hi,hu,_,_,_,_,_,_,_,_,hd⟩:=qi hTT ht;cases hd;cases jb hw;cases hv with
   |cs _ _ _ _ L hL hnc =>
    split at h
    ·refine⟨_,.bool false,h,?_,.d .ff⟩;simp[eqGuard,binOp,w6 t e (some _) _ _ hu]
    ·refine⟨_,.bool true,h,?_,.d .tt⟩;simp[eqGuard,binOp,w6 t e (some _) _ _ hu]
    ·cases h
  ·cases h
 ·rename_i i f' hx hy;rw [hx] at hv;rw [hy] at hw;split at h
  ·rename_i size bytes agg zero e eqk ht;obtain⟨info,d,z,hi,hu,_,_,_,_,_,_,_,_,hd⟩:=qi hTT ht;cases hd;cases jb hw;rw [qs] at h;cases hk:getB ks i with
   |row e' sz n z f =>
    rw [hk] at h;simp only at h;have hks:=qk hk (by simp);have hnn:∀ L:Loc,β i=some L->(L.nil=true->z≠.no/\n=0)/\(L.nil=false->z = .iff->0<n):=fun L hL=>by
     obtain⟨fp,hkb⟩:=hB i L _ hks (by simp) hL;cases hkb with
     |rowNil _ _ _ _ h0 h1 h2 h3 h4=>exact ⟨fun _=>⟨h4,rfl⟩,fun h=>by rw [h1] at h;cases h⟩
     |row _ _ _ _ _ vs fz h0 h1 h2 hn h3=>exact ⟨fun h=>(by rw [h1] at h;cases h),fun _=>h3⟩
    cases hv with
    |allNil _ L hL hnil =>
     obtain⟨hz,rfl⟩:=(hnn L hL).1 hnil;split at h
     ·exact absurd rfl hz
     ·split at h
      ·refine⟨_,.bool true,h,?_,.d (.bool true)⟩;simp[eqGuard,binOp,w6 t e none 0 0 hu]
      ·refine⟨_,.bool false,h,?_,.d (.bool false)⟩;simp[eqGuard,binOp,w6 t e none 0 0 hu]
      ·cases h
     ·cases h
    |all _ L hL hnil =>
     have hpos:=(hnn L hL).2 hnil;split at h
     ·split at h
      ·refine⟨_,.bool false,h,?_,.d .ff⟩;simp[eqGuard,binOp,w6 t e (some _) _ _ hu]
      ·refine⟨_,.bool true,h,?_,.d .tt⟩;simp[eqGuard,binOp,w6 t e (some _) _ _ hu]
      ·cases h
     ·have hb:Nat.beq n 0=false:=by
       have:=hpos rfl;cases n with
       |zero=>omega
       |succ n=>rfl
      rw [hb] at h;split at h
      ·refine⟨_,.bool false,h,?_,.d (.bool false)⟩;simp[eqGuard,binOp,w6 t e (some _) _ _ hu]
      ·refine⟨_,.bool true,h,?_,.d (.bool true)⟩;simp[eqGuard,binOp,w6 t e (some _) _ _ hu]
      ·cases h
     ·cases h
   |_=>rw [hk] at h;exact h.elim
  ·cases h
 ·split at h
  ·rename_i size bytes agg zero e eqk ht;obtain⟨info,d,z,hi,hu,_,_,_,_,_,_,_,_,hd⟩:=qi hTT ht;cases hd;split at h
   ·rename_i size' bytes' agg' zero' desc' eqk' hte;obtain⟨infoe,de,ze,hie,hue,hsze,_⟩:=qi hTT hte;split at h
    ·rename_i hble;have hz:infoe.size≠0:=by have:=jr hble;simp only at hsze;omega
     split at h
     ·obtain⟨dv,b,p,q,hc,hbd,rfl,rfl,he⟩:=jz0 (P:=P) hB hA h hv hw hu hie hz;refine⟨_,_,hc,?_,.d (hbd.rd _ _)⟩;have:=(yz1 he .eql x y).1 rfl;simp only [p6] at this ⊢;rw[this];rfl
     ·obtain⟨dv,b,p,q,hc,hbd,rfl,rfl,he⟩:=jz0 (P:=P) hB hA h hv hw hu hie hz;obtain⟨s,hK,hs⟩:=zp3 hbd hc;refine⟨s,_,hK,?_,hs _ _ _⟩;have:=(yz1 he .neq x y).2 rfl;simp only [p6] at this ⊢;rw[this];rfl
     ·cases h
    ·cases h
   ·cases h
  ·cases h
theorem xf0[Dr](hT:∀ x,Den w M β (val ts x) (a.eval x)){op:UnOp}{t:TypeId}{x:Operand}(ho:o.op = .unOp op t x)(h:pev P TT ts ks (.unOp op t x) K):Ran P o a w M β K:=by
 unfold Ran;simp only[execOp,ho];simp only [pev,qm] at h;have hv:=hT x;generalize a.eval x=av at hv ⊢;split at h
 ·rename_i hx;rw [hx] at hv;cases jb hv;exact ⟨_,_,h,by simp [Op.unary],.d .ff⟩
 ·rename_i hx;rw [hx] at hv;cases jb hv;exact ⟨_,_,h,by simp [Op.unary],.d .tt⟩
 ·rename_i b hx;rw [hx] at hv;cases jb hv;exact ⟨_,_,h,by simp [Op.unary],.d (.bool _)⟩
 ·rename_i k n hx;rw [hx] at hv;cases jb hv;exact ⟨_,_,h,by simp [Op.unary,Op.intArith],.d (.int _ _)⟩
 ·rename_i k n hx;rw [hx] at hv;cases jb hv;exact ⟨_,_,h,by simp [Op.unary,intBits_xor],.d (.int _ _)⟩
 ·cases h
end
end
section
section
variable{P:Program}{TT:Nat->Option TI}{ts:List SV}{ks:List KB}{w:World}{M:Nat->Prop}{β:Env}{a:Act}{K:SV->Prop}{o:Oper}
theorem ze5(vs:List Value)(bs:List UInt8)(hl:vs.length=bs.length)(h:∀ (j:Nat) (v:Value) (b:UInt8),vs[j]? = some v->bs[j]? = some b->∃ x:Int,v = .int .u8 x/\UInt8.ofNat x.toNat=b) :
 ∀ s:ByteArray,(forIn vs s (fun(c:Value) (s:ByteArray)=>match c with
  | .int .u8 n=>(pure (ForInStep.yield (s.push (UInt8.ofNat n.toNat))):Sem (ForInStep ByteArray))
  |_=>do
   stuck "bytesToString: byte expected"
   pure (ForInStep.yield s)):Sem ByteArray).run P w = .ok (s++⟨bs.toArray⟩) w:=by
 induction vs generalizing bs with
 |nil =>
  intro s;have:bs=[]:=f8 (by simpa using hl.symm);subst this;have:s++(⟨#[]⟩:ByteArray)=s:=by apply ByteArray.ext;simp
  simp[this]
 |cons v vs ih =>
  intro s;cases bs with
  |nil=>simp at hl
  |cons b bs =>
   obtain⟨x,rfl,hx⟩:=h 0 v b rfl rfl;simp only[List.forIn_cons,p6];simp only[oy,p9];rw[ih bs (by simpa using hl) (fun j v b a c=>h (j+1) v b (by simpa using a) (by simpa using c)),hx];congr 1;apply ByteArray.ext;simp[ByteArray.push]
theorem ju8[Dr](ad:Addr)(n cap:Nat)(vs:List Value)(bs:List UInt8)(hl:vs.length=bs.length)(hn:vs.length=n)(hc:∀ (j:Nat) (u:Value),vs[j]? = some u->w.cell? (ad.add j)=some u)
 (h:∀ (j:Nat) (v:Value) (b:UInt8),vs[j]? = some v->bs[j]? = some b->∃ x:Int,v = .int .u8 x/\UInt8.ofNat x.toNat=b) :
 (Conv.bytesToString (.slice (some ad) n cap)).run P w = .ok (strV bs) w:=by
 have hf:=ze5 (P:=P) (w:=w) vs bs hl h ByteArray.empty;simp only[Conv.bytesToString,p6,jv7 ad vs n hn hc,p9];rw[<-Array.forIn_toList];simp only[sw];have:(ByteArray.empty++⟨bs.toArray⟩:ByteArray)=⟨bs.toArray⟩:=by apply ByteArray.ext;simp[ByteArray.empty,ByteArray.emptyWithCapacity];rfl
 rw [this] at hf;exact(congrArg (fun r=>Result.andThen r _) hf).trans rfl
theorem je5{k:IntKind}{n:Int}{v:Value}(h:Rd w M (.int k n) v):v = .int k n:=by cases h;rfl
theorem qx6{n:Nat}{f:Nat->List DV}(h:jc4 n f)(j:Nat)(b:UInt8)(hb:(yb n f)[j]? = some b):j<n/\∃ x:Int,f j=[.int .u8 x]/\UInt8.ofNat x.toNat=b:=by
 unfold yb at hb;rw [o4] at hb;rcases oo j n with hj|hj
 ·rw [co hj] at hb;obtain⟨x,hx⟩:=h j hj;refine⟨hj,x,hx,?_⟩;simp [hx] at hb;exact hb
 ·rw [gp (by simpa using hj)] at hb;cases hb
theorem jp2[Dr]{b e:Nat}{vs:Array Value}{fz:Nat × Nat}(hb:w.heap[b]? = some (.cells vs e fz))(off n cap:Nat)(bs:List UInt8)(hlen:bs.length=n)(h:∀ (j:Nat) (b':UInt8),bs[j]? = some b'->∃ x:Int,vs[off+j]? = some (.int .u8 x)/\UInt8.ofNat x.toNat=b') :
 (Conv.bytesToString (.slice (some ⟨b,off,none⟩) n cap)).run P w = .ok (strV bs) w:=by
 refine ju8 (P:=P) (w:=w) ⟨b,off,none⟩ n cap ((List.range n).map fun j=>vs[off+j]?.getD undef) bs (by simp[hlen]) (by simp) (fun j v hv=>?_) (fun j v b' hv hb'=>?_)
 ·obtain⟨hj,rfl⟩:=w5 hv;obtain⟨x,hx,_⟩:=h j _ (pp (by omega));rw[show(⟨b,off,none⟩:Addr).add j=⟨b,off+j,none⟩ from by unfold Addr.add;split <;> simp_all];simp[World.cell?,hb,hx]
 ·obtain⟨hj,rfl⟩:=w5 hv;obtain⟨x,hx,hxb⟩:=h j b' hb';exact⟨x,by simp[hx],hxb⟩
theorem zd0(xs:List Int):(vr xs).length=xs.length:=by
 induction xs with
 |nil=>rfl
 |cons x xs ih=>simp[vr,ih]
theorem zi2{xs:List Int}{j:Nat}{b:UInt8}(h:(vr xs)[j]? = some b):∃ x,xs[j]? = some x/\UInt8.ofNat x.toNat=b:=by
 induction xs generalizing j with
 |nil=>simp [vr] at h
 |cons x xs ih=>cases j with
  |zero=>simp [vr] at h;exact ⟨x,rfl,h⟩
  |succ j=>simpa using ih (by simpa[vr] using h)
theorem zj4[Dr](hTT:TTok P TT)(hT:∀ x,Den w M β (val ts x) (a.eval x))(hB:∀ (i:Nat) (L:Loc) (k:KB),ks[i]? = some k->k≠.gone->β i=some L->∃ fp,KBat w M β L fp k){src dst:TypeId}{x:Operand}(ho:o.op = .convert src dst x)(h:pev P TT ts ks (.convert src dst x) K):Ran P o a w M β K:=by
 unfold Ran;simp only[execOp,ho];simp only [pev,qm] at h;have hv:=hT x;generalize a.eval x=av at hv ⊢;split at h
 ·cases h
 ·rename_i size bytes agg zero ds eqk hts;split at h
  ·rename_i size' bytes' agg' zero' k eqk' htd;obtain⟨info,d,z,hi,hu,_⟩:=qi hTT hts;obtain⟨info',d',z',hi',hu',_,_,_,_,_,_,_,_,hd'⟩:=qi hTT htd;cases hd';split at h
   ·rename_i k' n hx;rw [hx] at hv;cases ja hv;refine⟨_,.int k (k.wrap n),h,?_,.d (.int _ _)⟩;simp[convert,run_underlying hu,run_underlying hu',Conv.intToInt]
   ·cases h
  ·rename_i size' bytes' agg' zero' eqk' htd;split at h
   ·rename_i s hx;rw [hx] at hv;cases yk hv;obtain⟨info,d,z,hi,hu,_⟩:=qi hTT hts;obtain⟨info',d',z',hi',hu',_,_,_,_,_,_,_,_,hd'⟩:=qi hTT htd;cases hd';refine⟨_,strV s,h,?_,.d (.str _)⟩;simp[convert,run_underlying hu,run_underlying hu',strV]
   ·rename_i nil n f hx;rw [hx] at hv;split at h
    ·rename_i e;split at h
     ·rename_i size2 bytes2 agg2 zero2 eqk2 hte;obtain⟨hby,h⟩:=h;obtain⟨info,d,z,hi,hu,_,_,_,_,_,_,_,_,hd⟩:=qi hTT hts;obtain⟨info',d',z',hi',hu',_,_,_,_,_,_,_,_,hd'⟩:=qi hTT htd;obtain⟨info2,d2,z2,hi2,hu2,_,_,_,_,_,_,_,_,hd2⟩:=qi hTT hte;cases hd;cases hd';cases hd2;cases jb hv with
      |nil =>
       refine⟨_,strV (yb 0 f),h,?_,.d (.str _)⟩;simp[convert,run_underlying hu,run_underlying hu',run_underlying hu2,Conv.bytesToString,strV,yb];rfl
      |sl _ _ _ ad cap u hcap hblk hlen hcell hrd =>
       refine⟨_,strV (yb n f),h,?_,.d (.str _)⟩;have hb:=ju8 (P:=P) (w:=w) ad n cap ((List.range n).map fun i=>u i 0) (yb n f) (by simp[yb]) (by simp) (fun j v hv=>by
        obtain⟨hj,rfl⟩:=w5 hv;obtain⟨x,hx⟩:=hby j hj;have:=hcell j 0 (.int .u8 x) hj (by simp[hx]);simpa using this) (fun j v b hv hb=>by
        obtain⟨hj,rfl⟩:=w5 hv;obtain⟨_,x,hx,hxb⟩:=qx6 hby j b hb;have:=hrd j 0 (.int .u8 x) hj (by simp[hx]);exact⟨x,je5 this,hxb⟩)
       simp[convert,run_underlying hu,run_underlying hu',run_underlying hu2,hb]
     ·cases h
    ·cases h
   ·rename_i i off n c hx;rw [hx] at hv;cases hv with
    |cs _ _ _ _ L hbi hnc =>
    split at h
    ·rename_i e;split at h
     ·rename_i size2 bytes2 agg2 zero2 eqk2 hte;rw [qs] at h;split at h
      ·rename_i t' l hg;split at h
       ·rename_i hble;rw [y9] at hble;have hble:=jr hble;rw [qa3,qa1] at h;obtain⟨xs,hxs,hK⟩:=qz1 h;obtain⟨info,d,z,hi,hu,_,_,_,_,_,_,_,_,hd⟩:=qi hTT hts;obtain⟨info',d',z',hi',hu',_,_,_,_,_,_,_,_,hd'⟩:=qi hTT htd;obtain⟨info2,d2,z2,hi2,hu2,_,_,_,_,_,_,_,_,hd2⟩:=qi hTT hte;cases hd;cases hd';cases hd2;obtain⟨fp',hk⟩:=jq hB hbi (qk hg (by simp)) (by simp);cases hk with
        |cells _ _ vs hfp hb hl hd h1 =>
         have hxl:xs.length=n:=by
          have:=congrArg List.length hxs;simp at this;omega
         refine⟨_,strV (vr xs),hK,?_,.d (.str _)⟩;have hb':=jp2 (P:=P) hb off n c (vr xs) (by rw[zd0,hxl]) (fun j b' hj=>by
          obtain⟨x,hx,hxb⟩:=zi2 hj;have hj':j<n:=by have:=(pq.1 hx).1;omega
          refine⟨x,?_,hxb⟩;have h2:((l.drop off).take n)[j]? = some (.d (.int .u8 x)):=by rw[hxs];simp[hx]
          rw [mu,if_pos hj',lq] at h2;have hvs:vs[off+j]? = some (vs[off+j]'(by omega)):=oz (by omega);rw[hvs,ja (hd _ _ _ h2 hvs)])
         simp[convert,run_underlying hu,run_underlying hu',run_underlying hu2,hb']
       ·cases h
      ·cases h
     ·cases h
    ·cases h
   ·rename_i i hx;rw [hx] at hv;split at h
    ·rename_i e;split at h
     ·rename_i size2 bytes2 agg2 zero2 eqk2 hte;rw [qs] at h;split at h
      ·rename_i e' n z f hg;obtain⟨hby,h⟩:=h;obtain⟨info,d,z',hi,hu,_,_,_,_,_,_,_,_,hd⟩:=qi hTT hts;obtain⟨info',d',z'',hi',hu',_,_,_,_,_,_,_,_,hd'⟩:=qi hTT htd;obtain⟨info2,d2,z2,hi2,hu2,_,_,_,_,_,_,_,_,hd2⟩:=qi hTT hte;cases hd;cases hd';cases hd2;refine⟨_,strV (yb n f),h,?_,.d (.str _)⟩;cases hv with
       |allNil _ L hbi hnil =>
        obtain⟨fp',hk⟩:=jq hB hbi (qk hg (by simp)) (by simp);cases hk with
        |rowNil =>
         simp[convert,run_underlying hu,run_underlying hu',run_underlying hu2,Conv.bytesToString,strV,yb]
         rfl
        |row _ _ _ _ _ vs fz hfp hnil'=>rw [hnil] at hnil';cases hnil'
       |all _ L hbi hnil =>
        obtain⟨fp',hk⟩:=jq hB hbi (qk hg (by simp)) (by simp);cases hk with
        |rowNil _ _ _ _ _ hnil'=>rw [hnil] at hnil';cases hnil'
        |row _ _ _ _ _ vs fz hfp _ hLs hLn hzz hb hfz hvs hng hfl hr _ =>
         have hb':=jp2 (P:=P) hb 0 n L.c (yb n f) (by simp[yb]) (fun j b' hj=>by
          obtain⟨hjn,x,hx,hxb⟩:=qx6 hby j b' hj;have hlt:j<vs.size:=by omega
          refine⟨x,?_,hxb⟩;have:=hr j 0 (.int .u8 x) (vs[j]'hlt) hjn (by simp[hx]) (by simp);simp[hlt,je5 this])
         simp[convert,run_underlying hu,run_underlying hu',run_underlying hu2,hLn,hb']
      ·cases h
     ·cases h
    ·cases h
   ·rename_i i lo n hx;rw [hx] at hv;split at h
    ·rename_i e;split at h
     ·rename_i size2 bytes2 agg2 zero2 eqk2 hte;rw [qs] at h;split at h
      ·rename_i e' m z f hg;obtain⟨hnm,hby,h⟩:=h;obtain⟨info,d,z',hi,hu,_,_,_,_,_,_,_,_,hd⟩:=qi hTT hts;obtain⟨info',d',z'',hi',hu',_,_,_,_,_,_,_,_,hd'⟩:=qi hTT htd;obtain⟨info2,d2,z2,hi2,hu2,_,_,_,_,_,_,_,_,hd2⟩:=qi hTT hte;cases hd;cases hd';cases hd2;refine⟨_,strV (yb n (fun j=>f (lo+j))),h,?_,.d (.str _)⟩;cases hv with
       |rowNil _ L hbi hnil =>
        simp[convert,run_underlying hu,run_underlying hu',run_underlying hu2,Conv.bytesToString,strV,yb]
        rfl
       |row _ _ _ off L hbi hnil hc ho' =>
        obtain⟨fp',hk⟩:=jq hB hbi (qk hg (by simp)) (by simp);cases hk with
        |rowNil _ _ _ _ _ hnil'=>rw [hnil] at hnil';cases hnil'
        |row _ _ _ _ _ vs fz hfp _ hLs hLn hzz hb hfz hvs hng hfl hr _ =>
         have hb':=jp2 (P:=P) hb off n (L.c - lo) (yb n (fun j=>f (lo+j))) (by simp[yb]) (fun j b' hj=>by
          obtain⟨hjn,x,hx,hxb⟩:=qx6 hby j b' hj;have hlt:lo+j<vs.size:=by omega
          have hoff:off=lo:=by rw[ho' (.inl (by omega)),hLs,Nat.mul_one]
          refine⟨x,?_,hxb⟩;have:=hr (lo+j) 0 (.int .u8 x) (vs[lo+j]'hlt) (by omega) (by simp[hx]) (by simp);simp[hoff,hlt,je5 this])
         simp[convert,run_underlying hu,run_underlying hu',run_underlying hu2,hb']
      ·cases h
     ·cases h
    ·cases h
   ·cases h
  ·cases h
theorem zj3[Dr](hT:∀ x,Den w M β (val ts x) (a.eval x)){x:Operand}{i:Nat}(ho:o.op = .extract x i)(h:pev P TT ts ks (.extract x i) K):Ran P o a w M β K:=by
 unfold Ran;simp only[execOp,ho];simp only [pev,qm] at h;have hv:=hT x;generalize a.eval x=av at hv ⊢;split at h
 ·rename_i l hx;rw [hx] at hv;split at h
  ·rename_i hlt;rw [y9] at hlt;have hlt:=jr hlt;rw [qd9] at h;cases hv with
   |tup _ vs hl hd =>
    obtain⟨u,hu,hd'⟩:=jr4 hl hd i (by omega);exact⟨_,u,h,by simp[Instr.extract,hu],hd'⟩
  ·cases h
 ·cases h
theorem qq3(l:List SV)(xs:List Operand):(vals l xs).length=xs.length:=by
 induction xs with
 |nil=>rfl
 |cons x xs ih=>simp[vals,ih]
theorem ym6(l:List SV)(xs:List Operand)(j:Nat):(vals l xs)[j]? = (xs[j]?).map (val l):=by
 induction xs generalizing j with
 |nil=>simp[vals]
 |cons x xs ih=>cases j <;> simp[vals,ih]
theorem zg7[Dr](hT:∀ x,Den w M β (val ts x) (a.eval x)){fn:Fn}{first caps:Array Operand}(ho:o.op = .makeFunc fn first caps)(h:pev P TT ts ks (.makeFunc fn first caps) K):Ran P o a w M β K:=by
 unfold Ran;simp only[execOp,ho];simp only [pev,qa0] at h;split at h
 ·rename_i f hf;have hf0:first = #[]:=by cases first;simp_all
  subst hf0;refine⟨_,.func (.func f) #[] (caps.toList.map a.eval).toArray,h,by simp[Instr.makeFunc];apply Array.ext';simp,.fn f _ _ (by simp[qq3]) (fun j s u hs hu=>?_)⟩;rw [ym6] at hs;rw [o4] at hu;cases hc:caps.toList[j]? with
  |none=>rw [hc] at hs;cases hs
  |some x =>
   rw [hc] at hs hu;cases hs;cases hu;exact hT x
 ·cases h
theorem zg6[Dr](hT:∀ x,Den w M β (val ts x) (a.eval x)){x:Operand}(ho:o.op = .nilCheck x)(h:pev P TT ts ks (.nilCheck x) K):Ran P o a w M β K:=by
 unfold Ran;simp only[execOp,ho];simp only [pev,qm] at h;have hv:=hT x;generalize a.eval x=av at hv ⊢;split at h
 ·rename_i hx;rw [hx] at hv;cases hv with
  |ptr _ _ b hbi=>exact⟨_,_,h,by simp,.ptr _ _ b hbi⟩
 ·rename_i hx;rw [hx] at hv;cases hv with
  |dptr _ _ ad u h1 h2 h3 h4=>exact⟨_,_,h,by simp,.dptr _ _ ad u h1 h2 h3 h4⟩
 ·rename_i hx;rw [hx] at hv;cases hv with
  |rptr _ _ _ _ b hbi hj=>exact⟨_,_,h,by simp,.rptr _ _ _ _ b hbi hj⟩
 ·rename_i hx;rw [hx] at hv;cases hv with
  |ap _ n _ L hL=>exact⟨_,_,h,by simp,.ap _ n _ L hL⟩
 ·rename_i hx;rw [hx] at hv;obtain ⟨hne,h⟩:=h;cases hv with
  |npNil _=>exact absurd rfl hne
  |np _ n L hL=>exact⟨_,_,h,by simp,.ap _ n 0 L hL⟩
 ·rename_i f caps hx;rw [hx] at hv;cases hv with
  |fn _ _ vs hl hd=>exact⟨_,_,h,by simp,.fn f caps vs hl hd⟩
 ·cases h
theorem zg2[Dr]{t:TypeId}(hu:P.underlying t=some .string)(s:List UInt8)(lo hi:Option Value)(l h:Nat)(hr:(Instr.sliceBounds false s.length s.length lo hi none).run P w = .ok (l,h,s.length) w) :
 (Instr.sliceAt t (strV s) lo hi none).run P w = .ok (strV ((s.drop l).take (h - l))) w:=by
 simp only[Instr.sliceAt,p6,run_underlying hu,p9,Instr.slice,strV,qa2,hr];simp only[sy,d6,if_false,oy,p6,hr,p9];rw[Lib.extract_eq]
theorem u7{k:IntKind}{n:Int}{y:Nat}(c:BoundsCode)(h0:0<=n)(h1:n<=y):(Instr.sliceBound (.int k n) y c).run P w = .ok n.toNat w:=by
 simp[Instr.sliceBound,asIntOf,h0,h1]
def qe8(a:Act)(o:Option Operand)(d n:Int):Prop:=(o=none/\n=d)\/∃ x k,o=some x/\a.eval x = .int k n
theorem x8[Dr](hT:∀ x,Den w M β (val ts x) (a.eval x)){o:Option Operand}{d:Int}{c:Int->Prop}(h:j9 ts o d c):∃ n,qe8 a o d n/\c n:=by
 unfold j9 at h;split at h
 ·exact⟨d,.inl ⟨rfl,rfl⟩,h⟩
 ·rename_i x;rw [qm] at h;split at h
  ·rename_i k n hx;have:=hT x;rw [hx] at this;exact⟨n,.inr ⟨x,k,rfl,ja this⟩,h⟩
  ·cases h
theorem jj7[Dr](fl:Bool){len cap:Nat}(hlc:len<=cap){lo hi:Option Operand}{l h:Int}(hl:qe8 a lo 0 l)(hh:qe8 a hi len h)(h0:0<=l)(h1:l<=h)(h2:h<=len) :
 (Instr.sliceBounds fl len cap (lo.map a.eval) (hi.map a.eval) none).run P w = .ok (l.toNat,h.toNat,cap) w:=by
 rcases hl with⟨rfl,rfl⟩|⟨x,k,rfl,ex⟩ <;> rcases hh with⟨rfl,rfl⟩|⟨y,k',rfl,ey⟩
 ·simp[Instr.sliceBounds]
 ·simp only[bz,o8,ey,Instr.sliceBounds,p6,oy,p9,u7 (y:=cap) _ (show 0<=h from by omega) (by omega)];simp
 ·simp only[bz,o8,ex,Instr.sliceBounds,p6,oy,p9,u7 (y:=len) _ h0 (by omega)];simp
 ·simp only[o8,ex,ey,Instr.sliceBounds,p6,oy,p9,u7 (y:=cap) _ (show 0<=h from by omega) (by omega),u7 (y:=h.toNat) _ h0 (by omega)]
theorem zi5[Dr](fl:Bool){len cap:Nat}{lo hi mx:Option Operand}{l h m d:Int}(hl:qe8 a lo 0 l)(hh:qe8 a hi len h)(hm:qe8 a mx d m)(hhs:hi.isSome=true)(hms:mx.isSome=true)(h0:0<=l)(h1:l<=h)(h2:h<=m)(h3:m<=cap) :
 (Instr.sliceBounds fl len cap (lo.map a.eval) (hi.map a.eval) (mx.map a.eval)).run P w = .ok (l.toNat,h.toNat,m.toNat) w:=by
 rcases hm with⟨rfl,_⟩|⟨z,k2,rfl,ez⟩
 ·cases hms
 rcases hh with⟨rfl,_⟩|⟨y,k',rfl,ey⟩
 ·cases hhs
 rcases hl with⟨rfl,rfl⟩|⟨x,k,rfl,ex⟩
 ·simp only[bz,o8,ey,ez,Instr.sliceBounds,p6,oy,p9,u7 (y:=cap) _ (show 0<=m from by omega) h3,u7 (y:=m.toNat) _ (show 0<=h from by omega) (by omega)]
  rfl
 ·simp only[o8,ex,ey,ez,Instr.sliceBounds,p6,oy,p9,u7 (y:=cap) _ (show 0<=m from by omega) h3,u7 (y:=m.toNat) _ (show 0<=h from by omega) (by omega),u7 (y:=h.toNat) _ h0 (by omega)]
theorem zw0[Dr](hTT:TTok P TT)(hT:∀ x,Den w M β (val ts x) (a.eval x))(hB:∀ (i:Nat) (L:Loc) (k:KB),ks[i]? = some k->k≠.gone->β i=some L->∃ fp,KBat w M β L fp k){t:TypeId}{x:Operand}{lo hi mx:Option Operand}(ho:o.op = .slice t x lo hi mx)(h:pev P TT ts ks (.slice t x lo hi mx) K):Ran P o a w M β K:=by
 unfold Ran;simp only[execOp,ho];simp only [pev,qm] at h;have hv:=hT x;generalize a.eval x=av at hv ⊢;split at h
 ·rename_i mo;split at h
  ·rename_i size bytes agg zero e eqk ht;obtain⟨info,d,z,hi',hu,_,_,_,_,_,_,_,_,hd⟩:=qi hTT ht;cases hd;split at h
   ·cases h
   ·rename_i size' bytes' agg' zero' desc' eqk' hte;obtain⟨infoe,de,ze,hie,hue,hsze,_⟩:=qi hTT hte;simp only at hsze;split at h
    ·rename_i i hx;rw [hx] at hv;rw [qs] at h;split at h
     ·rename_i e' sz n z' f hg;split at h
      ·split at h
       ·rename_i hsz;cases qv hsz;obtain⟨l,hl,h⟩:=x8 hT h;obtain⟨r,hr,h⟩:=x8 hT h;obtain⟨m,hm,h⟩:=x8 hT h;obtain⟨⟨hs,h0,h1,h2,h3,h4⟩,h⟩:=h;cases hv with
        |allNil _ L hbi hnil =>
         obtain⟨fp',hk⟩:=jq hB hbi (qk hg (by simp)) (by simp);cases hk with
         |rowNil _ _ _ _ _ _ _ _ hz=>exact absurd rfl hz
         |row _ _ _ _ _ vs fz hfp hnil'=>rw [hnil] at hnil';cases hnil'
        |all _ L hbi hnil =>
         obtain⟨fp',hk⟩:=jq hB hbi (qk hg (by simp)) (by simp);cases hk with
         |rowNil _ _ _ _ _ hnil'=>rw [hnil] at hnil';cases hnil'
         |row _ _ _ _ _ vs fz hfp _ hLs hLn hzz hb hfz hvs hng hfl hr' _ =>
          refine⟨_,.slice (some ⟨L.b,l.toNat * size',none⟩) (r - l).toNat (m - l).toNat,h,?_,.cs i _ _ _ L hbi (by omega)⟩;have hrun:(Instr.sliceAt t (.slice (some ⟨L.b,0,none⟩) L.n L.c) (lo.map a.eval) (hi.map a.eval) (some (a.eval mo))).run P w = .ok (.slice (some ⟨L.b,l.toNat * size',none⟩) (r.toNat - l.toNat) (m.toNat - l.toNat)) w:=by
           have hne:¬ m.toNat=l.toNat:=by omega
           have hb3:=zi5 (P:=P) (w:=w) (cap:=L.c) true hl (hLn ▸ hr) hm hs rfl h0 h1 h2 (by omega);rw [o8] at hb3;simp[Instr.sliceAt,Instr.slice,run_underlying hu,hb3,run_sizeOf hie,hsze,hne,yc]
          have e1:(r - l).toNat=r.toNat - l.toNat:=by omega
          have e2:(m - l).toNat=m.toNat - l.toNat:=by omega
          rw[e1,e2];simp only[p6,o8,hrun,p9,oy]
       ·cases h
      ·cases h
     ·cases h
    ·cases h
  ·cases h
 ·split at h
  ·rename_i size bytes agg zero eqk ht;obtain⟨info,d,z,hi',hu,_,_,_,_,_,_,_,_,hd⟩:=qi hTT ht;cases hd;split at h
   ·rename_i s hx;rw [hx] at hv;cases yk hv;obtain⟨l,hl,h⟩:=x8 hT h;obtain⟨r,hr,h⟩:=x8 hT h;obtain⟨⟨h0,h1,h2⟩,h⟩:=h;have:=zg2 (P:=P) (w:=w) hu s (lo.map a.eval) (hi.map a.eval) l.toNat r.toNat (jj7 false (pr _) hl hr h0 h1 h2);refine⟨_,_,h,?_,.d (.str _)⟩;simp[this,sub]
   ·cases h
  ·rename_i size bytes agg zero e eqk ht;obtain⟨info,d,z,hi',hu,_,_,_,_,_,_,_,_,hd⟩:=qi hTT ht;cases hd;split at h
   ·cases h
   ·rename_i size' bytes' agg' zero' desc' eqk' hte;obtain⟨infoe,de,ze,hie,hue,hsze,_⟩:=qi hTT hte;simp only at hsze;have hrun:∀ (ad:Option Addr) (len cap:Nat) (l r:Int),len<=cap->qe8 a lo 0 l->qe8 a hi len r->0<=l->l<=r->r<=len ->
     (Instr.sliceAt t (.slice ad len cap) (lo.map a.eval) (hi.map a.eval) none).run P w = .ok (.slice (if cap=l.toNat then ad else ad.map (·.add (l.toNat * size'))) (r.toNat - l.toNat) (cap - l.toNat)) w:=by
     intro ad len cap l r hlc hl hr h0 h1 h2;simp[Instr.sliceAt,Instr.slice,run_underlying hu,jj7 true hlc hl hr h0 h1 h2,run_sizeOf hie,hsze]
    split at h
    ·rename_i nl n sz f hx;rw [hx] at hv;split at h
     ·rename_i hsz;cases qv hsz;obtain⟨l,hl,h⟩:=x8 hT h;obtain⟨r,hr,h⟩:=x8 hT h;obtain⟨⟨h0,h1,h2⟩,h⟩:=h;cases jb hv with
      |nil =>
       have e1:l=0:=by omega
       have e2:r=0:=by omega
       subst e1 e2;exact⟨_,.slice none 0 0,h,by simp[hrun none 0 0 0 0 (pr _) hl hr h0 h1 h2],.d (.nil _ _)⟩
      |sl _ _ _ ad cap u hcap hblk hlen hcell hrd =>
       have er:(r - l).toNat=r.toNat - l.toNat:=by omega
       refine⟨_,.slice (some (if cap=l.toNat then ad else ad.add (l.toNat * size'))) (r - l).toNat (cap - l.toNat),h,?_,?_⟩
       ·simp only[p6,bz,hrun (some ad) n cap l r hcap hl hr h0 h1 h2,p9,oy,er];by_cases hc:cap=l.toNat
        ·rw[if_pos hc,if_pos hc]
        ·rw[if_neg hc,if_neg hc];rfl
       ·by_cases hc:cap=l.toNat
        ·rw[if_pos hc,er,show r.toNat - l.toNat=0 from by omega];exact .d (.sl 0 _ _ ad _ u (by omega) (fun e=>absurd e (by omega)) (fun i hi=>absurd hi (by omega)) (fun i j d hi=>absurd hi (by omega)) (fun i j d hi=>absurd hi (by omega)))
        ·rw[if_neg hc,er];refine .d (.sl _ _ _ (ad.add (l.toNat * size')) _ (fun i j=>u (l.toNat+i) j) (by omega) (fun e=>?_) (fun i hi=>hlen _ (by omega)) (fun i j d hi hd=>?_) (fun i j d hi hd=>hrd _ _ _ (by omega) hd))
         ·rw[qr8];exact hblk (by omega)
         ·rw[add_add,show l.toNat * size'+(i * size'+j)=(l.toNat+i) * size'+j from by rw[ow];omega];exact hcell _ _ _ (by omega) hd
     ·cases h
    ·rename_i i hx;rw [hx] at hv;rw [qs] at h;split at h
     ·rename_i e' sz n z' f hg;split at h
      ·rename_i hsz;cases qv hsz;obtain⟨l,hl,h⟩:=x8 hT h;obtain⟨r,hr,h⟩:=x8 hT h;obtain⟨⟨h0,h1,h2⟩,h⟩:=h;cases hv with
       |allNil _ L hbi hnil =>
        obtain⟨fp',hk⟩:=jq hB hbi (qk hg (by simp)) (by simp);cases hk with
        |rowNil =>
         have e1:l=0:=by omega
         have e2:r=0:=by omega
         subst e1 e2;exact⟨_,.slice none 0 0,h,by simp[hrun none 0 0 0 0 (pr _) hl hr (by omega) (by omega) (by omega)],by simpa using .rowNil i L hbi hnil⟩
        |row _ _ _ _ _ vs fz hfp hnil'=>rw [hnil] at hnil';cases hnil'
       |all _ L hbi hnil =>
        obtain⟨fp',hk⟩:=jq hB hbi (qk hg (by simp)) (by simp);cases hk with
        |rowNil _ _ _ _ _ hnil'=>rw [hnil] at hnil';cases hnil'
        |row _ _ _ _ _ vs fz hfp _ hLs hLn hzz hb hfz hvs hng hfl hr' _ =>
         have er:(r - l).toNat=r.toNat - l.toNat:=by omega
         refine⟨_,.slice (some ⟨L.b,if L.c=l.toNat then 0 else l.toNat * size',none⟩) (r - l).toNat (L.c - l.toNat),h,?_,.row i l.toNat _ _ L hbi hnil (by omega) (fun hlt=>by rcases hlt with hlt|hlt;(rw[if_neg (by omega),hLs]);(rw[hlt];simp))⟩;simp only[p6,bz,hrun (some ⟨L.b,0,none⟩) L.n L.c l r (by omega) hl (hLn ▸ hr) h0 h1 (by omega),p9,oy,er];by_cases hc:L.c=l.toNat
         ·rw[if_pos hc,if_pos hc]
         ·rw[if_neg hc,if_neg hc];simp[yc]
      ·cases h
     ·cases h
    ·rename_i i lo' n hx;rw [hx] at hv;rw [qs] at h;split at h
     ·rename_i e' sz m z' f hg;split at h
      ·rename_i hsz;cases qv hsz;obtain⟨l,hl,h⟩:=x8 hT h;obtain⟨r,hr,h⟩:=x8 hT h;obtain⟨⟨h0,h1,h2⟩,h⟩:=h;cases hv with
       |rowNil _ L hbi hnil =>
        have e1:l=0:=by omega
        have e2:r=0:=by omega
        subst e1 e2;exact⟨_,.slice none 0 0,h,by simp[hrun none 0 0 0 0 (pr _) hl hr (by omega) (by omega) (by omega)],by simpa using .rowNil i L hbi hnil⟩
       |row _ _ _ off L hbi hnil hc ho' =>
        obtain⟨fp',hk⟩:=jq hB hbi (qk hg (by simp)) (by simp);cases hk with
        |rowNil _ _ _ _ _ hnil'=>rw [hnil] at hnil';cases hnil'
        |row _ _ _ _ _ vs fz hfp _ hLs hLn hzz hb hfz hvs hng hfl hr' _ =>
         have er:(r - l).toNat=r.toNat - l.toNat:=by omega
         refine⟨_,.slice (some ⟨L.b,if L.c - lo'=l.toNat then off else off+l.toNat * size',none⟩) (r - l).toNat (L.c - (lo'+l.toNat)),h,?_,.row i (lo'+l.toNat) _ _ L hbi hnil (by omega) (fun hlt=>by rcases hlt with hlt|hlt;(rw[if_neg (by omega),ho' (.inl (by omega)),hLs,ow]);(rw[ho' (.inr (by omega)),hlt,show l.toNat=0 by omega,show lo'=0 by omega];simp))⟩;simp only[p6,bz,hrun (some ⟨L.b,off,none⟩) n (L.c - lo') l r (by omega) hl hr h0 h1 (by omega),p9,oy,er,Nat.sub_sub];by_cases hc:L.c - lo'=l.toNat
         ·rw[if_pos hc,if_pos hc]
         ·rw[if_neg hc,if_neg hc];simp[yc]
      ·cases h
     ·cases h
    ·rename_i i off n c hx;rw [hx] at hv;obtain⟨l,hl,h⟩:=x8 hT h;obtain⟨r,hr,h⟩:=x8 hT h;obtain⟨⟨h0,h1,h2,h3,h4⟩,h⟩:=h;cases hv with
     |cs _ _ _ _ L hbi hnc =>
      have er:(r - l).toNat=r.toNat - l.toNat:=by omega
      refine⟨_,.slice (some ⟨L.b,off+l.toNat * size',none⟩) (r - l).toNat (c - l.toNat),h,?_,.cs i _ _ _ L hbi (by omega)⟩;simp only[p6,bz,hrun (some ⟨L.b,off,none⟩) n c l r h3 hl hr h0 h1 h2,p9,oy,er];by_cases hc:c=l.toNat
      ·have:l.toNat=0:=by rcases h4 with h4|h4 <;> omega
       rw[if_pos hc];simp[this]
      ·rw[if_neg hc];simp[yc]
    ·cases h
  ·rename_i size bytes agg zero n e eqk ht;obtain⟨info,d,z,hi',hu,_,_,_,_,_,_,_,_,hd⟩:=qi hTT ht;cases hd;split at h
   ·cases h
   ·rename_i size' bytes' agg' zero' desc' eqk' hte;obtain⟨infoe,de,ze,hie,hue,hsze,_⟩:=qi hTT hte;simp only at hsze;split at h
    ·rename_i i off hx;rw [hx] at hv;obtain⟨l,hl,h⟩:=x8 hT h;obtain⟨r,hr,h⟩:=x8 hT h;obtain⟨⟨h0,h1,h2,h4⟩,h⟩:=h;cases hv with
     |ptr _ _ L hbi =>
      have er:(r - l).toNat=r.toNat - l.toNat:=by omega
      refine⟨_,.slice (some ⟨L.b,off+l.toNat * size',none⟩) (r - l).toNat (n - l.toNat),h,?_,.cs i _ _ _ L hbi (by omega)⟩;have:(Instr.sliceAt t (.pointer (some ⟨L.b,off,none⟩)) (lo.map a.eval) (hi.map a.eval) none).run P w = .ok (.slice (some (if n=l.toNat then ⟨L.b,off,none⟩ else (⟨L.b,off,none⟩:Addr).add (l.toNat * size'))) (r.toNat - l.toNat) (n - l.toNat)) w:=by
       simp[Instr.sliceAt,Instr.sureAddr,run_underlying hu,jj7 false (pr n) hl hr h0 h1 h2,run_sizeOf hie,hsze]
      simp only[p6,bz,this,p9,oy,er];by_cases hc:n=l.toNat
      ·have:l.toNat=0:=by rcases h4 with h4|h4 <;> omega
       rw[if_pos hc];simp[this]
      ·rw[if_neg hc];simp[yc]
    ·cases h
  ·cases h
end
end
section
section
variable{P:Program}{TT:Nat->Option TI}{ts:List SV}{ks:List KB}{w:World}{M:Nat->Prop}{β:Env}{a:Act}{K:SV->Prop}{o:Oper}
theorem qp8[Dr](l:List SV)(off:Nat)(vs:List SV):(putCells l off vs).length=l.length:=by
 induction vs generalizing l off with
 |nil=>cases l <;> rfl
 |cons v vs ih=>simp[putCells,ih,zo]
theorem qx3[Dr](l:List SV)(off:Nat)(vs:List SV)(j:Nat)(hin:off+vs.length<=l.length) :
 (putCells l off vs)[j]? = if off<=j/\j<off+vs.length then vs[j - off]? else l[j]?:=by
 induction vs generalizing l off with
 |nil =>
  have:putCells l off []=l:=by cases l <;> rfl
  rw[this];simp;intro _ _;omega
 |cons v vs ih =>
  simp only [ou] at hin;simp only[putCells,ou,zo];rw[ih (l.set off v) (off+1) (by simp;omega)];by_cases h1:off+1<=j/\j<off+1+vs.length
  ·rw[if_pos h1,if_pos (by omega)];rw[show j - off=(j - (off+1))+1 from by omega];simp
  ·rw[if_neg h1,oq];by_cases h2:off=j
   ·subst h2;rw[if_pos rfl,if_pos (by omega),if_pos (by omega)];simp
   ·rw[if_neg h2,if_neg (by omega)]
theorem jr3[Dr]{l vs:List SV}{cs us:List Value}{off:Nat}(hl:l.length=cs.length)(hv:vs.length=us.length)(hin:off+vs.length<=l.length)
 (hd:∀ (j:Nat) (s:SV) (u:Value),l[j]? = some s->cs[j]? = some u->Den w M β s u) (hd':∀ (j:Nat) (s:SV) (u:Value),vs[j]? = some s->us[j]? = some u->Den w M β s u) :
 (putCells l off vs).length=(je cs.toArray off us).size/\∀ (j:Nat) (s:SV) (u:Value),(putCells l off vs)[j]? = some s->(je cs.toArray off us)[j]? = some u->Den w M β s u:=by
 refine⟨by rw[qp8,ku];simpa using hl,fun j s u hs hu=>?_⟩;rw [qx3 _ _ _ _ hin] at hs;rw [xh _ _ _ _ (by simp;omega)] at hu;split at hs
 ·rename_i h1;rw [if_pos (by omega)] at hu;exact hd' _ _ _ hs hu
 ·rename_i h1;rw [if_neg (by omega)] at hu;exact hd _ _ _ hs (by simpa using hu)
theorem qx5[Dr]{cs:List Value}{us:List Value}{off:Nat}(hin:off+us.length<=cs.length)(h1:∀ u ∈ cs,u.oneCell'=true)(h2:∀ u ∈ us,u.oneCell'=true)(j:Nat)(u:Value)(hu:(je cs.toArray off us)[j]? = some u):u.oneCell'=true:=by
 rw [xh _ _ _ _ (by simpa using hin)] at hu;split at hu
 ·exact h2 _ (ov hu)
 ·exact h1 _ (ov (by simpa using hu))
theorem zj8{b:Bool}{v:Value}(h1:b=true->∃ t x,v = .iface t x)(h2:b=false->v = .nilIface):v.oneCell'=true:=by
 cases b with
 |true=>obtain⟨t,x,rfl⟩:=h1 rfl;rfl
 |false=>rw[h2 rfl];rfl
theorem ul[Dr]{s:SV}{k:List SV->Prop}(h:km s k):k (cellsOf s)/\∀ v,Den w M β s v->(cellsOf s).length=v.cells.size/\(∀ (j:Nat) (s':SV) (u:Value),(cellsOf s)[j]? = some s'->v.cells[j]? = some u->Den w M β s' u)/\∀ u ∈ v.cells,u.oneCell'=true:=by
 have one:∀ v:Value,v.oneCell'=true->v.cells = #[v]:=fun v hv=>by cases v <;> first|rfl|simp [Value.oneCell'] at hv
 have key:∀ v,Den w M β s v->cellsOf s=[s]->v.oneCell'=true->(cellsOf s).length=v.cells.size/\(∀ (j:Nat) (s':SV) (u:Value),(cellsOf s)[j]? = some s'->v.cells[j]? = some u->Den w M β s' u)/\∀ u ∈ v.cells,u.oneCell'=true:=by
  intro v hd hc hv;rw[hc,one v hv];refine⟨rfl,fun j s' u hs hu=>?_,by simpa using hv⟩;cases j with
  |zero=>simp at hs hu;subst_vars;exact hd
  |succ j=>simp at hs
 unfold km at h;split at h
 ·refine⟨h,fun v hd=>?_⟩;cases hd with
  |agg l vs hl hd h1=>exact⟨by simpa[cellsOf,Value.cells] using hl,fun j s' u hs hu=>hd j s' u hs (by simpa[Value.cells] using hu),by simpa[Value.cells] using h1⟩
 ·cases h
 ·cases h
 ·split at h
  ·rename_i x hx;refine⟨h,fun v hd=>key v hd rfl ?_⟩;cases hd;exact hx
  ·cases h
 ·rename_i h1 h2 h3 h4;refine⟨?_,fun v hd=>key v hd ?_ ?_⟩
  ·cases s <;> first|exact h|exact absurd rfl (h1 _)
  ·cases s <;> first|rfl|exact absurd rfl (h1 _)
  ·cases hd <;> first|rfl|exact qr1 ‹_›|exact zj8 ‹_› ‹_›|exact absurd rfl (h1 _)|exact absurd rfl (h2 _)|exact absurd rfl (h4 _)|exact absurd rfl h3
theorem jw2(us:List Value):∀ (cs:Array Value) (off k:Nat),(us.zipIdx k).foldl (fun cs (p:Value × Nat)=>cs.setIfInBounds (off+p.2) p.1) cs=je cs (off+k) us:=by
 induction us with
 |nil=>intro cs off k;rfl
 |cons u us ih =>
  intro cs off k;simp only[List.zipIdx_cons,List.foldl_cons,je];rw[ih];rfl
theorem ye1[Dr](hTT:TTok P TT)(hT:∀ x,Den w M β (val ts x) (a.eval x)){fs:List (Nat × TypeId)}{place:Nat->Option (Nat × Nat)}
 (hp:∀ (i off:Nat) (ft:TypeId),fs[i]? = some (off,ft)->∃ fi,P.info? ft=some fi/\place i=some (off,fi.size)) :
 ∀ (parts:List (Nat × Operand)) (cs:List SV) (c:List SV->Prop) (vs:List Value),wx TT ts fs cs parts c->cs.length=vs.length ->
  (∀ (j:Nat) (s:SV) (u:Value),cs[j]? = some s->vs[j]? = some u->Den w M β s u)->(∀ u ∈ vs,u.oneCell'=true) ->
  ∃ (cs':List SV) (vs':List Value),c cs'/\Instr.fill place vs.toArray (parts.map fun p=>(p.1,a.eval p.2))=some vs'.toArray/\cs'.length=vs'.length /\
   (∀ (j:Nat) (s:SV) (u:Value),cs'[j]? = some s->vs'[j]? = some u->Den w M β s u)/\(∀ u ∈ vs',u.oneCell'=true):=by
 intro parts;induction parts with
 |nil=>intro cs c vs h hl hd h1;exact⟨cs,vs,by simpa[wx] using h,rfl,hl,hd,h1⟩
 |cons p parts ih =>
  obtain⟨i,x⟩:=p;intro cs c vs h hl hd h1;simp only [wx] at h;split at h
  ·cases h
  ·rename_i off ft hf;rw [jd8] at hf;obtain⟨fi,hfi,hpl⟩:=hp i off ft hf;split at h
   ·cases h
   ·rename_i ti hti;obtain⟨info,d,z,hi,hu,hsz,_⟩:=qi hTT hti;rw [hi] at hfi;obtain rfl:info=fi:=p7 hfi;rw [qm] at h;obtain⟨h,hcells⟩:=ul (w:=w) (M:=M) (β:=β) h;obtain⟨c1,c2,c3⟩:=hcells _ (hT x);split at h
    ·rename_i hb1 hb2;rw [y9] at hb1 hb2;have hb1:=qv hb1;have hb2:=jr hb2;rw [qj1] at h;have c3':∀ u ∈ (a.eval x).cells.toList,u.oneCell'=true:=fun u hu=>c3 u (by simpa using hu)
     obtain⟨d1,d2⟩:=jr3 (w:=w) (M:=M) (β:=β) (off:=off) (us:=(a.eval x).cells.toList) hl (by simpa using c1) (by omega) hd (fun j s u hs hu=>c2 j s u hs (by simpa using hu));obtain⟨cs',vs',hc,hfill,r1,r2,r3⟩:=ih _ c (je vs.toArray off (a.eval x).cells.toList).toList h (by simpa using d1) (fun j s u hs hu=>d2 j s u hs (by simpa using hu)) (fun u hu=>by
      obtain⟨j,hj,rfl⟩:=o9.1 hu;exact qx5 (off:=off) (us:=(a.eval x).cells.toList) (by simp;omega) h1 c3' j _ (by simp))
     refine⟨cs',vs',hc,?_,r1,r2,r3⟩;simp only[cu,Instr.fill,hpl];have hs:(a.eval x).cells.size=info.size:=by omega
     rw[if_neg (by simp[hs];omega)];have hfold:=jw2 (a.eval x).cells.toList vs.toArray off 0;rw [du] at hfold;have hz:(a.eval x).cells.zipIdx.foldl (fun cs (x:Value × Nat)=>cs.setIfInBounds (off+x.2) x.1) vs.toArray=je vs.toArray off (a.eval x).cells.toList:=by
      rw[<-hfold,<-s4];simp
     rw[hz];simpa using hfill
    ·cases h
theorem zj1{fields:List Field}(h:∀ f ∈ fields,∃ i,P.info? f.type=some i):∃ pl:List (Nat × Nat),fields.mapM (fun f=>(P.info? f.type).map fun i=>(f.offset,i.size))=some pl/\∀ (j:Nat) (f:Field) (i:TypeInfo),fields[j]? = some f->P.info? f.type=some i->pl[j]? = some (f.offset,i.size):=by
 induction fields with
 |nil=>exact⟨[],rfl,by simp⟩
 |cons f fields ih =>
  obtain⟨i,hi⟩:=h f (by simp);obtain⟨pl,hpl,hg⟩:=ih (fun g hg=>h g (by simp[hg]));refine⟨(f.offset,i.size) :: pl,by simp[List.mapM_cons,hi,hpl],fun j g i' hj hi'=>?_⟩;cases j with
  |zero=>simp at hj;subst hj;rw [hi] at hi';cases hi';rfl
  |succ j=>simpa using hg j g i' (by simpa using hj) hi'
theorem xb0(n off size:Nat)(e:TypeId)(i o:Nat)(ft:TypeId)(h:(qp7 n off size e)[i]? = some (o,ft)):o=off+i * size/\ft=e:=by
 induction n generalizing off i with
 |zero=>simp [qp7] at h
 |succ n ih=>cases i with
  |zero=>simp [qp7] at h;exact ⟨by simp [h.1],h.2.symm⟩
  |succ i =>
   obtain⟨a,b⟩:=ih (off+size) i (by simpa[qp7] using h);exact⟨by rw[a,ow,mv];omega,b⟩
theorem zw3[Dr](hTT:TTok P TT)(hT:∀ x,Den w M β (val ts x) (a.eval x)){t:TypeId}{parts:Array (Nat × Operand)}(ho:o.op = .build t parts)(h:pev P TT ts ks (.build t parts) K):Ran P o a w M β K:=by
 unfold Ran;simp only[execOp,ho];simp only [pev] at h;split at h
 ·rename_i size bytes zero fs eqk ht;obtain⟨info,d,z,hi,hu,hsz,_,hz,hag,hzl,hzs,hzd,hz1,fields,rfl,hfsz,hfs⟩:=qi hTT ht;obtain⟨pl,hpl,hplg⟩:=zj1 (P:=P) (fields:=fields.toList) (fun f hf=>by
   obtain⟨j,hj,rfl⟩:=o9.1 hf;have hj':j<fs.length:=by rw[<-hfsz];simpa using hj
   obtain⟨f,fi,hf,ho,hty,hfi,_⟩:=hfs j _ _ (pp hj');have:fields.toList[j]=f:=by
    have h2:fields[j]? = some (fields.toList[j]):=by simp at hj;simp [hj]
    rw [hf] at h2;exact(p7 h2).symm
   rw[this,hty];exact⟨fi,hfi⟩)
  obtain⟨cs',vs',hK,hfill,r1,r2,r3⟩:=ye1 (w:=w) (M:=M) (β:=β) (a:=a) hTT hT (place:=fun i=>pl.toArray[i]?) (fun i off ft hf=>by
   obtain⟨f,fi,hf',hof,hty,hfi,_⟩:=hfs i off ft hf;refine⟨fi,hfi,?_⟩;have:=hplg i f fi (by simpa using hf') (by rw[hty];exact hfi);simpa[hof] using this) parts.toList zero _ z.cells.toList h (by simpa using hzl.symm) (fun j s u hs hu=>hzd w M β j s u hs (by simpa using hu)) (fun u hu=>by
   obtain⟨j,hj,rfl⟩:=o9.1 hu;exact hz1 j _ (by simp))
  refine⟨_,.agg vs'.toArray,hK,?_,.agg _ _ r1 r2 r3⟩;have hb:P.built t (parts.map fun(i,x)=>(i,a.eval x)).toList=some vs'.toArray:=by
   simp only[Program.built,hi,hu,hz,hpl];rw[<-hfill];simp
  simp[run_build w t _ _ hb]
 ·rename_i size bytes zero n e eqk ht;split at h
  ·rename_i size' bytes' agg' zero' desc' eqk' hte;obtain⟨info,d,z,hi,hu,hsz,_,hz,hag,hzl,hzs,hzd,hz1,hd⟩:=qi hTT ht;cases hd;obtain⟨infoe,de,ze,hie,hue,hsze,_⟩:=qi hTT hte;simp only at hsze;obtain⟨cs',vs',hK,hfill,r1,r2,r3⟩:=ye1 (w:=w) (M:=M) (β:=β) (a:=a) hTT hT (place:=fun i=>some (i * size',size')) (fun i off ft hf=>by
    obtain⟨h1,h2⟩:=xb0 n 0 size' e i off ft hf;subst h2;exact⟨infoe,hie,by rw[h1,hsze];simp⟩) parts.toList zero _ z.cells.toList h (by simpa using hzl.symm) (fun j s u hs hu=>hzd w M β j s u hs (by simpa using hu)) (fun u hu=>by
    obtain⟨j,hj,rfl⟩:=o9.1 hu;exact hz1 j _ (by simp))
   refine⟨_,.agg vs'.toArray,hK,?_,.agg _ _ r1 r2 r3⟩;have hb:P.built t (parts.map fun(i,x)=>(i,a.eval x)).toList=some vs'.toArray:=by
    simp only[Program.built,hi,hu,hz,hie,hsze];rw[<-hfill];simp
   simp[run_build w t _ _ hb]
  ·cases h
 ·cases h
theorem zw{b:Nat}{es:Array MapEntry}{clock:Nat}(h:w.heap[b]? = some (.map es clock)):(getObj b).run P w = .ok (.map es clock) w:=by simp[getObj,Sem.run,h]
theorem zj5[Dr](hTT:TTok P TT)(hT:∀ x,Den w M β (val ts x) (a.eval x))(hB:∀ (i:Nat) (L:Loc) (k:KB),ks[i]? = some k->k≠.gone->β i=some L->∃ fp,KBat w M β L fp k){b:Builtin}{args:Array Operand}{argTypes:Array TypeId}(ho:o.op = .call ⟨.builtin b,args,argTypes⟩)(h:pev P TT ts ks (.call ⟨.builtin b,args,argTypes⟩) K):Ran P o a w M β K:=by
 unfold Ran;simp only[execOp,ho];simp only [pev,qm] at h;obtain⟨args⟩:=args;obtain⟨argTypes⟩:=argTypes;simp only at h;split at h
 ·rename_i x;split at h
  ·rename_i t;split at h
   ·cases h
   ·rename_i size bytes agg zero desc eqk ht;have hv:=hT x;split at h
    ·obtain⟨info,d,z,hi,hu,_,_,_,_,_,_,_,_,hd⟩:=qi hTT ht;cases hd;exact⟨_,_,h,by simp[resolve,invoke,builtin,Builtin.len_,run_underlying hu,goInt],.d (.int _ _)⟩
    ·obtain⟨info,d,z,hi,hu,_,_,_,_,_,_,_,_,hd⟩:=qi hTT ht;cases hd;split at h
     ·rename_i s hx;rw [hx] at hv;have ev:=yk hv;exact⟨_,_,h,by simp[resolve,invoke,builtin,Builtin.len_,run_underlying hu,goInt,ev,strV,qa2],.d (.int _ _)⟩
     ·cases h
    ·obtain⟨info,d,z,hi,hu,_,_,_,_,_,_,_,_,hd⟩:=qi hTT ht;cases hd;split at h
     ·rename_i nil n sz f hx;rw [hx] at hv;have ev:∃ ad cap,a.eval x = .slice ad n cap:=by
       generalize a.eval x=av at hv;cases jb hv
       ·exact⟨_,_,rfl⟩
       ·exact⟨_,_,rfl⟩
      obtain⟨ad,cap,ev⟩:=ev;exact⟨_,_,h,by simp[resolve,invoke,builtin,Builtin.len_,run_underlying hu,goInt,ev],.d (.int _ _)⟩
     ·rename_i i hx;rw [hx] at hv;rw [qs] at h;split at h
      ·rename_i e' sz n z' f hg;have ev:∃ ad cap,a.eval x = .slice ad n cap:=by
        generalize a.eval x=av at hv;cases hv with
        |allNil _ L hbi hnil =>
         obtain⟨fp',hk⟩:=jq hB hbi (qk hg (by simp)) (by simp);cases hk with
         |rowNil=>exact⟨_,_,rfl⟩
         |row _ _ _ _ _ vs fz hfp hnil'=>rw [hnil] at hnil';cases hnil'
        |all _ L hbi hnil =>
         obtain⟨fp',hk⟩:=jq hB hbi (qk hg (by simp)) (by simp);cases hk with
         |rowNil _ _ _ _ _ hnil'=>rw [hnil] at hnil';cases hnil'
         |row _ _ _ _ _ vs fz hfp _ hLs hLn=>rw[hLn];exact⟨_,_,rfl⟩
       obtain⟨ad,cap,ev⟩:=ev;exact⟨_,_,h,by simp[resolve,invoke,builtin,Builtin.len_,run_underlying hu,goInt,ev],.d (.int _ _)⟩
      ·rename_i e' sz n f hg;have ev:∃ ad cap,a.eval x = .slice ad n cap:=by
        generalize a.eval x=av at hv;cases hv with
        |allNil _ L hbi hnil =>
         obtain⟨fp',hk⟩:=jq hB hbi (qk hg (by simp)) (by simp);cases hk with
         |rows _ _ _ _ vs fz hfp hnil'=>rw [hnil] at hnil';cases hnil'
        |all _ L hbi hnil =>
         obtain⟨fp',hk⟩:=jq hB hbi (qk hg (by simp)) (by simp);cases hk with
         |rows _ _ _ _ vs fz hfp _ hLs hLn=>rw[hLn];exact⟨_,_,rfl⟩
       obtain⟨ad,cap,ev⟩:=ev;exact⟨_,_,h,by simp[resolve,invoke,builtin,Builtin.len_,run_underlying hu,goInt,ev],.d (.int _ _)⟩
      ·cases h
     ·rename_i i lo n hx;rw [hx] at hv;have ev:∃ ad cap,a.eval x = .slice ad n cap:=by
       generalize a.eval x=av at hv;cases hv <;> exact⟨_,_,rfl⟩
      obtain⟨ad,cap,ev⟩:=ev;exact⟨_,_,h,by simp[resolve,invoke,builtin,Builtin.len_,run_underlying hu,goInt,ev],.d (.int _ _)⟩
     ·rename_i i off n c hx;rw [hx] at hv;have ev:∃ ad cap,a.eval x = .slice ad n cap:=by
       generalize a.eval x=av at hv;cases hv;exact⟨_,_,rfl⟩
      obtain⟨ad,cap,ev⟩:=ev;exact⟨_,_,h,by simp[resolve,invoke,builtin,Builtin.len_,run_underlying hu,goInt,ev],.d (.int _ _)⟩
     ·rename_i n hx;rw [hx] at hv;have ev:∃ ad cap,a.eval x = .slice ad n cap:=by
       generalize a.eval x=av at hv;cases hv;exact⟨_,_,rfl⟩
      obtain⟨ad,cap,ev⟩:=ev;exact⟨_,_,h,by simp[resolve,invoke,builtin,Builtin.len_,run_underlying hu,goInt,ev],.d (.int _ _)⟩
     ·cases h
    ·obtain⟨info,d,z,hi,hu,_,_,_,_,_,_,_,_,hd⟩:=qi hTT ht;cases hd;split at h
     ·rename_i i hx;rw [hx] at hv;rw [qs] at h;split at h
      ·rename_i eks ka ea l st hg;have ev:∃ L,a.eval x = .map (some L.b)/\β i=some L:=by
        generalize a.eval x=av at hv;cases hv with
        |map _ L hL=>exact⟨L,rfl,hL⟩
       obtain⟨L,ev,hL⟩:=ev;obtain⟨fp',hk⟩:=jq hB hL (qk hg (by simp)) (by simp);cases hk with
       |mapx _ _ _ _ _ es clock hfp hb hl _ =>
        refine⟨_,_,h,?_,.d (.int _ _)⟩;have hob:(getObj L.b).run P w = .ok (.map es clock) w:=zw hb;simp[resolve,invoke,builtin,Builtin.len_,run_underlying hu,goInt,hl,ev,hob]
      ·rename_i eks ka e sz l st hg;have ev:∃ L,a.eval x = .map (some L.b)/\β i=some L:=by
        generalize a.eval x=av at hv;cases hv with
        |map _ L hL=>exact⟨L,rfl,hL⟩
       obtain⟨L,ev,hL⟩:=ev;obtain⟨fp',hk⟩:=jq hB hL (qk hg (by simp)) (by simp);cases hk with
       |mapr _ _ _ _ _ _ es clock bl cp hfp hb hl _ =>
        refine⟨_,_,h,?_,.d (.int _ _)⟩;have hob:(getObj L.b).run P w = .ok (.map es clock) w:=zw hb;simp[resolve,invoke,builtin,Builtin.len_,run_underlying hu,goInt,hl,ev,hob]
      ·cases h
     ·rename_i hx;rw [hx] at hv;have ev:a.eval x = .map none:=by
       generalize a.eval x=av at hv;cases hv;rfl
      exact⟨_,_,h,by simp[resolve,invoke,builtin,Builtin.len_,run_underlying hu,goInt,ev],.d (.int _ _)⟩
     ·cases h
    ·cases h
  ·cases h
 ·rename_i x y;have hv:=hT x;have hw:=hT y;split at h
  ·rename_i k p k' q hx hy;rw [hx] at hv;rw [hy] at hw;have e1:=ja hv;have e2:=ja hw;split at h
   ·exact⟨_,_,h,by simp[resolve,invoke,builtin,Builtin.min_,Builtin.min2,e1,e2],.d (.int _ _)⟩
   ·cases h
  ·cases h
 ·rename_i x y z;have hv:=hT x;have hw:=hT y;have hu:=hT z;split at h
  ·rename_i k p k' q k'' s hx hy hz;rw [hx] at hv;rw [hy] at hw;rw [hz] at hu;have e1:=ja hv;have e2:=ja hw;have e3:=ja hu;split at h
   ·exact⟨_,_,h,by simp[resolve,invoke,builtin,Builtin.min_,Builtin.min2,e1,e2,e3],.d (.int _ _)⟩
   ·cases h
  ·cases h
 ·rename_i x y;have hv:=hT x;have hw:=hT y;split at h
  ·rename_i k p k' q hx hy;rw [hx] at hv;rw [hy] at hw;have e1:=ja hv;have e2:=ja hw;split at h
   ·exact⟨_,_,h,by simp[resolve,invoke,builtin,Builtin.max_,Builtin.max2,e1,e2],.d (.int _ _)⟩
   ·cases h
  ·cases h
 ·rename_i x;have hv:=hT x;split at h
  ·rename_i sz f hx;rw [hx] at hv;have ev:∃ cap,a.eval x = .slice none 0 cap:=by
    generalize a.eval x=av at hv;cases jb hv;exact⟨_,rfl⟩
   obtain⟨cap,ev⟩:=ev;exact⟨_,_,h,by simp[resolve,invoke,builtin,Lib.run_unsafeSliceData_nil,ev],.v _⟩
  ·rename_i i hx;rw [hx] at hv;rw [qs] at h;split at h
   ·rename_i e' f hg;generalize hav:a.eval x=av at hv;have ev:∃ m c,av = .slice none m c:=by
     cases hv with
     |allNil _ L hbi hnil=>exact⟨_,_,rfl⟩
     |all _ L hbi hnil =>
      obtain⟨fp',hk⟩:=jq hB hbi (qk hg (by simp)) (by simp);cases hk with
      |rowNil _ _ _ _ _ hnil'=>rw [hnil] at hnil';cases hnil'
      |row _ _ _ _ _ vs fz hfp _ _ _ hzz=>exact absurd (hzz rfl) (by omega)
    obtain⟨m,c,ev⟩:=ev;subst ev;exact⟨_,_,h,by simp[resolve,invoke,builtin,Lib.run_unsafeSliceData_nil,hav],.v _⟩
   ·rename_i e' n z' f hg;obtain⟨hn1,h⟩:=h;generalize hav:a.eval x=av at hv;cases hv with
    |allNil _ L hbi hnil =>
     obtain⟨fp',hk⟩:=jq hB hbi (qk hg (by simp)) (by simp);cases hk with
     |rowNil=>omega
     |row _ _ _ _ _ vs fz hfp hnil'=>rw [hnil] at hnil';cases hnil'
    |all _ L hbi hnil =>
     obtain⟨fp',hk⟩:=jq hB hbi (qk hg (by simp)) (by simp);cases hk with
     |rowNil _ _ _ _ _ hnil'=>rw [hnil] at hnil';cases hnil'
     |row _ _ _ _ _ vs fz hfp _ hLs hLn _ _ _ _ hnc =>
      refine⟨_,_,h,?_,.rptr i 0 0 1 L hbi (by omega)⟩;have hc0:L.c≠0:=by omega
      simp[resolve,invoke,builtin,hav,Lib.run_unsafeSliceData_row _ _ _ _ _ _ hc0]
   ·cases h
  ·cases h
 ·cases h
end
end
end Go.Eng
