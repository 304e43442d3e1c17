/-
  Part of the proof: lemmas about the functions that the row calls, and about the steps of a run. Conditions: those ahead of each lemma.
-/
import Derived.WalkKit
import Derived.CallsIn
import Derived.RangeFuncIn
import Derived.Lib.Strings
import Derived.LaidEql
import Derived.Lib.UnsafeStr
set_option linter.unusedVariables false
set_option linter.unusedSimpArgs false
set_option maxRecDepth 100000
set_option maxHeartbeats 64000000
namespace Go.Eng
open Go Go.RowKit
abbrev pn:=@decide_eq_true
abbrev po:=@decide_eq_false
abbrev pp:=@List.getElem?_eq_getElem
abbrev pq:=@List.length_append
abbrev pr:=@Int.toNat_natCast
abbrev pu:=@Nat.le_refl
abbrev pv:=@Nat.zero_le
abbrev pw:=@List.length_cons
abbrev px:=@of_decide_eq_true
abbrev py:=@of_decide_eq_false
abbrev pz:=@List.mem_cons
abbrev p6:=@List.getElem?_eq_some_iff
abbrev p7:=@Bool.and_eq_true
abbrev p8:=@Sem.run_bind
abbrev p9:=@Bool.true_and
abbrev oo:=@beq_eq_false_iff_ne
abbrev oq:=@Option.some.inj
abbrev ot:=@Result.andThen_ok
abbrev ou:=@List.length_drop
abbrev ov:=@List.mem_of_getElem?
abbrev ow:=@List.mem_append
abbrev ox:=@Nat.lt_or_ge
abbrev oy:=@beq_iff_eq
abbrev oz:=@List.getElem_mem
abbrev o3:=@List.take_add_one
abbrev o4:=@List.length_take
abbrev o5:=@Nat.zero_add
abbrev o6:=@Sem.run_pure
abbrev o7:=@List.all_eq_true
abbrev o8:=@List.mem_range
abbrev o9:=@Nat.add_mul
abbrev mn:=@List.getElem?_append_left
abbrev mp:=@List.append_assoc
abbrev mq:=@List.length_map
abbrev mr:=@List.mem_iff_getElem
abbrev mu:=@List.take_length
abbrev mv:=@Array.getElem?_eq_getElem
abbrev mw:=@List.getElem?_map
abbrev my:=@Bool.eq_iff_iff
abbrev mz:=@List.length_nil
abbrev m5:=@List.getElem?_set
abbrev m6:=@List.append_nil
abbrev m7:=@List.getElem?_append_right
abbrev m8:=@List.getElem?_drop
abbrev m9:=@List.mem_singleton
abbrev lq:=@List.getElem?_take
abbrev lr:=@decide_eq_true_eq
abbrev lu:=@List.drop_eq_getElem_cons
abbrev lv:=@List.mem_of_mem_take
abbrev lw:=@List.length_set
abbrev lx:=@Bool.false_and
abbrev ly:=@Nat.sub_self
abbrev lz:=@List.cons.inj
abbrev l5:=@Nat.mul_le_mul_right
abbrev l6:=@List.mem_cons_self
abbrev l7:=@Option.map_some
abbrev l8:=@Bool.and_false
abbrev l9:=@Nat.one_mul
abbrev gn:=@Nat.le_trans
abbrev gp:=@Prod.mk.inj
abbrev gq:=@Array.getElem?_eq_some_iff
abbrev gr:=@List.take_of_length_le
abbrev gt:=@List.mem_cons_of_mem
abbrev gu:=@Option.some.injEq
abbrev gv:=@List.mem_map
abbrev gw:=@Nat.lt_succ_self
abbrev gx:=@List.drop_drop
abbrev gy:=@IntKind.wrap_u8
abbrev gz:=@List.cons_append
abbrev g8:=@List.getElem?_eq_none
abbrev g9:=@List.length_pos_iff
abbrev fq:=@List.nil_append
abbrev fv:=@Array.mem_def
abbrev fw:=@Nat.not_lt_zero
abbrev fx:=@Bool.false_eq_true
abbrev fy:=@List.getD_eq_getElem?_getD
abbrev f5:=@Array.getElem?_setIfInBounds
abbrev f6:=@Option.map_eq_some_iff
abbrev f7:=@List.map_map
abbrev f8:=@List.drop_length
abbrev f9:=@List.take_append_drop
abbrev dn:=@List.all_append
abbrev dp:=@Bool.not_eq_true'
abbrev dq:=@List.eq_nil_of_length_eq_zero
abbrev dt:=@Option.bind_some
abbrev du:=@List.map_append
abbrev dw:=@List.pairwise_cons
abbrev dx:=@List.all_eq_false
abbrev dy:=@Array.getElem?_toList
abbrev dz:=@Nat.eq_zero_or_pos
abbrev d5:=@List.drop_eq_nil_of_le
abbrev d6:=@Nat.add_zero
abbrev d7:=@Option.getD_some
abbrev d8:=@List.mem_of_mem_drop
abbrev d9:=@List.length_reverse
abbrev cn:=@Bool.or_eq_true
abbrev co:=@Nat.lt_trichotomy
abbrev cp:=@Bool.or_eq_false_iff
abbrev cq:=@Nat.lt_irrefl
abbrev ct:=@List.mem_filter
abbrev cu:=@Bool.false_ne_true
abbrev cw:=@Array.getElem?_modify
abbrev cx:=@List.length_filter_le
abbrev cy:=@Nat.eq_of_beq_eq_true
abbrev cz:=@Nat.beq_refl
abbrev c7:=@Array.getD_eq_getD_getElem?
abbrev c8:=@List.getElem?_range
abbrev c9:=@Bool.false_or
abbrev bn:=@Nat.mul_comm
abbrev bp:=@List.map_cons
abbrev bq:=@Nat.lt_of_lt_of_le
abbrev br:=@Option.map_none
abbrev bu:=@Bool.or_self
abbrev bw:=@List.range'_succ
abbrev bx:=@List.getElem?_cons_zero
abbrev b7:=@List.filter_append
abbrev b9:=@Nat.succ_mul
abbrev ao:=@List.mem_append_left
abbrev ap:=@List.eq_nil_iff_forall_not_mem
abbrev aq:=@List.length_range
abbrev ar:=@List.any_eq_true
abbrev au:=@Nat.le_of_ble_eq_true
abbrev aw:=@Array.ext_getElem?
abbrev ax:=@List.set_cons_zero
abbrev ay:=@List.ext_getElem?
abbrev az:=@List.pairwise_iff_getElem
abbrev rn:=@Array.getElem?_eq_none
abbrev rp:=@Array.range_zero'
abbrev rq:=@Nat.mod_eq_of_lt
abbrev rt:=@List.drop_left
abbrev ru:=@Option.isSome_iff_exists
abbrev rv:=@Nat.sub_zero
abbrev rx:=@Array.getElem?_append_left
abbrev ry:=@Array.map_congr_left
abbrev rz:=@List.cons.injEq
abbrev r7:=@List.toList_toArray
abbrev r8:=@Bool.and_eq_false_iff
abbrev r9:=@List.isSuffixOf_iff_suffix
abbrev so:=@Nat.min_eq_left
abbrev sq:=@List.reverse_reverse
abbrev sr:=@Array.foldl_toList
abbrev su:=@Option.bind_none
abbrev sv:=@Array.toArray_toList
abbrev sw:=@Array.mem_of_getElem?
abbrev sx:=@List.length_eq_zero_iff
abbrev sy:=@List.drop_of_length_le
abbrev s4:=@Option.isSome_none
abbrev s5:=@Array.getElem?_push_lt
abbrev s6:=@Array.getElem?_push_size
theorem om{p:Prop}(h:p:=by omega):p:=h
theorem sm{p:Prop}(h:p:=by simp):p:=h
theorem dT{p q:Prop}[Decidable q](h:decide q=true)(k:q->p:=by intro h;omega):p:=k (px h)
theorem dF{p q:Prop}[Decidable q](h:decide q=false)(k:¬q->p:=by intro h;omega):p:=k (py h)
abbrev Ls:=List UInt8
theorem noI {P:Nat->Prop}:∀i,i<0->P i:=λ_ h=>absurd h (fw _)
inductive DV:Type where
 |int (k:IntKind) (n:Int)
 |bool (b:Bool)
 |tt
 |ff
 |str (s:Ls)
 |sl (nil:Bool) (n sz:Nat) (f:Nat->List DV)
structure Loc where
 b:Nat
 n:Nat
 c:Nat
 sz:Nat
 nil:Bool
inductive Z where
 |no|iff|may
deriving DecidableEq
def Z.cut:Z->Z
 | .no=>.no
 |_=>.may
inductive SV:Type where
 |d (x:DV)
 |ptr (i off:Nat)
 |aptr (i off len:Nat) (ix:Int)
 |dptr (cells:List DV) (off:Nat)
 |all (i:Nat)
 |row (i lo n:Nat)
 |cs (i off n c:Nat)
 |rptr (i j off sz:Nat)
 |agg (l:List SV)
 |tup (l:List SV)
 |fn (f:FuncId) (caps:List SV)
 |map (i:Nat)
 |yl (i:Nat)
 |ln (n:Nat)
 |err (b:Bool)
 |v (x:Value)
 |any
def upd{α:Type}(f:Nat->α)(i:Nat)(a:α):Nat->α:=λj=>if j=i then a else f j
theorem yr{α:Type}(f:Nat->α)(i:Nat)(a:α):upd f i a i=a:=by simp[upd]
theorem x4{α:Type}(f:Nat->α){i j:Nat}(a:α)(h:j≠i):upd f i a j=f j:=by simp[upd,h]
inductive EK where
 |int (k:IntKind)
 |bool
 |str
deriving DecidableEq
def fits:EK->Value->Prop
 | .int k,.int k' _=>k=k'
 | .bool,.bool _=>True
 | .str,.string _=>True
 |_,_=>False
def Fits(ks:List EK)(xs:List Value):Prop:=∀ (j:Nat) (k:EK) (x:Value),ks[j]? = some k->xs[j]? = some x->fits k x
inductive RS where
 |ready|busy|done (c:Code)|over
def RSok(r:Loop):RS->Prop
 | .ready=>r.state = .ready/\r.pending=none
 | .busy=>r.state = .busy
 | .done c=>r.state = .done/\r.pending=some c
 | .over=>True
inductive MS where
 |free
 |opn (q:Nat) (s:Int)
 |born (bs:List Nat) (c:Nat)
inductive KB:Type where
 |cells (t:TypeId) (l:List SV)
 |row (e:TypeId) (sz n:Nat) (z:Z) (f:Nat->List DV)
 |rows (e:TypeId) (sz n:Nat) (f:Nat->List SV)
 |mapx (eks:List EK) (ka ea:Bool) (l:List (List DV × List SV)) (st:MS)
 |iter (i:Nat) (bs:List Nat) (c:Nat) (rem:List Nat) (lst:Nat)
 |obj (φ:World->(Nat->Prop)->Loc->(Nat->Prop)->Prop)
 |loop (ts:List SV) (ps:List Tmp) (asg body:Code) (st:RS)
 |gone
@[reducible] def KB.map (eks:List EK) (ka ea:Bool) (l:List (List DV × List SV)):KB:=.mapx eks ka ea l .free
def strV(s:Ls):Value:=.string ⟨s.toArray⟩
inductive Rd (w:World) (M:Nat->Prop):DV->Value->Prop where
 |int (k:IntKind) (n:Int):Rd w M (.int k n) (.int k n)
 |bool (b:Bool):Rd w M (.bool b) (.bool b)
 |tt:Rd w M .tt (.bool true)
 |ff:Rd w M .ff (.bool false)
 |str (s:Ls):Rd w M (.str s) (strV s)
 |nil (sz:Nat) (f:Nat->List DV):Rd w M (.sl true 0 sz f) (.slice none 0 0)
 |sl (n sz:Nat) (f:Nat->List DV) (ad:Addr) (cap:Nat) (u:Nat->Nat->Value):n<=cap ->
  (0<n->ad.block<w.heap.size/\¬ M ad.block) ->
  (∀ i,i<n->(f i).length=sz) ->
  (∀ (i j:Nat) (d:DV),i<n->(f i)[j]? = some d->w.cell? (ad.add (i * sz+j))=some (u i j)) ->
  (∀ (i j:Nat) (d:DV),i<n->(f i)[j]? = some d->Rd w M d (u i j))->Rd w M (.sl false n sz f) (.slice (some ad) n cap)
class Dr:Type where
 p:Prop
instance dr0:Dr:=⟨False⟩
structure Step[Dr](M:Nat->Prop)(w w':World):Prop where
 os:w'.os=w.os
 tape:w'.tape=w.tape
 output:w'.output=w.output
 size:w.heap.size<=w'.heap.size
 block:∀ b,b<w.heap.size->¬ M b->w'.heap[b]? = w.heap[b]?
 dr:Dr.p->w.drawn<=w'.drawn
theorem Step.refl[Dr](M:Nat->Prop)(w:World):Step M w w:=⟨rfl,rfl,rfl,pu _,λ_ _ _=>rfl,λ_=>pu _⟩
theorem Step.trans[Dr]{M:Nat->Prop}{a b c:World}(h:Step M a b)(k:Step M b c):Step M a c :=
 ⟨k.os.trans h.os,k.tape.trans h.tape,k.output.trans h.output,gn h.size k.size,
  λx hx hm=>(k.block x (bq hx h.size) hm).trans (h.block x hx hm),λe=>gn (h.dr e) (k.dr e)⟩
theorem Step.mono[Dr]{M M':Nat->Prop}{a b:World}(h:Step M a b)(hm:∀ x,x<a.heap.size->M x->M' x):Step M' a b :=
 ⟨h.os,h.tape,h.output,h.size,λx hx hn=>h.block x hx (λe=>hn (hm x hx e)),h.dr⟩
theorem Step.of_below[Dr]{w w':World}(M:Nat->Prop)(h:Below w.heap.size w w')(hd:Dr.p->w.drawn<=w'.drawn:=by exact λh=>(show False from h).elim):Step M w w' :=
 ⟨h.os,h.tape,h.output,h.size,λb hb _=>h.block b hb,hd⟩
theorem Step.cell[Dr]{M:Nat->Prop}{w w':World}(h:Step M w w'){p:Addr}(hp:p.block<w.heap.size)(hm:¬ M p.block):w'.cell? p=w.cell? p :=
 World.cell?_of_block (w:=w) (h.block p.block hp hm)
theorem Step.drew[Dr](M:Nat->Prop)(w:World):Step M w w.drew:=⟨rfl,rfl,rfl,pu _,λ_ _ _=>rfl,λ_=>Nat.le_succ _⟩
theorem Step.alloc[Dr](M:Nat->Prop)(w:World)(o:Obj):Step M w (w.alloc o) :=
 ⟨rfl,rfl,rfl,sm,λb hb _=>Below.heap_alloc w o b hb,λ_=>pu _⟩
structure Keep(M:Nat->Prop)(w w':World):Prop where
 size:w.heap.size<=w'.heap.size
 cell:∀ (p:Addr) (u:Value),¬ M p.block->w.cell? p=some u->w'.cell? p=some u
theorem Step.keep[Dr]{M:Nat->Prop}{w w':World}(h:Step M w w'):Keep M w w':=⟨h.size,λp u hm hp=>by
 have hlt:p.block<w.heap.size:=by
  rcases ox p.block w.heap.size with e|e
  ·exact e
  ·simp [World.cell?,rn e] at hp
 rw[h.cell hlt hm];exact hp⟩
theorem qs6(a:Addr)(n:Nat):(a.add n).block=a.block:=by unfold Addr.add;split <;> rfl
theorem add_add(a:Addr)(i j:Nat):(a.add i).add j=a.add (i+j):=by
 unfold Addr.add;by_cases hi:i=0 <;> by_cases hj:j=0 <;> simp[hi,hj,Nat.add_assoc]
theorem Rd.keep[Dr]{w w':World}{M M':Nat->Prop}{x:DV}{v:Value}(h:Rd w M x v)(hs:Keep M w w')(hM:∀ b,b<w.heap.size->M' b->M b):Rd w' M' x v:=by
 induction h with
 |int k n=>exact .int k n
 |bool b=>exact .bool b
 |tt=>exact .tt
 |ff=>exact .ff
 |str s=>exact .str s
 |nil sz f=>exact .nil sz f
 |sl n sz f ad cap u h1 h3 h4 h5 _ ih =>
  refine .sl n sz f ad cap u h1 (λhn=>?_) h4 (λi j d hi hd=>?_) ih
  ·obtain⟨a,b⟩:=h3 hn;exact⟨bq a hs.size,λe=>b (hM _ a e)⟩
  ·obtain⟨a,b⟩:=h3 om;exact hs.cell _ _ (by rw[qs6];exact b) (h5 i j d hi hd)
theorem Rd.mono[Dr]{w w':World}{M M':Nat->Prop}{x:DV}{v:Value}(h:Rd w M x v)(hs:Step M w w')(hM:∀ b,b<w.heap.size->M' b->M b):Rd w' M' x v:=h.keep hs.keep hM
theorem Rd.congr{w:World}{M:Nat->Prop}{b:Bool}{n sz:Nat}{f g:Nat->List DV}{v:Value}(h:Rd w M (.sl b n sz f) v)(hf:∀ i,i<n->f i=g i):Rd w M (.sl b n sz g) v:=by
 cases h with
 |nil=>exact .nil sz g
 |sl _ _ _ ad cap u h1 h3 h4 h5 h6 =>
  refine .sl n sz g ad cap u h1 h3 (λi hi=>hf i hi ▸ h4 i hi) (λi j d hi hd=>h5 i j d hi (by rw[hf i hi];exact hd)) (λi j d hi hd=>h6 i j d hi (by rw[hf i hi];exact hd))
theorem Rd.width{w:World}{M:Nat->Prop}{b:Bool}{sz sz':Nat}{f g:Nat->List DV}{v:Value}(h:Rd w M (.sl b 0 sz f) v):Rd w M (.sl b 0 sz' g) v:=by
 cases h with
 |nil=>exact .nil sz' g
 |sl _ _ _ ad cap u h1 h3 h4 h5 h6 =>
  exact .sl 0 sz' g ad cap u h1 h3 (λi hi=>absurd hi om) (λi j d hi=>absurd hi om) (λi j d hi=>absurd hi om)
abbrev Env:=Nat->Option Loc
def noE:Env:=λ_=>none
def Ext(β β':Env):Prop:=∀ i L,β i=some L->β' i=some L
theorem Ext.refl(β:Env):Ext β β:=λ_ _ h=>h
theorem Ext.trans{a b c:Env}(h:Ext a b)(k:Ext b c):Ext a c:=λi L e=>k i L (h i L e)
inductive Den (w:World) (M:Nat->Prop) (β:Env):SV->Value->Prop where
 |d {x:DV} {v:Value}:Rd w M x v->Den w M β (.d x) v
 |ptr (i off:Nat) (L:Loc):β i=some L->Den w M β (.ptr i off) (.pointer (some ⟨L.b,off,none⟩))
 |aptr (i off len:Nat) (ix:Int) (L:Loc):0<=ix->ix<len->β i=some L->Den w M β (.aptr i off len ix) (.pointer (some ⟨L.b,off+ix.toNat,none⟩))
 |dptr (cells:List DV) (off:Nat) (ad:Addr) (u:Nat->Value):ad.block<w.heap.size->¬ M ad.block->(∀ (j:Nat) (d:DV),cells[j]? = some d->w.cell? (ad.add j)=some (u j)) ->
  (∀ (j:Nat) (d:DV),cells[j]? = some d->Rd w M d (u j))->Den w M β (.dptr cells off) (.pointer (some (ad.add off)))
 |allNil (i:Nat) (L:Loc):β i=some L->L.nil=true->Den w M β (.all i) (.slice none 0 0)
 |all (i:Nat) (L:Loc):β i=some L->L.nil=false->Den w M β (.all i) (.slice (some ⟨L.b,0,none⟩) L.n L.c)
 |rowNil (i:Nat) (L:Loc):β i=some L->L.nil=true->Den w M β (.row i 0 0) (.slice none 0 0)
 |row (i lo n off:Nat) (L:Loc):β i=some L->L.nil=false->lo+n<=L.c->(lo<L.c\/lo=0->off=lo * L.sz)->Den w M β (.row i lo n) (.slice (some ⟨L.b,off,none⟩) n (L.c - lo))
 |cs (i off n c:Nat) (L:Loc):β i=some L->n<=c->Den w M β (.cs i off n c) (.slice (some ⟨L.b,off,none⟩) n c)
 |rptr (i j off sz:Nat) (L:Loc):β i=some L->j<L.n->Den w M β (.rptr i j off sz) (.pointer (some ⟨L.b,j * sz+off,none⟩))
 |agg (l:List SV) (vs:List Value):l.length=vs.length->(∀ (j:Nat) (s:SV) (u:Value),l[j]? = some s->vs[j]? = some u->Den w M β s u)->(∀ u ∈ vs,u.oneCell'=true)->Den w M β (.agg l) (.agg vs.toArray)
 |tup (l:List SV) (vs:List Value):l.length=vs.length->(∀ (j:Nat) (s:SV) (u:Value),l[j]? = some s->vs[j]? = some u->Den w M β s u)->Den w M β (.tup l) (.tuple vs.toArray)
 |fn (f:FuncId) (caps:List SV) (vs:List Value):caps.length=vs.length->(∀ (j:Nat) (s:SV) (u:Value),caps[j]? = some s->vs[j]? = some u->Den w M β s u)->Den w M β (.fn f caps) (.func (.func f) #[] vs.toArray)
 |map (i:Nat) (L:Loc):β i=some L->Den w M β (.map i) (.map (some L.b))
 |yl (i:Nat) (L:Loc):β i=some L->Den w M β (.yl i) (.func (.yield L.b) #[] #[])
 |ln (n c:Nat) (ad:Option Addr):Den w M β (.ln n) (.slice ad n c)
 |err (b:Bool) (v:Value):(b=true->∃ t x,v = .iface t x)->(b=false->v = .nilIface)->Den w M β (.err b) v
 |v (x:Value):Den w M β (.v x) x
 |any (x:Value):Den w M β .any x
theorem Den.keep[Dr]{w w':World}{M M':Nat->Prop}{β β':Env}{s:SV}{v:Value}(h:Den w M β s v)(hs:Keep M w w')(hM:∀ b,b<w.heap.size->M' b->M b)(hb:Ext β β'):Den w' M' β' s v:=by
 induction h with
 |d h=>exact .d (h.keep hs hM)
 |ptr i off L h=>exact .ptr i off L (hb _ _ h)
 |aptr i off len ix L h1 h2 h3=>exact .aptr i off len ix L h1 h2 (hb _ _ h3)
 |dptr cells off ad u h1 h2 h3 h4 =>
  exact .dptr cells off ad u (bq h1 hs.size) (λe=>h2 (hM _ h1 e)) (λj d hd=>hs.cell _ _ (by rw[qs6];exact h2) (h3 j d hd)) (λj d hd=>(h4 j d hd).keep hs hM)
 |allNil i L h1 h2=>exact .allNil i L (hb _ _ h1) h2
 |all i L h1 h2=>exact .all i L (hb _ _ h1) h2
 |rowNil i L h1 h2=>exact .rowNil i L (hb _ _ h1) h2
 |row i lo n off L h1 h2 h3 h4=>exact .row i lo n off L (hb _ _ h1) h2 h3 h4
 |cs i off n c L h h1=>exact .cs i off n c L (hb _ _ h) h1
 |rptr i j off sz L h h1=>exact .rptr i j off sz L (hb _ _ h) h1
 |agg l vs h1 _ h3 ih=>exact .agg l vs h1 (λj s u a b=>ih j s u a b) h3
 |tup l vs h1 _ ih=>exact .tup l vs h1 (λj s u a b=>ih j s u a b)
 |fn f caps vs h1 _ ih=>exact .fn f caps vs h1 (λj s u a b=>ih j s u a b)
 |map i L h=>exact .map i L (hb _ _ h)
 |yl i L h=>exact .yl i L (hb _ _ h)
 |ln n c ad=>exact .ln n c ad
 |err b v h1 h2=>exact .err b v h1 h2
 |v x=>exact .v x
 |any x=>exact .any x
theorem Den.mono[Dr]{w w':World}{M M':Nat->Prop}{β β':Env}{s:SV}{v:Value}(h:Den w M β s v)(hs:Step M w w')(hM:∀ b,b<w.heap.size->M' b->M b)(hb:Ext β β'):Den w' M' β' s v:=h.keep hs.keep hM hb
def q9(agg:Bool)(cs:List Value):Value:=if agg then .agg cs.toArray else cs.headD undef
def ju4(φ:World->(Nat->Prop)->Loc->(Nat->Prop)->Prop):Prop:=∀ w w' M M' L fp,φ w M L fp->Keep M w w'->(∀ b,fp b->w'.heap[b]? = w.heap[b]?)->(∀ b,b<w.heap.size->M' b->M b)->φ w' M' L fp
structure EntAt(w:World)(M:Nat->Prop)(β:Env)(eks:List EK)(ka ea:Bool)(p:List DV × List SV)(e:MapEntry):Prop where
 ex:∃ kc vc:List Value,e.key=q9 ka kc/\e.val=q9 ea vc/\p.1.length=kc.length/\p.2.length=vc.length/\kc.length=eks.length/\(ka=false->kc.length=1)/\(ea=false->vc.length=1)/\Fits eks kc /\
  (∀ (q:Nat) (d:DV) (u:Value),p.1[q]? = some d->kc[q]? = some u->Rd w M d u)/\(∀ (q:Nat) (s:SV) (u:Value),p.2[q]? = some s->vc[q]? = some u->Den w M β s u)/\(∀ u ∈ vc,u.oneCell'=true)
theorem EntAt.keep[Dr]{w w':World}{M M':Nat->Prop}{β β':Env}{eks:List EK}{ka ea:Bool}{p:List DV × List SV}{e:MapEntry}(h:EntAt w M β eks ka ea p e)(hs:Keep M w w')(hM:∀ b,b<w.heap.size->M' b->M b)(hb:Ext β β'):EntAt w' M' β' eks ka ea p e:=by
 obtain⟨kc,vc,a1,a2,a3,a4,a5,a6,a7,a8,a9,a10,a11⟩:=h.ex;exact⟨kc,vc,a1,a2,a3,a4,a5,a6,a7,a8,λq d u hd hu=>(a9 q d u hd hu).keep hs hM,λq s u hd hu=>(a10 q s u hd hu).keep hs hM hb,a11⟩
structure Born(es:Array MapEntry)(clock:Nat):Prop where
 un:∀ (i j:Nat) (e e':MapEntry),es[i]? = some e->es[j]? = some e'->e.born=e'.born->i=j
 lt:∀ (i:Nat) (e:MapEntry),es[i]? = some e->e.born<clock
def StOk(es:Array MapEntry)(clock:Nat):MS->Prop
 | .free=>True
 | .opn q s=>∃ e,es[q]? = some e/\(e.born:Int)=s
 | .born bs c=>es.toList.map (·.born)=bs/\clock=c
inductive KBat (w:World) (M:Nat->Prop) (β:Env) (L:Loc) (fp:Nat->Prop):KB->Prop where
 |cells (t:TypeId) (l:List SV) (vs:Array Value):(∀ x,fp x↔x=L.b)->w.heap[L.b]? = some (.cells vs t (0,0))->l.length=vs.size ->
  (∀ (j:Nat) (s:SV) (u:Value),l[j]? = some s->vs[j]? = some u->Den w M β s u)->(∀ (j:Nat) (u:Value),vs[j]? = some u->u.oneCell'=true)->KBat w M β L fp (.cells t l)
 |rowNil (e:TypeId) (sz:Nat) (z:Z) (f:Nat->List DV):(∀ x,¬ fp x)->L.nil=true->L.c=0->L.n=0->z≠.no->KBat w M β L fp (.row e sz 0 z f)
 |row (e:TypeId) (sz n:Nat) (z:Z) (f:Nat->List DV) (vs:Array Value) (fz:Nat × Nat):(∀ x,fp x↔x=L.b)->L.nil=false->L.sz=sz->L.n=n->(z = .iff->0<n) ->
  w.heap[L.b]? = some (.cells vs e fz)->(∀ o,o<vs.size->¬ (fz.1<=o/\o<fz.2))->vs.size=L.c * sz->n<=L.c ->
  (∀ k,k<n->(f k).length=sz)->(∀ (k j:Nat) (d:DV) (u:Value),k<n->(f k)[j]? = some d->vs[k * sz+j]? = some u->Rd w M d u)->(∀ (j:Nat) (u:Value),vs[j]? = some u->u.oneCell'=true)->KBat w M β L fp (.row e sz n z f)
 |rows (e:TypeId) (sz n:Nat) (f:Nat->List SV) (vs:Array Value) (fz:Nat × Nat):(∀ x,fp x↔x=L.b)->L.nil=false->L.sz=sz->L.n=n ->
  w.heap[L.b]? = some (.cells vs e fz)->(∀ o,o<vs.size->¬ (fz.1<=o/\o<fz.2))->vs.size=L.c * sz->n<=L.c ->
  (∀ k,k<n->(f k).length=sz)->(∀ (k j:Nat) (s:SV) (u:Value),k<n->(f k)[j]? = some s->vs[k * sz+j]? = some u->Den w M β s u)->(∀ (j:Nat) (u:Value),vs[j]? = some u->u.oneCell'=true)->KBat w M β L fp (.rows e sz n f)
 |mapx (eks:List EK) (ka ea:Bool) (l:List (List DV × List SV)) (st:MS) (es:Array MapEntry) (clock:Nat):(∀ x,fp x↔x=L.b)->w.heap[L.b]? = some (.map es clock)->l.length=es.size ->
  (∀ (j:Nat) (p:List DV × List SV) (e:MapEntry),l[j]? = some p->es[j]? = some e->EntAt w M β eks ka ea p e)->Born es clock->StOk es clock st->KBat w M β L fp (.mapx eks ka ea l st)
 |iter (i:Nat) (bs:List Nat) (c:Nat) (rem:List Nat) (lst:Nat) (Li:Loc) (seen:Array Nat):(∀ x,fp x↔x=L.b)->β i=some Li->w.heap[L.b]? = some (.mapIter (some Li.b) c seen c)->rem.Nodup->(∀ j ∈ rem,j<bs.length) ->
  (∀ (j b:Nat),bs[j]? = some b->(seen.contains b=true↔j ∉ rem))->(∀ b,bs[lst]? = some b->seen.back? = some b)->KBat w M β L fp (.iter i bs c rem lst)
 |obj (φ:World->(Nat->Prop)->Loc->(Nat->Prop)->Prop):ju4 φ->φ w M L fp->KBat w M β L fp (.obj φ)
 |loop (ts:List SV) (ps:List Tmp) (asg body:Code) (st:RS) (r:Loop):(∀ x,fp x↔x=L.b)->w.heap[L.b]? = some (.loop r)->ts.length=r.tmps.size ->
  (∀ (j:Nat) (s:SV) (u:Value),ts[j]? = some s->r.tmps[j]? = some u->Den w M β s u)->r.params.toList=ps->r.assign=asg->r.body=body->RSok r st->KBat w M β L fp (.loop ts ps asg body st)
def Mx(X:Nat->Prop)(fp:Nat->Nat->Prop):Nat->Prop:=λb=>X b\/∃ i,fp i b
theorem KBat.keep[Dr]{w w':World}{M M':Nat->Prop}{β β':Env}{L:Loc}{fp:Nat->Prop}{k:KB}(h:KBat w M β L fp k)(hs:Keep M w w')(hM:∀ b,b<w.heap.size->M' b->M b)(hβ:Ext β β')
 (hb:∀ b,fp b->w'.heap[b]? = w.heap[b]?):KBat w' M' β' L fp k:=by
 cases h with
 |cells t l vs h0 h1 h3 h4 h5=>exact .cells t l vs h0 ((hb _ ((h0 _).2 rfl)).trans h1) h3 (λj s u a b=>(h4 j s u a b).keep hs hM hβ) h5
 |rowNil e sz z f h0 h1 h2 h3 h4=>exact .rowNil e sz z f h0 h1 h2 h3 h4
 |row e sz n z f vs fz h0 h1 h2 hn h3 h4 h5 h6 h7 h8 h9 h10=>exact .row e sz n z f vs fz h0 h1 h2 hn h3 ((hb _ ((h0 _).2 rfl)).trans h4) h5 h6 h7 h8 (λk j d u a b c=>(h9 k j d u a b c).keep hs hM) h10
 |rows e sz n f vs fz h0 h1 h2 hn h4 h5 h6 h7 h8 h9 h10=>exact .rows e sz n f vs fz h0 h1 h2 hn ((hb _ ((h0 _).2 rfl)).trans h4) h5 h6 h7 h8 (λk j s u a b c=>(h9 k j s u a b c).keep hs hM hβ) h10
 |mapx eks ka ea l st es clock h0 h1 h2 h3 h4 h5=>exact .mapx eks ka ea l st es clock h0 ((hb _ ((h0 _).2 rfl)).trans h1) h2 (λj p e hp he=>(h3 j p e hp he).keep hs hM hβ) h4 h5
 |iter i bs c rem lst Li seen h0 h1 h2 h3 h4 h5 h6=>exact .iter i bs c rem lst Li seen h0 (hβ _ _ h1) ((hb _ ((h0 _).2 rfl)).trans h2) h3 h4 h5 h6
 |obj φ h1 h2=>exact .obj φ h1 (h1 _ _ _ _ _ _ h2 hs hb hM)
 |loop ts ps asg body st r h0 h1 h2 h3 h4 h5 h6 h7=>exact .loop ts ps asg body st r h0 ((hb _ ((h0 _).2 rfl)).trans h1) h2 (λj s u a b=>(h3 j s u a b).keep hs hM hβ) h4 h5 h6 h7
theorem KBat.mono[Dr]{w w':World}{M M':Nat->Prop}{β β':Env}{L:Loc}{fp:Nat->Prop}{k:KB}(h:KBat w M β L fp k)(hs:Step M w w')(hM:∀ b,b<w.heap.size->M' b->M b)(hβ:Ext β β')
 (hb:∀ b,fp b->w'.heap[b]? = w.heap[b]?):KBat w' M' β' L fp k:=h.keep hs.keep hM hβ hb
def jv1(vs:Array Value):Prop:=∃ t x,vs = #[.iface t x]
def zf8(k:IntKind)(zs:List Int)(vs:Array Value):Prop:=vs=(zs.map λz=>Value.int k z).toArray
def evs:List (Nat × (Array Value->Prop)):=[(2,jv1),(3,jv1),(1,zf8 .u64 ((List.range 20).map λi=>((10 ^ i:Nat):Int)))]
def VOk(w:World)(fp:Nat->Nat->Prop):Prop:=∀ p,p ∈ evs->(∃ vs t fz,w.heap[p.1]? = some (.cells vs t fz)/\p.2 vs)/\∀ i,¬ fp i p.1
theorem VOk.size{w:World}{fp:Nat->Nat->Prop}(h:VOk w fp){p:Nat × (Array Value->Prop)}(hp:p ∈ evs):p.1<w.heap.size:=by
 obtain⟨⟨vs,t,fz,e,_⟩,_⟩:=h p hp;rcases ox p.1 w.heap.size with e1|e1
 ·exact e1
 ·simp [rn e1] at e
theorem VOk.step[Dr]{w w':World}{fp fp':Nat->Nat->Prop}(h:VOk w fp)(hs:Step (λb=>∃ i,fp i b) w w')(ho:∀ i b,fp' i b->(∃ j,fp j b)\/w.heap.size<=b):VOk w' fp':=λp hp=>by
 have hlt:=h.size hp;obtain⟨⟨vs,t,fz,e,h1⟩,h2⟩:=h p hp;exact⟨⟨vs,t,fz,(hs.block p.1 hlt (λ⟨i,hi⟩=>h2 i hi)).trans e,h1⟩,λi hi=>(ho i p.1 hi).elim (λ⟨j,hj⟩=>h2 j hj) (λe=>by omega)⟩
theorem VOk.sub[Dr]{w:World}{fp fp':Nat->Nat->Prop}(h:VOk w fp)(ho:∀ i b,fp' i b->∃ j,fp j b):VOk w fp':=h.step (Step.refl _ _) (λi b hi=>.inl (ho i b hi))
theorem VOk.no[Dr]{w:World}{fp:Nat->Nat->Prop}(h:VOk w fp):VOk w (λ_ _=>False):=h.sub (λ_ _ e=>e.elim)
structure Mem0(X:Nat->Prop)(w:World)(β:Env)(fp:Nat->Nat->Prop)(ks:List KB):Prop where
 xa:∀ b,X b->b<w.heap.size
 xb:∀ i b,fp i b->¬ X b
 dis:∀ i j b,fp i b->fp j b->i=j
 kw:∀ i b,fp i b->b<w.heap.size
 kn:∀ i b,fp i b->∃ L,β i=some L
 kb:∀ (i:Nat) (L:Loc) (k:KB),ks[i]? = some k->k≠.gone->β i=some L->KBat w (Mx X fp) β L (fp i) k
structure Mem(X:Nat->Prop)(w:World)(β:Env)(fp:Nat->Nat->Prop)(ks:List KB):Prop extends Mem0 X w β fp ks where
 kl:∀ i,ks.length<=i->β i=none
 vo:VOk w fp
structure Went[Dr](X:Nat->Prop)(w:World)(β:Env)(fp:Nat->Nat->Prop)(w':World)(β':Env)(fp':Nat->Nat->Prop)(ks':List KB):Prop where
 mem:Mem X w' β' fp' ks'
 st:Step (λb=>∃ i,fp i b) w w'
 ext:Ext β β'
 own:∀ i b,fp' i b->(∃ j,fp j b)\/w.heap.size<=b
theorem Went.refl[Dr]{X:Nat->Prop}{w:World}{β:Env}{fp:Nat->Nat->Prop}{ks:List KB}(h:Mem X w β fp ks):Went X w β fp w β fp ks :=
 ⟨h,Step.refl _ _,Ext.refl _,λi _ hb=>.inl ⟨i,hb⟩⟩
theorem Went.trans[Dr]{X:Nat->Prop}{w w1 w2:World}{β β1 β2:Env}{fp fp1 fp2:Nat->Nat->Prop}{ks1 ks2:List KB}(h:Went X w β fp w1 β1 fp1 ks1)(k:Went X w1 β1 fp1 w2 β2 fp2 ks2):Went X w β fp w2 β2 fp2 ks2 :=
 ⟨k.mem,⟨k.st.os.trans h.st.os,k.st.tape.trans h.st.tape,k.st.output.trans h.st.output,gn h.st.size k.st.size,λb hb hm =>
  (k.st.block b (bq hb h.st.size) (λ⟨i,hi⟩=>(h.own i b hi).elim hm (λe=>by omega))).trans (h.st.block b hb hm),λe=>gn (h.st.dr e) (k.st.dr e)⟩,
  h.ext.trans k.ext,λi b hb=>(k.own i b hb).elim (λ⟨j,hj⟩=>h.own j b hj) (λe=>.inr (gn h.st.size e))⟩
theorem Went.den[Dr]{X:Nat->Prop}{w w':World}{β β':Env}{fp fp':Nat->Nat->Prop}{ks':List KB}(h:Went X w β fp w' β' fp' ks'){s:SV}{v:Value}(hd:Den w (Mx X fp) β s v):Den w' (Mx X fp') β' s v :=
 hd.mono (h.st.mono (λ_ _ e=>.inr e)) (λb hb hm=>hm.imp id (λ⟨i,hi⟩=>(h.own i b hi).elim id (λe=>by omega))) h.ext
structure Dfs(w0 w:World)(M:Nat->Prop)(ds:List Deferred):Prop where
 marks:∀ d ∈ ds,∃ r,d.target = .collected r/\w0.heap.size<=r/\w.heap[r]? = some (.deferred (some []))/\¬ M r
 un:ds.Pairwise (λd e=>∀ r r',d.target = .collected r->e.target = .collected r'->r≠r')
theorem Dfs.nil(w0 w:World)(M:Nat->Prop):Dfs w0 w M []:=⟨λd h=>by simp at h,.nil⟩
theorem Dfs.mono[Dr]{w0 w w':World}{M M':Nat->Prop}{ds:List Deferred}(h:Dfs w0 w M ds)(hs:Step M w w')(hM:∀ b,b<w.heap.size->M' b->M b):Dfs w0 w' M' ds :=
 ⟨λd hd=>by
  obtain⟨r,h1,h2,h3,h4⟩:=h.marks d hd;have hr:r<w.heap.size:=by
   rcases ox r w.heap.size with e|e
   ·exact e
   ·rw [rn e] at h3;cases h3
  exact⟨r,h1,h2,(hs.block r hr h4).trans h3,λe=>h4 (hM r hr e)⟩,h.un⟩
structure Bs where
 X:Nat->Prop
 w0:World
 β0:Env
 fp0:Nat->Nat->Prop
structure Sat[Dr](B:Bs)(w:World)(β:Env)(fp:Nat->Nat->Prop)(ts:List SV)(ks:List KB)(a:Act):Prop where
 went:Went B.X B.w0 B.β0 B.fp0 w β fp ks
 df:Dfs B.w0 w (Mx B.X fp) a.defers
 len:a.tmps.size=ts.length
 tm:∀ (t:Nat) (s:SV) (v:Value),ts[t]? = some s->a.tmps[t]? = some v->Den w (Mx B.X fp) β s v
theorem Sat.on[Dr]{B:Bs}{w w':World}{β β':Env}{fp fp':Nat->Nat->Prop}{ts:List SV}{ks ks':List KB}{a:Act}(h:Sat B w β fp ts ks a)(k:Went B.X w β fp w' β' fp' ks'):Sat B w' β' fp' ts ks' a :=
 ⟨h.went.trans k,h.df.mono (k.st.mono (λ_ _ e=>.inr e)) (λb hb hm=>hm.imp id (λ⟨i,hi⟩=>(k.own i b hi).elim id (λe=>by omega))),h.len,λt s v a b=>k.den (h.tm t s v a b)⟩
inductive TD where
 |other|bool|str
 |int (k:IntKind)
 |slice (e:TypeId)
 |array (len:Nat) (e:TypeId)
 |struct (fs:List (Nat × TypeId))
 |ptr (e:TypeId)
 |map (k e:TypeId)
 |iface
structure TI where
 size:Nat
 bytes:Nat
 agg:Bool
 zero:List SV
 desc:TD
 eqk:List EK:=[]
mutual
def closed:SV->Bool
 | .d _=>true
 | .dptr _ _=>true
 | .v _=>true
 | .any=>true
 | .ln _=>true
 | .err _=>true
 | .agg l=>xn l
 | .tup l=>xn l
 | .fn _ l=>xn l
 |_=>false
def xn:List SV->Bool
 |[]=>true
 |a :: l=>closed a && xn l
end
mutual
def scalar:SV->Bool
 | .d (.sl _ _ _ _)=>false
 | .d _=>true
 | .ln _=>true
 | .err _=>true
 | .agg l=>qu3 l
 | .tup l=>qu3 l
 |_=>false
def qu3:List SV->Bool
 |[]=>true
 |a :: l=>scalar a && qu3 l
end
def zu:EK->Value->Value->Bool
 | .int _,.int _ x,.int _ y=>x == y
 | .bool,.bool x,.bool y=>x == y
 | .str,.string x,.string y=>x.toList == y.toList
 |_,_,_=>false
def jm:List EK->List Value->List Value->Bool
 |[],_,_=>true
 |k :: ks,x :: xs,y :: ys=>zu k x y && jm ks xs ys
 |_,_,_=>false
def TDok(P:Program)(d:TypeDesc):TD->Prop
 | .other=>True
 | .bool=>d = .bool
 | .str=>d = .string
 | .int k=>d = .int k
 | .slice e=>d = .slice e
 | .array n e=>d = .array n e
 | .ptr e=>d = .pointer e
 | .map k e=>d = .map k e
 | .iface=>∃ ms,d = .interface ms
 | .struct fs=>∃ fields:Array Field,d = .struct fields/\fields.size=fs.length/\∀ (j:Nat) (off:Nat) (ft:TypeId),fs[j]? = some (off,ft)->∃ (f:Field) (fi:TypeInfo),fields[j]? = some f/\f.offset=off/\f.type=ft/\P.info? ft=some fi/\fi.size≠0
def y6:TypeDesc->Bool
 | .struct _=>true
 | .array _ _=>true
 |_=>false
structure TIok(P:Program)(t:TypeId)(ti:TI):Prop where
 all:∃ (info:TypeInfo) (d:TypeDesc) (z:Value),P.info? t=some info/\P.underlying t=some d/\info.size=ti.size/\info.bytes=ti.bytes/\info.zero=some z/\y6 d=ti.agg /\
  z.cells.size=ti.zero.length/\ti.zero.length=ti.size/\(∀ (w:World) (M:Nat->Prop) (β:Env) (j:Nat) (s:SV) (u:Value),ti.zero[j]? = some s->z.cells[j]? = some u->Den w M β s u)/\(∀ (j:Nat) (u:Value),z.cells[j]? = some u->u.oneCell'=true)/\TDok P d ti.desc
 eqk:ti.eqk≠[]->∀ (w:World) (xs ys:List Value),xs.length=ti.eqk.length->ys.length=ti.eqk.length->(∀ (j:Nat) (k:EK) (x:Value),ti.eqk[j]? = some k->xs[j]? = some x->fits k x)->(∀ (j:Nat) (k:EK) (y:Value),ti.eqk[j]? = some k->ys[j]? = some y->fits k y) ->
  (Op.equal t (.agg xs.toArray) (.agg ys.toArray)).run P w = .ok (jm ti.eqk xs ys) w/\P.eqGuardType P.depth t=false
 zag:∀ (info:TypeInfo) (z:Value),P.info? t=some info->info.zero=some z->z=q9 ti.agg z.cells.toList
 key:ti.eqk≠[]->ti.agg=true/\∀ (w:World) (b:Bool) (xs:List Value),xs.length=ti.eqk.length->Fits ti.eqk xs->(Instr.checkKey b 10000 t (.agg xs.toArray)).run P w = .ok () w
def TTok(P:Program)(TT:Nat->Option TI):Prop:=∀ t ti,TT t=some ti->TIok P t ti
def FnOk[Dr](P:Program)(f:FuncId)(args:List SV)(res:SV):Prop :=
 (∀ (args:Array Value) (w:World),(callFunc f args).run P w = .ok (.enter f args) w)/\∀ (M:Nat->Prop) (w:World) (vs:List Value),VOk w (λ_ _=>False)->(∀ b,M b->b<w.heap.size)->args.length=vs.length ->
  (∀ (j:Nat) (s:SV) (u:Value),args[j]? = some s->vs[j]? = some u->Den w M noE s u) ->
  Calls P f vs.toArray w λe w'=>∃ r,e = .returned r/\Step (λ_=>False) w w'/\Den w' M noE res r
def COk[Dr](P:Program)(f:FuncId)(args:List SV)(ks:List KB)(R:SV->List KB->Prop):Prop :=
 (∀ (args:Array Value) (w:World),(callFunc f args).run P w = .ok (.enter f args) w)/\∀ (X:Nat->Prop) (w:World) (β:Env) (fp:Nat->Nat->Prop) (vs:List Value),Mem X w β fp ks->args.length=vs.length ->
  (∀ (j:Nat) (s:SV) (u:Value),args[j]? = some s->vs[j]? = some u->Den w (Mx X fp) β s u) ->
  Calls P f vs.toArray w λe w'=>∃ r s ks' β' fp',e = .returned r/\R s ks'/\Went X w β fp w' β' fp' ks'/\Den w' (Mx X fp') β' s r
def getT:List SV->Nat->SV
 |[],_=>.any
 |a :: _,0=>a
 |_ :: l,n+1=>getT l n
def setT:List SV->Nat->SV->List SV
 |[],_,_=>[]
 |_ :: l,0,v=>v :: l
 |a :: l,n+1,v=>a :: setT l n v
def setK:List SV->Nat->SV->(List SV->Prop)->Prop
 |[],_,_,k=>k []
 |_ :: l,0,v,k=>k (v :: l)
 |a :: l,n+1,v,k=>setK l n v (λl'=>k (a :: l'))
def getB:List KB->Nat->KB
 |[],_=>.gone
 |a :: _,0=>a
 |_ :: l,n+1=>getB l n
def setB:List KB->Nat->KB->List KB
 |[],_,_=>[]
 |_ :: l,0,v=>v :: l
 |a :: l,n+1,v=>a :: setB l n v
theorem vq(l:List SV)(n:Nat)(v:SV)(k:List SV->Prop):setK l n v k=k (setT l n v):=by
 induction l generalizing n k with
 |nil=>rfl
 |cons a l ih=>cases n with
  |zero=>rfl
  |succ n=>simp only[setK,setT,ih]
theorem vb(l:List SV)(n:Nat):getT l n=(l[n]?).getD .any:=by
 induction l generalizing n with
 |nil=>rfl
 |cons a l ih=>cases n with
  |zero=>rfl
  |succ n=>simp[getT,ih]
theorem zw(l:List SV)(n:Nat)(v:SV):setT l n v=l.set n v:=by
 induction l generalizing n with
 |nil=>rfl
 |cons a l ih=>cases n with
  |zero=>rfl
  |succ n=>simp[setT,ih]
theorem vt(l:List KB)(n:Nat):getB l n=(l[n]?).getD .gone:=by
 induction l generalizing n with
 |nil=>rfl
 |cons a l ih=>cases n with
  |zero=>rfl
  |succ n=>simp[getB,ih]
theorem zr(l:List KB)(n:Nat)(v:KB):setB l n v=l.set n v:=by
 induction l generalizing n with
 |nil=>rfl
 |cons a l ih=>cases n with
  |zero=>rfl
  |succ n=>simp[setB,ih]
def nilS:SV:=.d (.sl true 0 0 (λ_=>[]))
def je4:Value->SV
 | .int k n=>.d (.int k n)
 | .bool true=>.d .tt
 | .bool false=>.d .ff
 | .string s=>.d (.str s.data.toList)
 | .slice none 0 0=>nilS
 |v=>.v v
def jo5(v:Value)(k:SV->Prop):Prop :=
 match v with
 | .int j n=>k (.d (.int j n))
 | .bool true=>k (.d .tt)
 | .bool false=>k (.d .ff)
 | .string s=>k (.d (.str s.data.toList))
 | .slice none 0 0=>k nilS
 |v=>k (.v v)
def ul:List SV->Nat->(SV->Prop)->Prop
 |[],_,k=>k .any
 |a :: _,0,k=>k a
 |_ :: l,n+1,k=>ul l n k
def q8:List KB->Nat->(KB->Prop)->Prop
 |[],_,k=>k .gone
 |a :: _,0,k=>k a
 |_ :: l,n+1,k=>q8 l n k
def val(l:List SV):Operand->SV
 | .tmp t=>getT l t
 | .const v=>je4 v
 | .func f=>.fn f []
 | .global _=>.any
def valK(l:List SV)(x:Operand)(k:SV->Prop):Prop :=
 match x with
 | .tmp t=>ul l t k
 | .const v=>jo5 v k
 | .func f=>k (.fn f [])
 | .global _=>k .any
def vals(l:List SV):List Operand->List SV
 |[]=>[]
 |x :: r=>val l x :: vals l r
def qg6(l:List SV):List Operand->(List SV->Prop)->Prop
 |[],k=>k []
 |x :: r,k=>valK l x (λv=>qg6 l r (λvs=>k (v :: vs)))
def appK:List SV->List SV->(List SV->Prop)->Prop
 |[],m,k=>k m
 |a :: l,m,k=>appK l m (λr=>k (a :: r))
def zf1:List SV->Nat->List SV
 |_,0=>[]
 |[],_+1=>[]
 |a :: l,n+1=>a :: zf1 l n
def ua:List SV->Nat->(List SV->Prop)->Prop
 |_,0,k=>k []
 |[],_+1,k=>k []
 |a :: l,n+1,k=>ua l n (λr=>k (a :: r))
def zg5:List SV->Nat->List SV
 |l,0=>l
 |[],_+1=>[]
 |_ :: l,n+1=>zg5 l n
def um:List SV->Nat->(List SV->Prop)->Prop
 |l,0,k=>k l
 |[],_+1,k=>k []
 |_ :: l,n+1,k=>um l n k
def mapD:List DV->List SV
 |[]=>[]
 |a :: l=>.d a :: mapD l
def qp4:List DV->(List SV->Prop)->Prop
 |[],k=>k []
 |a :: l,k=>qp4 l (λr=>k (.d a :: r))
def lenL:List SV->Nat
 |[]=>0
 |_ :: l=>lenL l+1
def pack(agg:Bool)(size:Nat)(l:List SV)(off:Nat):SV :=
 match agg with
 |true=>.agg (zf1 (zg5 l off) size)
 |false=>getT l off
def wt(agg:Bool)(size:Nat)(l:List SV)(off:Nat)(k:SV->Prop):Prop :=
 match Nat.ble (off+size) (lenL l) with
 |true=>match agg with
  |true=>um l off (λm=>ua m size (λr=>k (.agg r)))
  |false=>match size with
   |1=>ul l off k
   |_=>False
 |false=>False
def qw(s:Ls)(i:Int):Int:=((s[i.toNat]?).getD 0).toNat
def kEq:IntKind->IntKind->Bool
 | .i8,.i8=>true
 | .i16,.i16=>true
 | .i32,.i32=>true
 | .i64,.i64=>true
 | .u8,.u8=>true
 | .u16,.u16=>true
 | .u32,.u32=>true
 | .u64,.u64=>true
 |_,_=>false
theorem vz{a b:IntKind}(h:kEq a b=true):a=b:=by cases a <;> cases b <;> first|rfl|(simp [kEq] at h)
def qh5(x:DV)(k:Bool->Prop)(no:Prop):Prop :=
 match x with
 | .bool b=>k b
 | .tt=>k true
 | .ff=>k false
 |_=>no
def bin(td:TD)(op:BinOp)(x y:DV)(K:SV->Prop):Prop :=
 match x,y with
 | .int k a,.int k' b =>
  match op with
  | .shl=>0<=b/\K (.d (.int k (k.wrap (a * 2 ^ (min b.toNat k.bits)))))
  | .shr=>0<=b/\K (.d (.int k (a.fdiv (2 ^ (min b.toNat k.bits)))))
  |op=>match kEq k k' with
   |false=>False
   |true=>match op with
    | .add=>K (.d (.int k (k.wrap (a+b))))
    | .sub=>K (.d (.int k (k.wrap (a - b))))
    | .mul=>K (.d (.int k (k.wrap (a * b))))
    | .quo=>b≠0/\K (.d (.int k (k.wrap (a.tdiv b))))
    | .rem=>b≠0/\K (.d (.int k (a.tmod b)))
    | .and=>K (.d (.int k (bits .and k a b)))
    | .or=>K (.d (.int k (bits .or k a b)))
    | .xor=>K (.d (.int k (bits .xor k a b)))
    | .andNot=>K (.d (.int k (bits .andNot k a b)))
    | .eql=>K (.d (.bool (a == b)))
    | .neq=>K (.d (.bool (a != b)))
    | .lss=>K (.d (.bool (decide (a<b))))
    | .leq=>K (.d (.bool (decide (a<=b))))
    | .gtr=>K (.d (.bool (decide (a > b))))
    | .geq=>K (.d (.bool (decide (a >= b))))
    |_=>False
 | .str a,.str b =>
  match op with
  | .add=>a.length+b.length<=9223372036854775807/\K (.d (.str (a++b)))
  | .eql=>K (.d (.bool (a == b)))
  | .neq=>K (.d (.bool (!(a == b))))
  | .lss=>K (.d (.bool (Op.bytesLess a b)))
  | .leq=>K (.d (.bool (Op.bytesLess a b || a == b)))
  | .gtr=>K (.d (.bool (!(Op.bytesLess a b || a == b))))
  | .geq=>K (.d (.bool (!(Op.bytesLess a b))))
  |_=>False
 | .sl b _ _ _,.sl true 0 0 _ =>
  match td,op with
  | .slice _,.eql=>K (.d (.bool b))
  | .slice _,.neq=>K (.d (.bool (!b)))
  |_,_=>False
 |x,y=>qh5 x (λp=>qh5 y (λq =>
  match td,op with
  | .bool,.eql=>K (.d (.bool (p == q)))
  | .bool,.neq=>K (.d (.bool (!(p == q))))
  |_,_=>False) False) False
def qa0:List Int->Int->Int
 |[],_=>0
 |x :: xs,i=>if i=0 then x else qa0 xs (i - 1)
def putI:List Int->Int->Int->List Int
 |[],_,_=>[]
 |x :: xs,i,v=>(if i=0 then v else x) :: putI xs (i - 1) v
def qc5(k:IntKind):List SV->(List Int->Prop)->Prop
 |[],c=>c []
 | .d (.int k' n) :: l,c=>match kEq k' k with
  |true=>qc5 k l (λr=>c (n :: r))
  |false=>False
 |_,_=>False
def qp3(k:IntKind)(i n:Int):List SV->Int->(List SV->Prop)->Prop
 |[],_,c=>c []
 | .d (.int k' x) :: l,j,c=>match kEq k' k with
  |true=>qp3 k i n l (j+1) (λr=>c (.d (.int k (if i=j then n else x)) :: r))
  |false=>False
 |_,_,_=>False
def eqSK:List EK->List SV->List SV->(Bool->Prop)->Prop
 |[],[],[],c=>c true
 | .int k :: ks,.d (.int k1 x) :: xs,.d (.int k2 y) :: ys,c=>match kEq k k1,kEq k k2 with
  |true,true=>eqSK ks xs ys (λb=>c ((x == y) && b))
  |_,_=>False
 | .bool :: ks,.d x :: xs,.d y :: ys,c=>qh5 x (λp=>qh5 y (λq=>eqSK ks xs ys (λb=>c ((p == q) && b))) False) False
 | .str :: ks,.d (.str x) :: xs,.d (.str y) :: ys,c=>eqSK ks xs ys (λb=>c ((x == y) && b))
 |_,_,_,_=>False
def getF:List (Nat × TypeId)->Nat->Option (Nat × TypeId)
 |[],_=>none
 |a :: _,0=>some a
 |_ :: l,n+1=>getF l n
def putCells:List SV->Nat->List SV->List SV
 |l,_,[]=>l
 |l,off,v :: vs=>putCells (setT l off v) (off+1) vs
def putK:List SV->Nat->List SV->(List SV->Prop)->Prop
 |l,_,[],c=>c l
 |l,off,v :: vs,c=>setK l off v (λl'=>putK l' (off+1) vs c)
def cellsOf:SV->List SV
 | .agg l=>l
 |v=>[v]
def wb(v:SV)(k:List SV->Prop):Prop :=
 match v with
 | .agg l=>k l
 | .tup _=>False
 | .any=>False
 | .v x=>match x.oneCell' with
  |true=>k [.v x]
  |false=>False
 |v=>k [v]
def ww(TT:Nat->Option TI)(tmps:List SV)(fs:List (Nat × TypeId)):List SV->List (Nat × Operand)->(List SV->Prop)->Prop
 |cs,[],c=>c cs
 |cs,(i,x) :: r,c =>
  match getF fs i with
  |none=>False
  |some (off,ft)=>match TT ft with
   |none=>False
   |some ti=>valK tmps x (λv=>wb v (λvs=>match Nat.beq (lenL vs) ti.size,Nat.ble (off+ti.size) (lenL cs) with
    |true,true=>putK cs off vs (λcs'=>ww TT tmps fs cs' r c)
    |_,_=>False))
def qq1:Nat->Nat->Nat->TypeId->List (Nat × TypeId)
 |0,_,_,_=>[]
 |n+1,off,size,e=>(off,e) :: qq1 n (off+size) size e
def j5(n:Nat)(f:Nat->List DV):Ls :=
 (List.range n).map λi=>match f i with
  |[.int .u8 x]=>UInt8.ofNat x.toNat
  |_=>0
def jd3(n:Nat)(f:Nat->List DV):Prop:=∀ i,i<n->∃ x:Int,f i=[.int .u8 x]
def w8:List Int->Ls
 |[]=>[]
 |x :: xs=>UInt8.ofNat x.toNat :: w8 xs
def sub(s:Ls)(lo hi:Int):Ls:=(s.drop lo.toNat).take (hi.toNat - lo.toNat)
def yc(ts:List SV)(o:Option Operand)(dflt:Int)(K:Int->Prop):Prop :=
 match o with
 |none=>K dflt
 |some x=>valK ts x (λv=>match v with
  | .d (.int _ n)=>K n
  |_=>False)
def qo5(ks:List KB)(x y:SV)(K:DV->Prop):Prop :=
 match x with
 | .ptr i a=>match y with
  | .v (.pointer none)=>K .ff
  | .ptr j b=>match Nat.beq i j with
   |true=>match Nat.beq a b with
    |true=>K .tt
    |false=>K .ff
   |false=>q8 ks i (λk=>match k with
    | .cells _ _=>q8 ks j (λk'=>match k' with
     | .cells _ _=>K .ff
     |_=>False)
    |_=>False)
  |_=>False
 | .v (.pointer none)=>match y with
  | .v (.pointer none)=>K .tt
  | .ptr _ _=>K .ff
  |_=>False
 |_=>False
def jh6(b:DV)(K:SV->Prop):Prop :=
 match b with
 | .tt=>K (.d .ff)
 | .ff=>K (.d .tt)
 | .bool b=>K (.d (.bool (!b)))
 |_=>False
def qp9:DV->Option Bool
 | .bool b=>some b
 | .tt=>some true
 | .ff=>some false
 |_=>none
def dEq:DV->DV->Bool
 | .int k a,.int k' b=>kEq k k' && a == b
 | .str a,.str b=>a == b
 |x,y=>match qp9 x,qp9 y with
  |some p,some q=>p == q
  |_,_=>false
def jo:List DV->List DV->Bool
 |[],[]=>true
 |a :: l,b :: m=>dEq a b && jo l m
 |_,_=>false
def zg:List (List DV × List SV)->List DV->Option (List SV)
 |[],_=>none
 |(k,v) :: l,key=>if jo key k then some v else zg l key
def putM:List (List DV × List SV)->List DV->List SV->List (List DV × List SV)
 |[],key,vs=>[(key,vs)]
 |(k,v) :: l,key,vs=>if jo key k then (key,vs) :: l else (k,v) :: putM l key vs
def delM:List (List DV × List SV)->List DV->List (List DV × List SV)
 |[],_=>[]
 |(k,v) :: l,key=>if jo key k then l else (k,v) :: delM l key
def fitD:EK->DV->Bool
 | .int k,.int k' _=>kEq k k'
 | .str,.str _=>true
 | .bool,.bool _=>true
 | .bool,.tt=>true
 | .bool,.ff=>true
 |_,_=>false
def qx1:List EK->List DV->Bool
 |[],[]=>true
 |e :: es,d :: ds=>match fitD e d with
  |true=>qx1 es ds
  |false=>false
 |_,_=>false
def ekEq:List EK->List EK->Bool
 |[],[]=>true
 | .int k :: l,.int k' :: m=>match kEq k k' with
  |true=>ekEq l m
  |false=>false
 | .bool :: l,.bool :: m=>ekEq l m
 | .str :: l,.str :: m=>ekEq l m
 |_,_=>false
def bEq:Bool->Bool->Bool
 |true,true=>true
 |false,false=>true
 |_,_=>false
def keks(agg:Bool)(desc:TD)(eqk:List EK):List EK :=
 match agg with
 |true=>eqk
 |false=>match desc with
  | .int k=>[.int k]
  | .str=>[.str]
  | .bool=>[.bool]
  |_=>[]
def qh6:List SV->(List DV->Prop)->Prop
 |[],K=>K []
 | .d x :: l,K=>qh6 l (λds=>K (x :: ds))
 |_ :: _,_=>False
def keyK(eks:List EK)(agg:Bool)(key:SV)(K:List DV->Prop):Prop :=
 match eks with
 |[]=>False
 |e :: es=>match agg with
  |true=>match key with
   | .agg l=>qh6 l (λds=>match qx1 (e :: es) ds with
    |true=>K ds
    |false=>False)
   |_=>False
  |false=>match key with
   | .d x=>match qx1 (e :: es) [x] with
    |true=>K [x]
    |false=>False
   |_=>False
def wn(agg:Bool)(vs:List SV)(K:SV->Prop):Prop :=
 match agg with
 |true=>K (.agg vs)
 |false=>match vs with
  |[v]=>K v
  |_=>False
def lookK(c agg:Bool)(zero:List SV)(r:Option (List SV))(K:SV->Prop):Prop :=
 match r with
 |some vs=>wn agg vs (λv=>match c with
  |true=>K (.tup [v,.d .tt])
  |false=>K v)
 |none=>wn agg zero (λv=>match c with
  |true=>K (.tup [v,.d .ff])
  |false=>K v)
def pev(P:Program)(TT:Nat->Option TI)(ts:List SV)(ks:List KB)(o:Op)(K:SV->Prop):Prop :=
 match o with
 | .move x=>valK ts x K
 | .assign x=>valK ts x K
 | .pick c a b=>valK ts c (λc=>match c with
  | .d .tt=>valK ts a K
  | .d .ff=>valK ts b K
  | .d (.bool q)=>(q=true->valK ts a K)/\(q=false->valK ts b K)
  |_=>False)
 | .load t a =>
  match TT t with
  |none=>False
  |some ⟨size,_,agg,_,desc,_⟩=>valK ts a (λa=>match a with
   | .ptr i off=>q8 ks i (λb=>match b with
    | .cells _ l=>wt agg size l off K
    |_=>False)
   | .aptr i off len ix=>match desc with
    | .int k=>q8 ks i (λb=>match b with
     | .cells _ l=>match Nat.ble (off+len) (lenL l) with
      |true=>um l off (λm=>ua m len (λr=>qc5 k r (λxs=>K (.d (.int k (qa0 xs ix))))))
      |false=>False
     |_=>False)
    |_=>False
   | .dptr c off=>qp4 c (λl=>wt agg size l off K)
   | .rptr i j off sz=>q8 ks i (λb=>match b with
    | .row _ sz' _ _ f=>match Nat.beq sz sz' with
     |true=>qp4 (f j) (λl=>wt agg size l off K)
     |false=>False
    | .rows _ sz' _ f=>match Nat.beq sz sz' with
     |true=>wt agg size (f j) off K
     |false=>False
    |_=>False)
   |_=>False)
 | .lookup t x i c =>
  match TT t with
  |some ⟨_,_,_,_,.map kt et,_⟩=>match TT kt with
   |some ⟨_,_,ka,_,kd,eqk⟩=>match TT et with
    |some ⟨_,_,ea,zero,_,_⟩=>valK ts i (λi=>keyK (keks ka kd eqk) ka i (λds=>valK ts x (λx=>match x with
     | .map b=>q8 ks b (λk=>match k with
      | .mapx eks ka' ea' l _=>match ekEq (keks ka kd eqk) eks,bEq ka ka',bEq ea ea' with
       |true,true,true=>∃ r,zg l ds=r/\lookK c ea zero r K
       |_,_,_=>False
      |_=>False)
     | .v (.map none)=>lookK c ea zero none K
     |_=>False)))
    |none=>False
   |none=>False
  |_=>False
 | .fieldAddr t x f =>
  match TT t with
  |some ⟨_,_,_,_,.struct fs,_⟩=>match getF fs f with
   |some (o,_)=>valK ts x (λx=>match x with
    | .ptr i off=>K (.ptr i (off+o))
    | .dptr c off=>K (.dptr c (off+o))
    | .rptr i j off sz=>K (.rptr i j (off+o) sz)
    |_=>False)
   |none=>False
  |_=>False
 | .field t x f =>
  match TT t with
  |some ⟨_,_,_,_,.struct fs,_⟩=>match getF fs f with
   |some (o,ft)=>match TT ft with
    |some ⟨size,_,agg,_,_,_⟩=>valK ts x (λx=>match x with
     | .agg l=>wt agg size l o K
     |_=>False)
    |none=>False
   |none=>False
  |_=>False
 | .indexAddr t x i0 =>
  match TT t with
  |some ⟨_,_,_,_,.slice e,_⟩=>match TT e with
   |none=>False
   |some ⟨size,_,_,_,desc,_⟩=>valK ts i0 (λi=>match i with
    | .d (.int _ ix)=>valK ts x (λx=>match x with
     | .d (.sl _ n sz f)=>match Nat.beq size sz with
      |true=>(0<=ix/\ix<n)/\K (.dptr (f ix.toNat) 0)
      |false=>False
     | .all b=>q8 ks b (λk=>match k with
      | .row _ sz n _ _=>match Nat.beq size sz with
       |true=>(0<=ix/\ix<n)/\K (.rptr b ix.toNat 0 size)
       |false=>False
      | .rows _ sz n _=>match Nat.beq size sz with
       |true=>(0<=ix/\ix<n)/\K (.rptr b ix.toNat 0 size)
       |false=>False
      |_=>False)
     | .row b lo n=>q8 ks b (λk=>match k with
      | .row _ sz m _ _=>match Nat.beq size sz with
       |true=>(0<=ix/\ix<n/\lo+n<=m)/\K (.rptr b (lo+ix.toNat) 0 size)
       |false=>False
      |_=>False)
     | .cs b off n _=>match desc with
      | .int _=>match size with
       |1=>(0<=ix/\ix<n)/\K (.aptr b off n ix)
       |_=>False
      |_=>(0<=ix/\ix<n)/\K (.ptr b (off+ix.toNat * size))
     |_=>False)
    |_=>False)
  |some ⟨_,_,_,_,.array len e,_⟩=>match Nat.ble 2 len with
   |false=>False
   |true=>match TT e with
    |none=>False
    |some ⟨size,_,_,_,desc,_⟩=>valK ts i0 (λi=>match i with
     | .d (.int _ ix)=>valK ts x (λx=>match x with
      | .ptr b off=>match desc with
       | .int _=>match size with
        |1=>match i0 with
         | .const _=>(0<=ix/\ix<len)/\K (.ptr b (off+ix.toNat))
         |_=>(0<=ix/\ix<len)/\K (.aptr b off len ix)
        |_=>False
       |_=>(0<=ix/\ix<len)/\K (.ptr b (off+ix.toNat * size))
      |_=>False)
     |_=>False)
  |_=>False
 | .index t x i =>
  match TT t with
  |some ⟨_,_,_,_,.str,_⟩=>valK ts x (λx=>valK ts i (λi=>match x,i with
   | .d (.str s),.d (.int _ ix)=>(0<=ix/\ix<s.length)/\K (.d (.int .u8 (qw s ix)))
   |_,_=>False))
  |some ⟨_,_,_,_,.array len e,_⟩=>match TT e with
   |none=>False
   |some ⟨size,_,agg,_,desc,_⟩=>valK ts x (λx=>valK ts i (λi=>match x,i with
    | .agg l,.d (.int _ ix)=>match desc with
     | .int k=>match size,Nat.beq (lenL l) len with
      |1,true=>(0<=ix/\ix<len)/\qc5 k l (λxs=>K (.d (.int k (qa0 xs ix))))
      |_,_=>False
     |_=>(0<=ix/\ix<len)/\wt agg size l (ix.toNat * size) K
    |_,_=>False))
  |_=>False
 | .binOp op t x y0 _=>valK ts x (λx=>valK ts y0 (λy=>match x,y with
  | .d a,.d b=>match TT t with
   |some ⟨_,_,_,_,desc,_⟩=>bin desc op a b K
   |none=>False
  | .agg l,.agg m=>match TT t with
   |some ⟨_,_,_,_,_,e :: es⟩=>match op with
    | .eql=>eqSK (e :: es) l m (λb=>K (.d (.bool b)))
    | .neq=>eqSK (e :: es) l m (λb=>K (.d (.bool (!b))))
    |_=>False
   |_=>False
  | .err b,.v .nilIface=>match TT t with
   |some ⟨_,_,_,_,.iface,_⟩=>match y0 with
    | .const _=>match op with
     | .eql=>K (.d (.bool (!b)))
     | .neq=>K (.d (.bool b))
     |_=>False
    |_=>False
   |_=>False
  | .v (.iface _ _),.v .nilIface=>match TT t with
   |some ⟨_,_,_,_,.iface,_⟩=>match y0 with
    | .const _=>match op with
     | .eql=>K (.d (.bool false))
     | .neq=>K (.d (.bool true))
     |_=>False
    |_=>False
   |_=>False
  | .map _,.v (.map none)=>match TT t with
   |some ⟨_,_,_,_,.map _ _,_⟩=>match op with
    | .eql=>K (.d .ff)
    | .neq=>K (.d .tt)
    |_=>False
   |_=>False
  | .cs _ _ _ _,.d (.sl true 0 0 _)=>match TT t with
   |some ⟨_,_,_,_,.slice _,_⟩=>match op with
    | .eql=>K (.d .ff)
    | .neq=>K (.d .tt)
    |_=>False
   |_=>False
  | .all i,.d (.sl true 0 0 _)=>match TT t with
   |some ⟨_,_,_,_,.slice _,_⟩=>q8 ks i (λb=>match b with
    | .row _ _ n z _=>match z with
     | .no=>match op with
      | .eql=>K (.d .ff)
      | .neq=>K (.d .tt)
      |_=>False
     | .iff=>match op with
      | .eql=>K (.d (.bool (Nat.beq n 0)))
      | .neq=>K (.d (.bool (!(Nat.beq n 0))))
      |_=>False
     | .may=>False
    |_=>False)
   |_=>False
  |x,y=>match TT t with
   |some ⟨_,_,_,_,.ptr e,_⟩=>match TT e with
    |some ⟨size,_,_,_,_,_⟩=>match Nat.ble 1 size with
     |true=>match op with
      | .eql=>qo5 ks x y (λb=>K (.d b))
      | .neq=>qo5 ks x y (λb=>jh6 b K)
      |_=>False
     |false=>False
    |none=>False
   |_=>False))
 | .unOp op _ x=>valK ts x (λx=>match op,x with
  | .not,.d .tt=>K (.d .ff)
  | .not,.d .ff=>K (.d .tt)
  | .not,.d (.bool b)=>K (.d (.bool (!b)))
  | .neg,.d (.int k n)=>K (.d (.int k (k.wrap (0 - n))))
  | .xor,.d (.int k n)=>K (.d (.int k (bits .xor k (if k.signed then -1 else k.max) n)))
  |_,_=>False)
 | .convert src dst x =>
  match TT src with
  |none=>False
  |some ⟨_,_,_,_,ds,_⟩=>match TT dst with
   |some ⟨_,_,_,_,.int k,_⟩=>valK ts x (λx=>match x with
    | .d (.int _ n)=>K (.d (.int k (k.wrap n)))
    |_=>False)
   |some ⟨_,_,_,_,.str,_⟩=>valK ts x (λx=>match x with
    | .d (.str s)=>K (.d (.str s))
    | .d (.sl _ n 1 f)=>match ds with
     | .slice e=>match TT e with
      |some ⟨_,_,_,_,.int .u8,_⟩=>jd3 n f/\K (.d (.str (j5 n f)))
      |_=>False
     |_=>False
    | .cs i off n _=>match ds with
     | .slice e=>match TT e with
      |some ⟨_,_,_,_,.int .u8,_⟩=>q8 ks i (λb=>match b with
       | .cells _ l=>match Nat.ble (off+n) (lenL l) with
        |true=>um l off (λm=>ua m n (λr=>qc5 .u8 r (λxs=>K (.d (.str (w8 xs))))))
        |false=>False
       |_=>False)
      |_=>False
     |_=>False
    | .all i=>match ds with
     | .slice e=>match TT e with
      |some ⟨_,_,_,_,.int .u8,_⟩=>q8 ks i (λb=>match b with
       | .row _ 1 n _ f=>jd3 n f/\K (.d (.str (j5 n f)))
       |_=>False)
      |_=>False
     |_=>False
    | .row i lo n=>match ds with
     | .slice e=>match TT e with
      |some ⟨_,_,_,_,.int .u8,_⟩=>q8 ks i (λb=>match b with
       | .row _ 1 m _ f=>lo+n<=m/\jd3 n (λj=>f (lo+j))/\K (.d (.str (j5 n (λj=>f (lo+j)))))
       |_=>False)
      |_=>False
     |_=>False
    |_=>False)
   |_=>False
 | .extract x i=>valK ts x (λx=>match x with
  | .tup l=>match Nat.ble (i+1) (lenL l) with
   |true=>ul l i K
   |false=>False
  |_=>False)
 | .makeInterface t x =>
  match TT t with
  |some ⟨_,_,_,_,.int _,_⟩=>match x with
   | .const (.int k n)=>K (.v (.iface t (.int k n)))
   |_=>False
  |_=>False
 | .makeFunc fn first caps =>
  match fn,first.toList with
  | .func f,[]=>qg6 ts caps.toList (λl=>K (.fn f l))
  |_,_=>False
 | .build t parts =>
  match TT t with
  |some ⟨_,_,true,zero,.struct fs,_⟩=>ww TT ts fs zero parts.toList (λcs=>K (.agg cs))
  |some ⟨_,_,true,zero,.array n e,_⟩=>match TT e with
   |some ⟨size,_,_,_,_,_⟩=>ww TT ts (qq1 n 0 size e) zero parts.toList (λcs=>K (.agg cs))
   |none=>False
  |_=>False
 | .slice t x lo hi mx =>
  match mx with
  |some _=>match TT t with
   |some ⟨_,_,_,_,.slice e,_⟩=>match TT e with
    |none=>False
    |some ⟨size,_,_,_,_,_⟩=>valK ts x (λx=>match x with
     | .all i=>q8 ks i (λb=>match b with
      | .row _ sz n z _=>match z with
       | .no=>match Nat.beq size sz with
        |true=>yc ts lo 0 (λl=>yc ts hi n (λh=>yc ts mx n (λm=>(hi.isSome=true/\0<=l/\l<=h/\h<=m/\m<=n/\l<m)/\K (.cs i (l.toNat * size) (h - l).toNat (m - l).toNat))))
        |false=>False
       |_=>False
      |_=>False)
     |_=>False)
   |_=>False
  |none=>match TT t with
   |some ⟨_,_,_,_,.str,_⟩=>valK ts x (λx=>match x with
    | .d (.str s)=>yc ts lo 0 (λl=>yc ts hi s.length (λh=>(0<=l/\l<=h/\h<=s.length)/\K (.d (.str (sub s l h)))))
    |_=>False)
   |some ⟨_,_,_,_,.slice e,_⟩=>match TT e with
    |none=>False
    |some ⟨size,_,_,_,_,_⟩=>valK ts x (λx=>match x with
     | .d (.sl nl n sz f)=>match Nat.beq size sz with
      |true=>yc ts lo 0 (λl=>yc ts hi n (λh=>(0<=l/\l<=h/\h<=n)/\K (.d (.sl nl (h - l).toNat sz (λj=>f (l.toNat+j))))))
      |false=>False
     | .all i=>q8 ks i (λb=>match b with
      | .row _ sz n _ _=>match Nat.beq size sz with
       |true=>yc ts lo 0 (λl=>yc ts hi n (λh=>(0<=l/\l<=h/\h<=n)/\K (.row i l.toNat (h - l).toNat)))
       |false=>False
      |_=>False)
     | .row i lo' n=>q8 ks i (λb=>match b with
      | .row _ sz _ _ _=>match Nat.beq size sz with
       |true=>yc ts lo 0 (λl=>yc ts hi n (λh=>(0<=l/\l<=h/\h<=n)/\K (.row i (lo'+l.toNat) (h - l).toNat)))
       |false=>False
      |_=>False)
     | .cs i off n c=>yc ts lo 0 (λl=>yc ts hi n (λh=>(0<=l/\l<=h/\h<=n/\n<=c/\(l.toNat<c\/l=0))/\K (.cs i (off+l.toNat * size) (h - l).toNat (c - l.toNat))))
     |_=>False)
   |some ⟨_,_,_,_,.array n e,_⟩=>match TT e with
    |none=>False
    |some ⟨size,_,_,_,_,_⟩=>valK ts x (λx=>match x with
     | .ptr i off=>yc ts lo 0 (λl=>yc ts hi n (λh=>(0<=l/\l<=h/\h<=n/\(l.toNat<n\/l=0))/\K (.cs i (off+l.toNat * size) (h - l).toNat (n - l.toNat))))
     |_=>False)
   |_=>False
 | .nilCheck x=>valK ts x (λx=>match x with
  | .ptr i off=>K (.ptr i off)
  | .dptr c off=>K (.dptr c off)
  | .rptr i j off sz=>K (.rptr i j off sz)
  | .fn f caps=>K (.fn f caps)
  |_=>False)
 | .call ⟨callee,args,argTypes⟩ =>
  match callee with
  | .builtin b =>
   match b,args.toList with
   | .len,[x]=>match argTypes.toList with
    |[t]=>match TT t with
     |none=>False
     |some ⟨_,_,_,_,desc,_⟩=>match desc with
      | .array n _=>K (.d (.int .i64 n))
      | .str=>valK ts x (λx=>match x with
       | .d (.str s)=>K (.d (.int .i64 s.length))
       |_=>False)
      | .slice _=>valK ts x (λx=>match x with
       | .d (.sl _ n _ _)=>K (.d (.int .i64 n))
       | .all i=>q8 ks i (λb=>match b with
        | .row _ _ n _ _=>K (.d (.int .i64 n))
        | .rows _ _ n _=>K (.d (.int .i64 n))
        |_=>False)
       | .row _ _ n=>K (.d (.int .i64 n))
       | .cs _ _ n _=>K (.d (.int .i64 n))
       | .ln n=>K (.d (.int .i64 n))
       |_=>False)
      | .map _ _=>valK ts x (λx=>match x with
       | .map i=>q8 ks i (λb=>match b with
        | .mapx _ _ _ l _=>K (.d (.int .i64 l.length))
        |_=>False)
       | .v (.map none)=>K (.d (.int .i64 0))
       |_=>False)
      |_=>False
    |_=>False
   | .min,[x,y]=>valK ts x (λx=>valK ts y (λy=>match x,y with
    | .d (.int k a),.d (.int k' b)=>match kEq k k' with
     |true=>K (.d (.int k (if b<a then b else a)))
     |false=>False
    |_,_=>False))
   | .min,[x,y,z]=>valK ts x (λx=>valK ts y (λy=>valK ts z (λz=>match x,y,z with
    | .d (.int k a),.d (.int k' b),.d (.int k'' c)=>match kEq k k',kEq k k'' with
     |true,true=>K (.d (.int k (if c<(if b<a then b else a) then c else (if b<a then b else a))))
     |_,_=>False
    |_,_,_=>False)))
   | .max,[x,y]=>valK ts x (λx=>valK ts y (λy=>match x,y with
    | .d (.int k a),.d (.int k' b)=>match kEq k k' with
     |true=>K (.d (.int k (if b > a then b else a)))
     |false=>False
    |_,_=>False))
   | .unsafeSliceData,[x]=>valK ts x (λx=>match x with
    | .d (.sl true 0 _ _)=>K (.v (.pointer none))
    | .all i=>q8 ks i (λb=>match b with
     | .row _ 1 0 .iff _=>K (.v (.pointer none))
     | .row _ 1 n _ _=>1<=n/\K (.rptr i 0 0 1)
     |_=>False)
    |_=>False)
   |_,_=>False
  |_=>False
 |_=>False
def addB:List KB->KB->List KB
 |[],k=>[k]
 |a :: l,k=>a :: addB l k
def uo:List KB->KB->(List KB->Prop)->Prop
 |[],k,c=>c [k]
 |a :: l,k,c=>uo l k (λl'=>c (a :: l'))
def yd:List KB->Nat->KB->(List KB->Prop)->Prop
 |[],_,_,c=>c []
 |_ :: l,0,v,c=>c (v :: l)
 |a :: l,n+1,v,c=>yd l n v (λl'=>c (a :: l'))
def lenB:List KB->Nat
 |[]=>0
 |_ :: l=>lenB l+1
theorem jf4(l:List KB)(k:KB):addB l k=l++[k]:=by
 induction l with
 |nil=>rfl
 |cons a l ih=>simp[addB,ih]
theorem x6(l:List KB)(k:KB)(c:List KB->Prop):uo l k c=c (l++[k]):=by
 induction l generalizing c with
 |nil=>rfl
 |cons a l ih=>simp[uo,ih]
theorem y8(l:List KB)(n:Nat)(k:KB)(c:List KB->Prop):yd l n k c=c (l.set n k):=by
 induction l generalizing n c with
 |nil=>rfl
 |cons a l ih=>cases n with
  |zero=>rfl
  |succ n=>simp[yd,ih]
theorem qn7[Dr](l:List SV)(off:Nat)(vs:List SV)(c:List SV->Prop):putK l off vs c=c (putCells l off vs):=by
 induction vs generalizing l off with
 |nil=>cases l <;> rfl
 |cons v vs ih=>simp[putK,putCells,vq,ih]
theorem qf5(l:List KB):lenB l=l.length:=by
 induction l with
 |nil=>rfl
 |cons a l ih=>simp[lenB,ih]
def wu:List KB->Nat->(Nat->Prop)->Prop
 |[],n,k=>k n
 |_ :: l,n,k=>wu l (n+1) k
def memN(t:Nat):List Nat->Bool
 |[]=>false
 |a :: l=>match Nat.beq a t with
  |true=>true
  |false=>memN t l
def qs(ds:List DV)(sz:Nat):Nat->List DV:=λj=>(ds.drop (j * sz)).take sz
def dvK(ks:List KB)(s:SV)(K:DV->List Nat->Prop):Prop :=
 match s with
 | .d x=>K x []
 | .all i=>q8 ks i (λb=>match b with
  | .row _ sz n z f=>match z with
   | .no=>K (.sl false n sz f) [i]
   | .iff=>K (.sl (Nat.beq n 0) n sz f) [i]
   | .may=>0<n/\K (.sl false n sz f) [i]
  |_=>False)
 | .row i lo n=>q8 ks i (λb=>match b with
  | .row _ sz m z f=>match z with
   | .no=>lo+n<=m/\K (.sl false n sz (λj=>f (lo+j))) [i]
   |_=>(lo+n<=m/\0<m)/\K (.sl false n sz (λj=>f (lo+j))) [i]
  |_=>False)
 | .cs i off n c=>q8 ks i (λb=>match b with
  | .cells _ l=>match Nat.ble (off+n * Nat.div (lenL l - off) c) (lenL l) with
   |true=>um l off (λm=>ua m (n * Nat.div (lenL l - off) c) (λr=>qh6 r (λds=>K (.sl false n (Nat.div (lenL l - off) c) (qs ds (Nat.div (lenL l - off) c))) [i])))
   |false=>False
  |_=>False)
 |_=>False
def appN:List Nat->List Nat->(List Nat->Prop)->Prop
 |[],m,k=>k m
 |a :: l,m,k=>appN l m (λr=>k (a :: r))
def dvsK(ks:List KB):List SV->(List DV->List Nat->Prop)->Prop
 |[],K=>K [] []
 |a :: l,K=>dvK ks a (λd fr=>dvsK ks l (λds fr'=>appN fr fr' (λr=>K (d :: ds) r)))
def uj:List Nat->List KB->(List KB->Prop)->Prop
 |[],ks,K=>K ks
 |i :: l,ks,K=>yd ks i .gone (λks'=>uj l ks' K)
def srcK(ks:List KB)(sz:Nat)(x:SV)(K:Nat->(Nat->List DV)->List Nat->Prop):Prop :=
 match x with
 | .d (.sl _ n sz' f)=>match Nat.beq sz' sz with
  |true=>K n f []
  |false=>match n with
   |0=>K 0 (λ_=>[]) []
   |_=>False
 | .d (.str s)=>match sz with
  |1=>K s.length (λj=>[.int .u8 (qw s j)]) []
  |_=>False
 | .all i=>q8 ks i (λb=>match b with
  | .row _ sz' n _ f=>match Nat.beq sz' sz with
   |true=>K n f []
   |false=>False
  |_=>False)
 | .row i lo n=>q8 ks i (λb=>match b with
  | .row _ sz' m _ f=>match Nat.beq sz' sz with
   |true=>lo+n<=m/\K n (λj=>f (lo+j)) []
   |false=>False
  |_=>False)
 | .cs i off n _=>q8 ks i (λb=>match b with
  | .cells _ l=>match Nat.ble (off+n * sz) (lenL l) with
   |true=>um l off (λm=>ua m (n * sz) (λr=>dvsK ks r (λds fr=>K n (qs ds sz) fr)))
   |false=>False
  |_=>False)
 |_=>False
def catF(n:Nat)(f g:Nat->List DV):Nat->List DV:=λt=>if t<n then f t else g (t - n)
def putD:List DV->Nat->List DV->List DV
 |l,_,[]=>l
 |l,off,v :: vs=>putD (l.set off v) (off+1) vs
def oneF(j off:Nat)(vs:List DV)(f:Nat->List DV):Nat->List DV:=λt=>if t=j then putD (f t) off vs else f t
def oneS(j off:Nat)(vs:List SV)(f:Nat->List SV):Nat->List SV:=λt=>if t=j then putCells (f t) off vs else f t
def w9(ks:List KB)(k:KB)(K:SV->List KB->Prop):Prop:=uo ks k (λks'=>wu ks 0 (λj=>K (.all j) ks'))
def fillS(ts:List SV)(size:Nat):List SV->List (Nat × Operand)->(List SV->Prop)->Prop
 |cs,[],c=>c cs
 |cs,(i,x) :: r,c=>valK ts x (λv=>wb v (λvs=>match Nat.beq (lenL vs) size,Nat.ble (i * size+size) (lenL cs) with
  |true,true=>putK cs (i * size) vs (λcs'=>fillS ts size cs' r c)
  |_,_=>False))
def repK(z:List SV):Nat->(List SV->Prop)->Prop
 |0,c=>c []
 |n+1,c=>repK z n (λr=>appK z r c)
def jv0(TT:Nat->Option TI)(t:TypeId):Bool :=
 match TT t with
 |some ⟨_,_,_,_,.slice _,_⟩=>true
 |some ⟨_,_,_,_,.str,_⟩=>true
 |_=>false
def jb4(ts:List SV)(o:Option Operand)(K:Prop):Prop :=
 match o with
 |none=>K
 |some x=>valK ts x (λv=>match v with
  | .d (.int _ _)=>K
  |_=>False)
def qp7(ea:Bool)(v:SV)(K:List SV->Prop):Prop :=
 match ea with
 |true=>match v with
  | .agg l=>K l
  |_=>False
 |false=>match v with
  | .agg _=>False
  |v=>wb v K
def ze2(n:Nat)(f:Nat->List DV):Prop:=∀ i,i<n->∃ x:UInt8,f i=[.int .u8 (x.toNat:Int)]
def mev(TT:Nat->Option TI)(ts:List SV)(ks:List KB)(o:Op)(K:SV->List KB->Prop):Prop :=
 match o with
 | .alloc t =>
  match TT t with
  |none=>False
  |some ⟨_,_,_,zero,_,_⟩=>uo ks (.cells t zero) (λks'=>wu ks 0 (λn=>K (.ptr n 0) ks'))
 | .box t x =>
  match TT t with
  |none=>False
  |some ⟨size,_,_,_,_,_⟩=>valK ts x (λv=>wb v (λl=>match Nat.beq (lenL l) size with
   |true=>uo ks (.cells t l) (λks'=>wu ks 0 (λn=>K (.ptr n 0) ks'))
   |false=>False))
 | .buildSlice t len parts =>
  match TT t with
  |some ⟨_,_,_,_,.slice e,_⟩=>match TT e with
   |some ⟨size,_,_,zero,_,_⟩=>match Nat.ble (len * size) 16777216 with
    |true=>repK zero len (λcs=>fillS ts size cs parts.toList (λcs'=>uo ks (.cells e cs') (λks'=>wu ks 0 (λn=>K (.cs n 0 len len) ks'))))
    |false=>False
   |none=>False
  |_=>False
 | .makeSlice t len cap =>
  match TT t with
  |some ⟨_,_,_,_,.slice e,_⟩=>match TT e with
   |some ⟨size,bytes,_,zero,_,_⟩=>valK ts len (λl=>valK ts cap (λc=>match l,c with
    | .d (.int _ l),.d (.int _ c)=>dvsK [] zero (λds _=>(0<=l/\l<=c/\c * bytes<=281474976710656/\c<=9223372036854775807)/\w9 ks (.row e size l.toNat .no (λ_=>ds)) K)
    |_,_=>False))
   |none=>False
  |_=>False
 | .convert src dst x =>
  match TT src,TT dst with
  |some _,some ⟨_,_,_,_,.slice e,_⟩=>match TT e with
   |some ⟨_,_,_,_,.int .u8,_⟩=>valK ts x (λx=>match x with
    | .d (.str s)=>w9 ks (.row e 1 s.length .no (λj=>[.int .u8 (qw s j)])) K
    | .cs i 0 n c=>match Nat.beq src dst,Nat.beq n c with
     |true,true=>q8 ks i (λb=>match b with
      | .cells e' l=>match Nat.beq e' e,Nat.beq (lenL l) n,Nat.ble 1 n with
       |true,true,true=>qc5 .u8 l (λxs=>yd ks i .gone (λks=>w9 ks (.row e 1 n .no (qs (xs.map (DV.int .u8)) 1)) K))
       |_,_,_=>False
      |_=>False)
     |_,_=>False
    |_=>False)
   |_=>False
  |_,_=>False
 | .store t a x =>
  match TT t with
  |none=>False
  |some ⟨size,_,_,_,desc,_⟩=>valK ts x (λv=>valK ts a (λa=>match a with
   | .ptr i off=>q8 ks i (λb=>match b with
    | .cells t' l=>wb v (λvs=>match Nat.beq (lenL vs) size,Nat.ble (off+size) (lenL l),Nat.ble 1 size with
     |true,true,true=>putK l off vs (λl'=>yd ks i (.cells t' l') (λks'=>K .any ks'))
     |_,_,_=>False)
    |_=>False)
   | .aptr i off len ix=>match desc,v with
    | .int k,.d (.int k' n)=>match size,kEq k' k with
     |1,true=>q8 ks i (λb=>match b with
      | .cells t' l=>match Nat.ble (off+len) (lenL l) with
       |true=>um l off (λm=>ua m len (λr=>qp3 k ix n r 0 (λr'=>putK l off r' (λl'=>yd ks i (.cells t' l') (λks'=>K .any ks')))))
       |false=>False
      |_=>False)
     |_,_=>False
    |_,_=>False
   | .rptr i j off sz=>q8 ks i (λb=>match b with
    | .row e sz' n z f=>match Nat.beq sz sz' with
     |true=>wb v (λvs=>match Nat.beq (lenL vs) size,Nat.ble (off+size) sz,Nat.ble 1 size with
      |true,true,true=>dvsK ks vs (λds fr=>match memN i fr with
       |false=>uj fr ks (λks=>yd ks i (.row e sz' n z (oneF j off ds f)) (λks'=>K .any ks'))
       |true=>False)
      |_,_,_=>False)
     |false=>False
    | .rows e sz' n f=>match Nat.beq sz sz' with
     |true=>wb v (λvs=>match Nat.beq (lenL vs) size,Nat.ble (off+size) sz,Nat.ble 1 size with
      |true,true,true=>yd ks i (.rows e sz' n (oneS j off vs f)) (λks'=>K .any ks')
      |_,_,_=>False)
     |false=>False
    |_=>False)
   |_=>False))
 | .makeMap t res =>
  match TT t with
  |some ⟨_,_,_,_,.map kt et,_⟩=>match TT kt,TT et with
   |some ⟨_,_,ka,_,kd,eqk⟩,some ⟨_,_,ea,_,_,_⟩=>jb4 ts res (uo ks (.mapx (keks ka kd eqk) ka ea [] .free) (λks'=>wu ks 0 (λn=>K (.map n) ks')))
   |_,_=>False
  |_=>False
 | .mapUpdate t m k v =>
  match TT t with
  |some ⟨_,_,_,_,.map kt et,_⟩=>match TT kt,TT et with
   |some ⟨_,_,ka,_,kd,eqk⟩,some ⟨size,_,ea,_,_,_⟩=>valK ts k (λkey=>keyK (keks ka kd eqk) ka key (λds=>valK ts v (λv=>qp7 ea v (λvs=>match Nat.beq (lenL vs) size with
    |true=>valK ts m (λm=>match m with
     | .map b=>q8 ks b (λkb=>match kb with
      | .mapx eks ka' ea' l .free=>match ekEq (keks ka kd eqk) eks,bEq ka ka',bEq ea ea' with
       |true,true,true=>∃ l',putM l ds vs=l'/\yd ks b (.mapx eks ka' ea' l' .free) (λks'=>K .any ks')
       |_,_,_=>False
      |_=>False)
     |_=>False)
    |false=>False))))
   |_,_=>False
  |_=>False
 | .call ⟨.builtin .unsafeString,args,argTypes⟩ =>
  match args.toList,argTypes.toList with
  |[p,m],[pt,_]=>valK ts m (λm=>match m with
   | .d (.int .i64 c)=>valK ts p (λp=>match p with
    | .v (.pointer none)=>c=0/\K (.d (.str [])) ks
    | .rptr i 0 0 1=>match TT pt with
     |some ⟨_,_,_,_,.ptr e,_⟩=>match TT e with
      |some ⟨1,_,_,_,_,_⟩=>q8 ks i (λb=>match b with
       | .row e' 1 n _ f=>match Nat.beq e' e with
        |true=>(c=(n:Int)/\n<=9223372036854775807/\ze2 n f)/\yd ks i .gone (λks'=>K (.d (.str (j5 n f))) ks')
        |false=>False
       |_=>False)
      |_=>False
     |_=>False
    |_=>False)
   |_=>False)
  |_,_=>False
 | .call ⟨.builtin .append,args,argTypes⟩ =>
  match args.toList,argTypes.toList with
  |[s,x],[st,xt]=>match TT st with
   |some ⟨_,_,_,_,.slice e,_⟩=>match TT e with
    |some ⟨size,bytes,_,_,_,_⟩=>match Nat.ble 1 size && (Nat.ble 1 bytes && jv0 TT xt) with
     |true=>valK ts x (λx=>srcK ks size x (λk g fr=>valK ts s (λs=>match s with
      | .d (.sl true 0 _ _)=>k * bytes<=70368744177664/\uj fr ks (λks=>w9 ks (.row e size k .iff g) K)
      | .d (.sl false n sz' f)=>match k with
       |0=>uj fr ks (λks=>K (.d (.sl false n sz' f)) ks)
       |_=>False
      | .all i=>q8 ks i (λb=>match b with
       | .row e' sz n z f=>match Nat.beq e' e,Nat.beq sz size,memN i fr with
        |true,true,false=>(n+k) * bytes<=70368744177664/\uj fr ks (λks=>yd ks i .gone (λks=>w9 ks (.row e size (n+k) z (catF n f g)) K))
        |_,_,_=>False
       |_=>False)
      | .row i 0 n=>q8 ks i (λb=>match b with
       | .row e' sz m z f=>match Nat.beq e' e,Nat.beq sz size,memN i fr with
        |true,true,false=>(n<=m/\(n+k) * bytes<=70368744177664)/\uj fr ks (λks=>yd ks i .gone (λks=>w9 ks (.row e size (n+k) z.cut (catF n f g)) K))
        |_,_,_=>False
       |_=>False)
      | .cs i 0 n c=>q8 ks i (λb=>match b with
       | .cells e' l=>match Nat.beq e' e,Nat.beq n c,Nat.beq (lenL l) (n * size),memN i fr with
        |true,true,true,false=>(n+k) * bytes<=70368744177664/\dvsK ks l (λds fr'=>match memN i fr' with
         |false=>uj fr ks (λks=>uj fr' ks (λks=>yd ks i .gone (λks=>w9 ks (.row e size (n+k) .no (catF n (qs ds size) g)) K)))
         |true=>False)
        |_,_,_,_=>False
       |_=>False)
      |_=>False)))
     |false=>False
    |none=>False
   |_=>False
  |_,_=>False
 |_=>False
def opnM:List (List DV × List SV)->List DV->List SV->List (List DV × List SV) × List SV × Nat
 |[],key,z=>([(key,z)],z,0)
 |(k,v) :: l,key,z=>if jo key k then ((k,v) :: l,v,0) else ((k,v) :: (opnM l key z).1,(opnM l key z).2.1,(opnM l key z).2.2+1)
def putQ:List (List DV × List SV)->Nat->List SV->List (List DV × List SV)
 |[],_,_=>[]
 |(k,_) :: l,0,vs=>(k,vs) :: l
 |p :: l,q+1,vs=>p :: putQ l q vs
def zf9:Op->Bool
 | .mapEntry _ _ _=>true
 | .entryStore _ _ _ _=>true
 | .range _ _=>true
 | .next _ _=>true
 | .entry _=>true
 |_=>false
def sev(TT:Nat->Option TI)(ts:List SV)(ks:List KB)(o:Op)(K:SV->List KB->Prop):Prop :=
 match o with
 | .mapEntry t m k =>
  match TT t with
  |some ⟨_,_,_,_,.map kt et,_⟩=>match TT kt,TT et with
   |some ⟨_,_,ka,_,kd,eqk⟩,some ⟨_,_,ea,zero,_,_⟩=>valK ts k (λkey=>keyK (keks ka kd eqk) ka key (λds=>valK ts m (λm=>match m with
    | .map b=>q8 ks b (λkb=>match kb with
     | .mapx eks ka' ea' l .free=>match ekEq (keks ka kd eqk) eks,bEq ka ka',bEq ea ea' with
      |true,true,true=>∃ l' vs q,opnM l ds zero=(l',vs,q)/\wn ea vs (λv=>∀ s,yd ks b (.mapx eks ka' ea' l' (.opn q s)) (λks'=>K (.tup [v,.d (.int .i64 s)]) ks'))
      |_,_,_=>False
     |_=>False)
    |_=>False)))
   |_,_=>False
  |_=>False
 | .entryStore t m s x =>
  match TT t with
  |some ⟨_,_,_,_,.map _ et,_⟩=>match TT et with
   |some ⟨size,_,ea,_,_,_⟩=>valK ts s (λs=>valK ts x (λv=>valK ts m (λm=>match m,s with
    | .map b,.d (.int .i64 s)=>q8 ks b (λkb=>match kb with
     | .mapx eks ka ea' l (.opn q s')=>match bEq ea ea' with
      |true=>s=s'/\qp7 ea v (λvs=>match Nat.beq (lenL vs) size with
       |true=>∃ l',putQ l q vs=l'/\yd ks b (.mapx eks ka ea' l' .free) (λks'=>K .any ks')
       |false=>False)
      |false=>False
     |_=>False)
    |_,_=>False)))
   |none=>False
  |_=>False
 | .range t x =>
  match TT t with
  |some ⟨_,_,_,_,.map _ _,_⟩=>valK ts x (λx=>match x with
   | .map b=>q8 ks b (λkb=>match kb with
    | .mapx eks ka ea l .free=>∀ bs c rem,bs.length=l.length->List.range l.length=rem->yd ks b (.mapx eks ka ea l (.born bs c)) (λk1=>uo k1 (.iter b bs c rem bs.length) (λk2=>wu k1 0 (λj=>K (.ptr j 0) k2)))
    |_=>False)
   |_=>False)
  |_=>False
 | .next it str =>
  match str with
  |true=>False
  |false=>valK ts it (λit=>match it with
   | .ptr j 0=>q8 ks j (λkb=>match kb with
    | .iter i bs c rem _=>q8 ks i (λmb=>match mb with
     | .mapx _ ka ea l (.born bs' c')=>(bs=bs'/\c=c')/\(∀ q,q ∈ rem->∃ kd vd,l[q]? = some (kd,vd)/\wn ka (mapD kd) (λkv=>wn ea vd (λvv=>∀ rem',rem.erase q=rem'->yd ks j (.iter i bs c rem' q) (λks'=>K (.tup [.d .tt,kv,vv]) ks'))))/\(rem=[]->K (.tup [.d .ff]) ks)
     |_=>False)
    |_=>False)
   |_=>False)
 | .entry it=>valK ts it (λit=>match it with
  | .ptr j 0=>q8 ks j (λkb=>match kb with
   | .iter i bs c _ lst=>q8 ks i (λmb=>match mb with
    | .mapx _ ka ea l (.born bs' c')=>(bs=bs'/\c=c')/\∃ kd vd,l[lst]? = some (kd,vd)/\wn ka (mapD kd) (λkv=>wn ea vd (λvv=>K (.tup [kv,vv]) ks))
    |_=>False)
   |_=>False)
  |_=>False)
 |_=>False
def kr:Op->Bool
 | .alloc _=>true
 | .box _ _=>true
 | .store _ _ _=>true
 | .buildSlice _ _ _=>true
 | .makeSlice _ _ _=>true
 | .makeMap _ _=>true
 | .mapUpdate _ _ _ _=>true
 | .call ⟨.builtin .append,_,_⟩=>true
 | .call ⟨.builtin .copy,_,_⟩=>true
 | .call ⟨.builtin .unsafeString,_,_⟩=>true
 | .call ⟨.builtin .clear,_,_⟩=>true
 | .call ⟨.builtin .delete,_,_⟩=>true
 |_=>false
def wl(TT:Nat->Option TI):Op->Bool
 | .convert _ dst _=>match TT dst with
  |some ⟨_,_,_,_,.slice _,_⟩=>true
  |_=>false
 |_=>false
def qg8:SV:=.v (.tuple #[])
def yb(d:Option Tmp)(v:SV)(ts:List SV)(K:List SV->Prop):Prop :=
 match d with
 |none=>K ts
 |some t=>setK ts t v K
def va:Op->Bool
 | .alloc _=>true
 | .box _ _=>true
 | .buildSlice _ _ _=>true
 | .makeSlice _ _ _=>true
 | .convert s d _=>match Nat.beq s d with
  |true=>false
  |false=>true
 |_=>false
def qg4(o:Op):Bool :=
 match va o with
 |true=>false
 |false=>true
def jk:List Nat->List KB->List KB
 |[],ks=>ks
 |i :: l,ks=>jk l (setB ks i .gone)
def qo3(ks:List KB)(s:SV)(K:SV->List Nat->Prop):Prop :=
 match s with
 | .all _=>dvK ks s (λd fr=>K (.d d) fr)
 | .row _ _ _=>dvK ks s (λd fr=>K (.d d) fr)
 | .cs _ _ _ _=>dvK ks s (λd fr=>K (.d d) fr)
 |s=>K s []
def qj4(ks:List KB):List SV->(List SV->List Nat->Prop)->Prop
 |[],K=>K [] []
 |a :: l,K=>qo3 ks a (λs fr=>qj4 ks l (λl' fr'=>appN fr fr' (λr=>K (s :: l') r)))
def qw5(TT:Nat->Option TI)(ks:List KB)(s:SV)(ty:Option TypeId)(K:SV->List Nat->Prop):Prop :=
 match s with
 | .agg l=>qj4 ks l (λl' fr=>K (.agg l') fr)
 | .cs i off n c=>match ty with
  |some t=>match TT t with
   |some ⟨_,_,_,_,.slice e,_⟩=>match TT e with
    |some ⟨size,_,_,_,_,_⟩=>q8 ks i (λb=>match b with
     | .row _ sz m _ f=>match Nat.beq size sz with
      |true=>(off=Nat.div off size * size/\Nat.div off size+n<=m/\0<m)/\K (.d (.sl false n size (λj=>f (Nat.div off size+j)))) [i]
      |false=>False
     |_=>srcK ks size (.cs i off n c) (λn g fr=>K (.d (.sl false n size g)) (i :: fr)))
    |none=>False
   |_=>False
  |none=>False
 |s=>qo3 ks s K
def kc4:List TypeId->Option TypeId
 |[]=>none
 |t :: _=>some t
def kb3:List TypeId->List TypeId
 |[]=>[]
 |_ :: l=>l
def vx(TT:Nat->Option TI)(ks:List KB):List SV->List TypeId->(List SV->List Nat->Prop)->Prop
 |[],_,K=>K [] []
 |a :: l,tys,K=>qw5 TT ks a (kc4 tys) (λs fr=>vx TT ks l (kb3 tys) (λl' fr'=>appN fr fr' (λr=>K (s :: l') r)))
inductive CallStop [Dr] (P:Program) (TT:Nat->Option TI) (f:FuncId) (as:List SV) (tys:List TypeId) (ks:List KB) (K:Bool->SV->List KB->Prop):Prop where
 |data (r:SV):FnOk P f as r->xn as=true->closed r=true->K false r ks->CallStop P TT f as tys ks K
 |view (r:SV) (as':List SV) (fr:List Nat):FnOk P f as' r->vx TT ks as tys (λl t=>l=as'/\t=fr)->xn as'=true->scalar r=true->K false r ks->CallStop P TT f as tys ks K
 |frz (r:SV) (as':List SV) (fr:List Nat):FnOk P f as' r->vx TT ks as tys (λl t=>l=as'/\t=fr)->xn as'=true->closed r=true->K true r (jk fr ks)->CallStop P TT f as tys ks K
 |mem (r:SV) (ks':List KB):COk P f as ks (λs k=>s=r/\k=ks')->K true r ks'->CallStop P TT f as tys ks K
def cev[Dr](P:Program)(TT:Nat->Option TI)(ts:List SV)(ks:List KB)(g:Operand)(args:List Operand)(tys:List TypeId)(K:Bool->SV->List KB->Prop):Prop :=
 valK ts g (λg=>match g with
  | .fn f caps=>qg6 ts args (λas=>appK as caps (λas=>CallStop P TT f as tys ks K))
  |_=>False)
def exec[Dr](P:Program)(TT:Nat->Option TI)(o:Oper)(ts:List SV)(ks:List KB)(K:Bool->List SV->List KB->Prop):Prop :=
 match o.op with
 | .call ⟨.value g,args,tys⟩=>cev P TT ts ks g args.toList tys.toList (λh v ks'=>yb o.dst v ts (λts'=>K h ts' ks'))
 |op=>match kr op || wl TT op with
  |true=>mev TT ts ks op (λv ks'=>yb o.dst v ts (λts'=>K (qg4 op) ts' ks'))
  |false=>pev P TT ts ks op (λv=>yb o.dst v ts (λts'=>K false ts' ks))
def qh4:List Oper->Nat->Option Tmp
 |[],_=>none
 |o :: _,0=>o.dst
 |_ :: l,n+1=>qh4 l n
def wv:List Nat->List SV->List SV
 |[],l=>l
 |t :: ts,l=>wv ts (setT l t .any)
def qa9:List Oper->List Nat
 |[]=>[]
 |o :: r=>match o.dst with
  |some t=>t :: qa9 r
  |none=>qa9 r
def qb7:Code->List Nat
 | .region _ ops _=>qa9 ops.toList
 | .seq a b=>qb7 a++qb7 b
 | .cond _ a b=>qb7 a++qb7 b
 | .block _ a=>qb7 a
 | .loop a=>qb7 a
 | .scope a=>qb7 a
 |_=>[]
def SubV(a:SV):SV->Prop
 | .any=>True
 | .d (.bool c)=>match a with
  | .d .tt=>c=true
  | .d .ff=>c=false
  |a=>a = .d (.bool c)
 |b=>a=b
def SubL:List SV->List SV->Prop
 |[],[]=>True
 |a :: l,b :: m=>SubV a b/\SubL l m
 |_,_=>False
def SubZ(n:Nat):Z->Z->Prop
 |_,.may=>True
 | .no,.no=>True
 | .iff,.iff=>True
 | .may,.iff=>0<n
 |_,_=>False
def SubM:List (List DV × List SV)->List (List DV × List SV)->Prop
 |l,m=>l=m
def SubK:KB->KB->Prop
 |_,.gone=>True
 | .cells t l,.cells t' l'=>t=t'/\SubL l l'
 | .row e sz n z f,.row e' sz' n' z' f'=>e=e'/\sz=sz'/\n=n'/\SubZ n z z'/\∀ i,i<n->f i=f' i
 | .rows e sz n f,.rows e' sz' n' f'=>e=e'/\sz=sz'/\n=n'/\∀ i,i<n->SubL (f i) (f' i)
 | .mapx eks ka ea l st,.mapx eks' ka' ea' l' st'=>match st' with
  | .free=>(eks=eks'/\ka=ka'/\ea=ea')/\SubM l l'
  |st'=>((eks=eks'/\ka=ka'/\ea=ea')/\SubM l l')/\st=st'
 | .iter i bs c rem lst,.iter i' bs' c' rem' lst'=>i=i'/\bs=bs'/\c=c'/\rem=rem'/\lst=lst'
 | .obj φ,.obj φ'=>∀ w M L fp,φ w M L fp->ju4 φ'/\φ' w M L fp
 | .loop l ps a b st,.loop l' ps' a' b' st'=>SubL l l'/\ps=ps'/\a=a'/\b=b'/\st=st'
 |_,_=>False
def SubB:List KB->List KB->Prop
 |[],[]=>True
 |a :: l,b :: m=>SubK a b/\SubB l m
 |_,_=>False
def posN(i:Nat):List Nat->Nat->Option Nat
 |[],_=>none
 |a :: l,p=>match Nat.beq a i with
  |true=>some p
  |false=>posN i l (p+1)
mutual
def renV(ρ:List Nat):SV->SV
 | .ptr i off=>match posN i ρ 0 with
  |some p=>.ptr p off
  |none=>.any
 | .aptr i off len ix=>match posN i ρ 0 with
  |some p=>.aptr p off len ix
  |none=>.any
 | .all i=>match posN i ρ 0 with
  |some p=>.all p
  |none=>.any
 | .row i lo n=>match posN i ρ 0 with
  |some p=>.row p lo n
  |none=>.any
 | .cs i off n c=>match posN i ρ 0 with
  |some p=>.cs p off n c
  |none=>.any
 | .rptr i j off sz=>match posN i ρ 0 with
  |some p=>.rptr p j off sz
  |none=>.any
 | .map i=>match posN i ρ 0 with
  |some p=>.map p
  |none=>.any
 | .yl i=>match posN i ρ 0 with
  |some p=>.yl p
  |none=>.any
 | .agg l=>.agg (renL ρ l)
 | .tup l=>.tup (renL ρ l)
 | .fn f l=>.fn f (renL ρ l)
 | .d x=>.d x
 | .dptr c off=>.dptr c off
 | .ln n=>.ln n
 | .err b=>.err b
 | .v x=>.v x
 | .any=>.any
def renL(ρ:List Nat):List SV->List SV
 |[]=>[]
 |a :: l=>renV ρ a :: renL ρ l
end
def renM(ρ:List Nat):List (List DV × List SV)->List (List DV × List SV)
 |[]=>[]
 |(k,v) :: l=>(k,renL ρ v) :: renM ρ l
def renK(ρ:List Nat):KB->KB
 | .cells t l=>.cells t (renL ρ l)
 | .rows e sz n f=>.rows e sz n (λi=>renL ρ (f i))
 | .mapx eks ka ea l st=>.mapx eks ka ea (renM ρ l) st
 | .iter i bs c rem lst=>match posN i ρ 0 with
  |some p=>.iter p bs c rem lst
  |none=>.gone
 | .loop l ps a b st=>.loop (renL ρ l) ps a b st
 |k=>k
def renB(ρ:List Nat)(ks:List KB):List Nat->List KB
 |[]=>[]
 |o :: l=>renK ρ (getB ks o) :: renB ρ ks l
def okN(m:Nat):List Nat->Bool
 |[]=>true
 |a :: l=>match memN a l,Nat.ble (a+1) m with
  |false,true=>okN m l
  |_,_=>false
def qk5:Nat->Nat->List Nat->Bool
 |0,_,_=>true
 |_+1,_,[]=>false
 |n+1,i,a :: l=>match Nat.beq a i with
  |true=>qk5 n (i+1) l
  |false=>false
def Subs(nb:Nat)(ρ:List Nat)(ts:List SV)(ks:List KB)(ts':List SV)(ks':List KB):Prop :=
 match okN (lenB ks) ρ,qk5 nb 0 ρ with
 |true,true=>SubL (renL ρ ts) ts'/\SubB (renB ρ ks ρ) ks'
 |_,_=>False
def qg3:List Nat->List SV->(List SV->Prop)->Prop
 |[],l,k=>k l
 |t :: ts,l,k=>setK l t .any (λl'=>qg3 ts l' k)
def jg9:List (Nat × SV)->List SV->(List SV->Prop)->Prop
 |[],l,k=>k l
 |(t,v) :: ts,l,k=>setK l t v (λl'=>jg9 ts l' k)
def jf5:List (Nat × KB)->List KB->(List KB->Prop)->Prop
 |[],l,k=>k l
 |(t,v) :: ts,l,k=>yd l t v (λl'=>jf5 ts l' k)
def qa3(body:Code)(ts:List SV)(ks:List KB)(u:List (Nat × SV))(k:List (Nat × KB))(c:List SV->List KB->Prop):Prop :=
 qg3 (qb7 body) ts (λl=>jg9 u l (λts'=>jf5 k ks (λks'=>c ts' ks')))
inductive It where
 |code (c:Code)
 |ops (draw:Bool) (hs:List Bool) (all rest:List Oper)
 |blk (id:Nat)
 |scp
 |lp (J:List SV->List KB->Prop)
 |again (body:Code)
def qh0(id:Nat):List It->Option (List It)
 |[]=>none
 | .blk i :: r=>match Nat.beq i id with
  |true=>some r
  |false=>qh0 id r
 |_ :: r=>qh0 id r
def xg:List Operand->List Nat
 |[]=>[]
 | .tmp t :: r=>t :: xg r
 |_ :: r=>xg r
def kq(all:List Oper)(o:Oper):List Nat :=
 match o.guard with
 |none=>xg o.op.operands.toList
 |some (j,_)=>match qh4 all j with
  |some t=>t :: xg o.op.operands.toList
  |none=>xg o.op.operands.toList
def getN:List Nat->Nat->Nat
 |[],_=>0
 |a :: _,0=>a
 |_ :: l,n+1=>getN l n
def jg1{α:Sort 1}(n:Nat)(k:Nat->α):α :=
 match n with
 |0=>k 0
 |m+1=>k (m+1)
def qd0(acc:List Nat)(i:Nat):List Edge->Nat
 |[]=>0
 |e :: r=>match Region.binds .any e with
  |true=>Nat.lor (Nat.lor (Nat.shiftLeft 1 e.on) (getN acc (i - 1 - e.on))) (qd0 acc i r)
  |false=>qd0 acc i r
def onLt(i:Nat):List Edge->Bool
 |[]=>true
 |e :: r=>match Region.binds .any e with
  |true=>match Nat.ble (e.on+1) i with
   |true=>onLt i r
   |false=>false
  |false=>onLt i r
def jg2(m mask:Nat):Bool:=Nat.beq (Nat.land mask (2 ^ m - 1)) (2 ^ m - 1)
def qf1:Option Tmp->Option Tmp->Bool
 |some a,some b=>Nat.beq a b
 |_,_=>false
def qg2:Option Tmp->List Nat->Bool
 |none,_=>true
 |some d,l=>match memN d l with
  |true=>false
  |false=>true
def apart(all:List Oper)(x y:Oper):Bool :=
 match qg2 x.dst (kq all y) with
 |true=>qg2 y.dst (kq all x)
 |false=>false
def zd1(all:List Oper)(mask i:Nat)(x y:Oper):Bool :=
 match qf1 x.dst y.dst with
 |true=>false
 |false=>match Nat.testBit mask i with
  |true=>true
  |false=>apart all x y
def je2(all:List Oper)(mask:Nat)(y:Oper):List (Nat × Oper)->Bool
 |[]=>true
 |(i,x) :: r=>match zd1 all mask i x y with
  |true=>je2 all mask y r
  |false=>false
def qg5(all:List Oper):List Oper->List Bool->List Nat->Nat->Nat->List (Nat × Oper)->Bool
 |[],[],_,_,_,_=>true
 |o :: os,h :: hs,acc,i,m,seg=>jg1 (qd0 acc i o.after.toList) (λmask=>match onLt i o.after.toList,jg2 m mask with
  |true,true=>match h with
   |true=>match jg2 i mask with
    |true=>jg1 (i+1) (λi'=>qg5 all os hs (mask :: acc) i' i' [])
    |false=>false
   |false=>match je2 all mask o seg with
    |true=>jg1 (i+1) (λi'=>qg5 all os hs (mask :: acc) i' m ((i,o) :: seg))
    |false=>false
  |_,_=>false)
 |_,_,_,_,_,_=>false
def revB:List Bool->List Bool->List Bool
 |[],m=>m
 |a :: l,m=>revB l (a :: m)
def vg(all:List Oper)(hs:List Bool):Bool:=qg5 all all hs [] 0 0 []
def resK(TT:Nat->Option TI)(ts:List SV)(ks:List KB):List ResultVar->(List SV->Prop)->Prop
 |[],c=>c []
 | .tmp t :: r,c=>ul ts t (λv=>resK TT ts ks r (λvs=>c (v :: vs)))
 | .cell a t :: r,c=>match TT t with
  |none=>False
  |some ⟨size,_,agg,_,_,_⟩=>ul ts a (λp=>match p with
   | .ptr i off=>q8 ks i (λb=>match b with
    | .cells _ l=>wt agg size l off (λv=>resK TT ts ks r (λvs=>c (v :: vs)))
    |_=>False)
   |_=>False)
def retV:List SV->SV
 |[s]=>s
 |l=>.tup l
def anys:Nat->List SV
 |0=>[]
 |n+1=>.any :: anys n
structure Inl where
 nargs:Nat
 extra:Nat
 results:List ResultVar
 body:Code
def subN:List Nat->List Nat->Bool
 |[],_=>true
 |a :: l,m=>match memN a m with
  |true=>subN l m
  |false=>false
def qu2(ks:List KB)(fr:List Nat):List (Nat × TypeId × List SV)->Prop
 |[]=>True
 |(j,t,l') :: r=>(∃ l,getB ks j = .cells t l/\qj4 ks l (λm f=>m=l'/\subN f fr=true)/\memN j fr=false)/\qu2 ks fr r
def qi9:List KB->List (Nat × TypeId × List SV)->List KB
 |ks,[]=>ks
 |ks,(j,t,l') :: r=>qi9 (setB ks j (.cells t l')) r
inductive SeqStop [Dr] (P:Program) (TT:Nat->Option TI) (f:FuncId) (as:List SV) (tys:List TypeId):List KB->(SV->List KB->Prop)->Prop where
 |one {ks:List KB} {K:SV->List KB->Prop}:CallStop P TT f as tys ks (λ_ v k=>K v k)->SeqStop P TT f as tys ks K
 |rel {ks:List KB} {K:SV->List KB->Prop} (R:SV->List KB->Prop):COk P f as ks R->(∀ r ks',R r ks'->K r ks')->SeqStop P TT f as tys ks K
 |still {ks:List KB} {K:SV->List KB->Prop} (fr:List Nat) (js:List (Nat × TypeId × List SV)) (r:SV) (as':List SV):qu2 ks fr js->vx TT ks as tys (λl t=>l=as'/\subN t fr=true)->FnOk P f as' r->xn as'=true->closed r=true->K r (qi9 (jk fr ks) js)->SeqStop P TT f as tys ks K
 |fz {ks:List KB} {K:SV->List KB->Prop} (fr:List Nat) (js:List (Nat × TypeId × List SV)):qu2 ks fr js->SeqStop P TT f as tys (qi9 (jk fr ks) js) K->SeqStop P TT f as tys ks K
theorem oD [Dr]{P:Program}{TT:Nat->Option TI}{f:FuncId}{as:List SV}{tys:List TypeId}{ks:List KB}{K:SV->List KB->Prop}{r:SV}(a:FnOk P f as r)(b:xn as=true)(c:closed r=true)(d:K r ks):SeqStop P TT f as tys ks K:=.one (.data r a b c d)
inductive LoopStop (nb:Nat) (body:Code) (ts:List SV) (ks:List KB) (round:(List SV->List KB->Prop)->List SV->List KB->Prop) (once:Prop) (again:List SV->List KB->Prop):Prop where
 |inv (ι:Type) (ok:ι->Prop) (u:ι->List (Nat × SV)) (k:ι->List (Nat × KB)) (μ:ι->Nat) :
  (∃ i ρ,ok i/\qa3 body ts ks (u i) (k i) (λts' ks'=>Subs nb ρ ts ks ts' ks')) ->
  (∀ i,ok i->qa3 body ts ks (u i) (k i) (λts1 ks1=>round (λts2 ks2=>∃ j ρ,ok j/\μ j<μ i/\qa3 body ts ks (u j) (k j) (λts' ks'=>Subs nb ρ ts2 ks2 ts' ks')) ts1 ks1))->LoopStop nb body ts ks round once again
 |once:once->LoopStop nb body ts ks round once again
 |nilT (t:Nat) (e:TypeId) (sz:Nat) (f:Nat->List DV) (sz':Nat) (f':Nat->List DV):getT ts t = .d (.sl true 0 sz' f')->again (setT ts t (.all (lenB ks))) (addB ks (.row e sz 0 .iff f))->LoopStop nb body ts ks round once again
 |nilC (i j:Nat) (e:TypeId) (sz:Nat) (f:Nat->List DV) (sz':Nat) (f':Nat->List DV) (t:TypeId) (l:List SV):getB ks i = .cells t l->getT l j = .d (.sl true 0 sz' f') ->
  again ts (addB (setB ks i (.cells t (setT l j (.all (lenB ks))))) (.row e sz 0 .iff f))->LoopStop nb body ts ks round once again
 |pad:again ts (addB ks .gone)->LoopStop nb body ts ks round once again
 |csT (t i:Nat) (e:TypeId) (sz:Nat) (f:Nat->List DV):getT ts t = .cs i 0 0 0->getB ks i = .cells e []->again (setT ts t (.all (lenB ks))) (addB (setB ks i .gone) (.row e sz 0 .no f))->LoopStop nb body ts ks round once again
structure Nb where
 n:Nat
 rd:Option Nat
def jh2:List SV->List Tmp->List SV->(List SV->Prop)->Prop
 |l,[],[],k=>k l
 |l,t :: ps,a :: as,k=>setK l t a (λl'=>jh2 l' ps as k)
 |_,_,_,_=>False
def toK(ks:List KB)(i:Nat)(st:RS)(K:List KB->Prop):Prop :=
 q8 ks i (λb=>match b with
  | .loop l ps a c _=>yd ks i (.loop l ps a c st) K
  |_=>False)
def jt2(rec:Nb->List It->List SV->List KB->(Exit->List SV->List KB->Prop)->Prop)(i:Nat)(as:List SV)(ks:List KB)(K:SV->List KB->Prop):Prop :=
 q8 ks i (λb=>match b with
  | .loop tc ps asg body st=>match st with
   | .ready=>jh2 tc ps as (λt1=>wu ks 0 (λnb=>rec ⟨nb,some i⟩ [.code asg] t1 ks (λe t2 k2=>match e with
    | .normal=>q8 k2 i (λb=>match b with
     | .loop tc' ps' asg' body' st'=>match st' with
      | .ready=>yd k2 i (.loop tc' ps' asg' body' .busy) (λk3=>rec ⟨nb,some i⟩ [.code body] t2 k3 (λe _ k4=>match e with
       | .normal=>toK k4 i .ready (λk5=>K (.d .tt) k5)
       | .ret=>toK k4 i (.done .ret) (λk5=>K (.d .ff) k5)
       | .exit id=>toK k4 i (.done (.exit id)) (λk5=>K (.d .ff) k5)
       |_=>False))
      |_=>False
     |_=>False)
    |_=>False)))
   |_=>False
  |_=>False)
def jv2(nb:Nb)(ks:List KB)(K:Prop):Prop :=
 match nb.rd with
 |none=>K
 |some q=>q8 ks q (λb=>match b with
  | .loop _ _ _ _ _=>K
  |_=>False)
def qp5[Dr](P:Program)(TT:Nat->Option TI)(IN:Nat->Option Inl)(rec:Nb->List It->List SV->List KB->(Exit->List SV->List KB->Prop)->Prop)(o:Oper)(ts:List SV)(ks:List KB)(K:List SV->List KB->Prop):Prop :=
 match o.op with
 | .call ⟨.value g,args,tys⟩=>valK ts g (λg=>match g with
  | .fn f caps=>qg6 ts args.toList (λas=>appK as caps (λas=>match IN f with
   |some ⟨nargs,extra,results,body⟩=>match Nat.beq (lenL as) nargs with
    |true=>appK as (anys extra) (λts1=>wu ks 0 (λnb=>rec ⟨nb,none⟩ [.code body] ts1 ks (λe ts2 ks2=>match e with
     | .normal=>resK TT ts2 ks2 results (λvs=>yb o.dst (retV vs) ts (λts'=>K ts' ks2))
     | .ret=>resK TT ts2 ks2 results (λvs=>yb o.dst (retV vs) ts (λts'=>K ts' ks2))
     |_=>False)))
    |false=>False
   |none=>SeqStop P TT f as tys.toList ks (λv ks'=>yb o.dst v ts (λts'=>K ts' ks'))))
  | .yl i=>qg6 ts args.toList (λas=>jt2 rec i as ks (λv ks'=>yb o.dst v ts (λts'=>K ts' ks')))
  |_=>False)
 |op=>match zf9 op with
  |true=>sev TT ts ks op (λv ks'=>yb o.dst v ts (λts'=>K ts' ks'))
  |false=>match kr op || wl TT op with
   |true=>mev TT ts ks op (λv ks'=>yb o.dst v ts (λts'=>K ts' ks'))
   |false=>pev P TT ts ks op (λv=>yb o.dst v ts (λts'=>K ts' ks))
def atB:List Bool->Nat->Bool
 |[],_=>false
 |a :: _,0=>a
 |_ :: l,n+1=>atB l n
def vl:List Bool->Nat->List Bool
 |[],_=>[]
 |_ :: l,0=>true :: l
 |a :: l,n+1=>a :: vl l n
def xp(done:List Bool):List Edge->Bool
 |[]=>true
 |e :: r=>match Region.binds .any e with
  |true=>match atB done e.on with
   |true=>xp done r
   |false=>false
  |false=>xp done r
def ko:List Oper->List Bool
 |[]=>[]
 |_ :: l=>false :: ko l
def allT:List Bool->Bool
 |[]=>true
 |true :: l=>allT l
 |false :: _=>false
def qj2(done:List Bool):Nat->List Oper->Bool
 |_,[]=>false
 |i,o :: os=>match atB done i with
  |true=>qj2 done (i+1) os
  |false=>match xp done o.after.toList with
   |true=>true
   |false=>qj2 done (i+1) os
def qh3(done:List Bool)(F:Nat->Oper->Prop):Nat->List Oper->Prop
 |_,[]=>True
 |i,o :: os=>match atB done i with
  |true=>qh3 done F (i+1) os
  |false=>match xp done o.after.toList with
   |true=>F i o/\qh3 done F (i+1) os
   |false=>qh3 done F (i+1) os
def yu2:List Edge->Bool
 |[]=>false
 |e :: r=>match Region.binds .any e with
  |true=>yu2 r
  |false=>true
def zc0:List Oper->Bool
 |[]=>false
 |o :: r=>match yu2 o.after.toList with
  |true=>true
  |false=>zc0 r
def xt4:Op->Bool
 | .store _ _ _=>true
 |_=>false
def jd5:List Oper->Bool
 |[]=>false
 |o :: r=>match xt4 o.op with
  |true=>true
  |false=>jd5 r
def qm0:List Oper->Nat
 |[]=>0
 |o :: r=>match o.op with
  | .call ⟨.value _,_,_⟩=>qm0 r+1
  |_=>qm0 r
def kb4:Op->Bool
 | .call ⟨.builtin .append,_,_⟩=>true
 |_=>false
def ju0:List Oper->Bool
 |[]=>false
 |o :: r=>match kb4 o.op with
  |true=>true
  |false=>ju0 r
def bldR(l:List Oper):Bool :=
 match Nat.ble 1 (qm0 l) with
 |true=>match ju0 l with
  |true=>false
  |false=>true
 |false=>false
def zg6:List SV->Bool
 |[]=>true
 | .d _ :: l=>zg6 l
 |_ :: _=>false
def jt6(ts:List SV):List (Nat × Operand)->Bool
 |[]=>true
 |(_,x) :: r=>match val ts x with
  | .d _=>jt6 ts r
  | .agg l=>match zg6 l with
   |true=>jt6 ts r
   |false=>false
  |_=>false
def useD(b:Bool)(ts:List SV)(op:Op):Bool :=
 match op with
 | .buildSlice _ len parts=>match b with
  |true=>match Nat.ble 1 len with
   |true=>jt6 ts parts.toList
   |false=>false
  |false=>false
 |_=>false
def wx(TT:Nat->Option TI)(ts:List SV)(op:Op)(K:SV->Prop):Prop :=
 match op with
 | .buildSlice t len parts =>
  match TT t with
  |some ⟨_,_,_,_,.slice e,_⟩=>match TT e with
   |some ⟨size,_,_,zero,_,_⟩=>match Nat.ble (len * size) 16777216 with
    |true=>repK zero len (λcs=>fillS ts size cs parts.toList (λcs'=>qh6 cs' (λds=>K (.d (.sl false len size (qs ds size))))))
    |false=>False
   |none=>False
  |_=>False
 |_=>False
def qp6[Dr](P:Program)(TT:Nat->Option TI)(b:Bool)(o:Oper)(ts:List SV)(ks:List KB)(K:Bool->List SV->List KB->Prop):Prop :=
 match useD b ts o.op with
 |true=>wx TT ts o.op (λv=>yb o.dst v ts (λts'=>K false ts' ks))
 |false=>exec P TT o ts ks K
def hsOf:List Oper->List Bool
 |[]=>[]
 |o :: r=>(match kr o.op with
  |true=>qg4 o.op
  |false=>false) :: hsOf r
def zc8:List Oper->Bool
 |[]=>true
 |o :: r=>match o.guard with
  |some _=>false
  |none=>match o.op with
   | .call ⟨.value _,_,_⟩=>false
   |_=>zc8 r
def jw0(t:Nat):List Oper->Bool
 |[]=>false
 |o :: r=>match o.op with
  | .call ⟨.value _,args,_⟩=>match memN t (xg args.toList) with
   |true=>true
   |false=>jw0 t r
  |_=>jw0 t r
def je6(all:List Oper):List Oper->Bool
 |[]=>false
 |o :: r=>match o.op with
  | .load _ (.tmp t)=>match jw0 t all with
   |true=>true
   |false=>je6 all r
  |_=>je6 all r
def kc5:Bool->List Oper->Bool
 |false,_=>false
 |true,l=>match jd5 l with
  |true=>match je6 l l with
   |true=>false
   |false=>match zc0 l with
    |true=>true
    |false=>match zc8 l with
     |true=>match vg l (hsOf l) with
      |true=>false
      |false=>true
     |false=>false
  |false=>false
def addE(o:Oper):Oper:={ o with after:=⟨⟨0,.data⟩ :: o.after.toList⟩ }
def mapE:List Oper->List Oper
 |[]=>[]
 |o :: r=>addE o :: mapE r
def wo:Op->Bool
 | .move _=>true
 | .assign _=>true
 | .load _ _=>true
 | .store _ _ _=>true
 | .nilCheck _=>true
 | .fieldAddr _ _ _=>true
 | .buildSlice _ _ _=>true
 | .build _ _=>true
 | .call ⟨.builtin _,_,_⟩=>true
 |_=>false
def qv7:List Edge->Bool
 |[]=>false
 |e :: r=>match Region.binds .any e with
  |true=>match e.on with
   |0=>true
   |_+1=>qv7 r
  |false=>qv7 r
def qt2(d:Nat)(xs:List Nat):List Oper->Bool
 |[]=>true
 |o :: r=>match o.guard with
  |some _=>false
  |none=>match wo o.op,qg2 o.dst (d :: xs) with
   |true,true=>match memN d (xg o.op.operands.toList) with
    |false=>qt2 d xs r
    |true=>match qv7 o.after.toList with
     |true=>qt2 d xs r
     |false=>false
   |_,_=>false
def qw9:List Oper->Option (List Oper)
 |[]=>none
 |o :: r=>match o.op,o.dst,o.guard,o.after.toList with
  | .move x,some d,none,[]=>match qt2 d (xg [x]) r with
   |true=>match vg (o :: mapE r) (hsOf (o :: mapE r)) with
    |true=>some (o :: mapE r)
    |false=>none
   |false=>none
  |_,_,_,_=>none
def qc6:Op->Bool
 | .move _=>true
 | .assign _=>true
 | .load _ _=>true
 | .store _ _ _=>true
 | .nilCheck _=>true
 | .fieldAddr _ _ _=>true
 | .indexAddr _ _ _=>true
 | .binOp _ _ _ _ _=>true
 | .convert _ _ _=>true
 | .buildSlice _ _ _=>true
 | .call ⟨.builtin _,_,_⟩=>true
 | .call ⟨.value _,_,_⟩=>true
 | .alloc _=>true
 | .extract _ _=>true
 | .lookup _ _ _ _=>true
 | .mapEntry _ _ _=>true
 | .build _ _=>true
 |_=>false
def qo6(i:Nat):List Edge->Bool
 |[]=>false
 |e :: r=>match Region.binds .any e with
  |true=>match Nat.beq e.on i with
   |true=>true
   |false=>qo6 i r
  |false=>qo6 i r
def yx7:Op->Bool
 | .move _=>true
 | .assign _=>true
 | .load _ _=>true
 | .nilCheck _=>true
 | .fieldAddr _ _ _=>true
 | .indexAddr _ _ _=>true
 | .extract _ _=>true
 |_=>false
def ldOp:Op->Bool
 | .load _ _=>true
 |_=>false
def ju1:Op->Bool
 | .alloc _=>true
 | .buildSlice _ _ _=>true
 | .binOp .add _ _ (.const (.int _ _)) _=>true
 | .binOp .sub _ _ (.const (.int _ _)) _=>true
 |_=>false
def qw1(p:Op):Bool :=
 match yx7 p with
 |true=>true
 |false=>ju1 p
def zb6(o p:Op):Bool :=
 match ldOp o with
 |true=>qw1 p
 |false=>true
def atO:List Oper->Nat->Option Oper
 |[],_=>none
 |o :: _,0=>some o
 |_ :: l,j+1=>atO l j
def ancE(f:Nat->List Nat):List Edge->List Nat
 |[]=>[]
 |e :: r=>match Region.binds .any e with
  |true=>e.on :: (f e.on++ancE f r)
  |false=>ancE f r
def ancs(all:List Oper):Nat->Nat->List Nat
 |0,_=>[]
 |k+1,j=>match atO all j with
  |none=>[]
  |some o=>ancE (ancs all k) o.after.toList
def memB(i:Nat):List Nat->Bool
 |[]=>false
 |a :: l=>match Nat.beq a i with
  |true=>true
  |false=>memB i l
def wa(all:List Oper)(i:Nat)(o:Oper)(d:Nat):Nat->List Oper->Bool
 |_,[]=>true
 |j,p :: r=>match Nat.beq i j with
  |true=>wa all i o d (j+1) r
  |false=>match qo6 j o.after.toList with
   |true=>wa all i o d (j+1) r
   |false=>match qo6 i p.after.toList with
    |true=>wa all i o d (j+1) r
    |false=>match qc6 p.op,qg2 p.dst (d :: xg o.op.operands.toList),zb6 o.op p.op,memN d (xg p.op.operands.toList) with
     |true,true,true,false=>wa all i o d (j+1) r
     |_,_,_,_=>match memB i (ancs all 8 j) with
      |true=>wa all i o d (j+1) r
      |false=>false
def qo4:Op->Bool
 | .load _ _=>true
 | .nilCheck _=>true
 | .fieldAddr _ _ _=>true
 | .move _=>true
 | .assign _=>true
 | .binOp .add _ _ _ _=>true
 | .binOp .sub _ _ _ _=>true
 | .indexAddr _ _ _=>true
 | .extract _ _=>true
 |_=>false
def kj(all:List Oper):Nat->List Oper->(List Bool->Prop)->Prop
 |_,[],K=>K []
 |i,o :: r,K=>match o.dst,qo4 o.op with
  |some d,true=>match wa all i o d 0 all with
   |true=>kj all (i+1) r (λl=>K (true :: l))
   |false=>kj all (i+1) r (λl=>K (false :: l))
  |_,_=>kj all (i+1) r (λl=>K (false :: l))
def ky:List Oper->Bool
 |[]=>true
 |o :: r=>match o.guard with
  |none=>ky r
  |some _=>false
def jd6(l:List Nat):Nat->Bool
 |0=>true
 |i+1=>match memB i l with
  |true=>jd6 l i
  |false=>false
def qr8(j:Nat):List Edge->Bool
 |[]=>true
 |e :: r=>match Region.binds .any e with
  |true=>match Nat.blt e.on j with
   |true=>qr8 j r
   |false=>false
  |false=>qr8 j r
def qp2(all:List Oper)(p:Nat):List Oper->Nat->Bool
 |[],_=>true
 |o :: r,j=>match qr8 j o.after.toList with
  |true=>match Nat.blt j p with
   |true=>qp2 all p r (j+1)
   |false=>match jd6 (ancs all 8 j) j with
    |true=>qp2 all p r (j+1)
    |false=>false
  |false=>false
def qm6(t:Tmp):List Oper->Bool
 |[]=>false
 |o :: l=>match o.op with
  | .load _ _=>match o.dst with
   |some d=>match Nat.beq d t with
    |true=>true
    |false=>qm6 t l
   |none=>qm6 t l
  | .move (.tmp 0)=>match o.dst with
   |some d=>match Nat.beq d t with
    |true=>true
    |false=>qm6 t l
   |none=>qm6 t l
  |_=>qm6 t l
def qm4(all:List Oper):List Oper->Nat->Option Nat
 |[],_=>none
 |o :: l,i=>match o.op with
  | .call ⟨.value (.tmp t),_,_⟩=>match qm6 t all with
   |true=>some i
   |false=>qm4 all l (i+1)
  |_=>qm4 all l (i+1)
def qk2:Nat->List Oper->List Oper
 |0,_=>[]
 |_,[]=>[]
 |k+1,o :: l=>o :: qk2 k l
def qp8:Nat->List Oper->List Oper
 |0,l=>l
 |_,[]=>[]
 |k+1,_ :: l=>qp8 k l
def qw8(all:List Oper):Option Nat :=
 match qm4 all all 0 with
 |none=>none
 |some p=>match ky all with
  |true=>match qp2 all p all 0 with
   |true=>some p
   |false=>none
  |false=>none
def qn8(ts:List SV)(o:Op):Bool :=
 match o with
 | .load _ _=>true
 | .nilCheck _=>true
 | .fieldAddr _ _ _=>true
 | .extract _ _=>true
 | .move _=>true
 | .assign _=>true
 | .binOp _ _ x y _=>match val ts x with
  | .d (.int k _)=>match val ts y with
   | .d (.int k' _)=>kEq k k'
   |_=>false
  |_=>false
 | .indexAddr _ x y=>match val ts y with
  | .d (.int _ _)=>match val ts x with
   | .d (.sl _ _ _ _)=>true
   | .all _=>true
   | .row _ _ _=>true
   |_=>false
  |_=>false
 |_=>false
def qc2(ts:List SV)(fr done:List Bool):Nat->List Oper->Option (Nat × Oper)
 |_,[]=>none
 |i,o :: os=>match atB done i with
  |true=>qc2 ts fr done (i+1) os
  |false=>match atB fr i with
   |true=>match xp done o.after.toList with
    |true=>match qn8 ts o.op with
     |true=>some (i,o)
     |false=>qc2 ts fr done (i+1) os
    |false=>qc2 ts fr done (i+1) os
   |false=>qc2 ts fr done (i+1) os
def xi[Dr](P:Program)(TT:Nat->Option TI)(all:List Oper)(fr:List Bool)(K:List SV->List KB->Prop):Nat->List Bool->List SV->List KB->Prop
 |0,done,ts,ks=>match allT done with
  |true=>K ts ks
  |false=>False
 |k+1,done,ts,ks=>match qc2 ts fr done 0 all with
  |some (i,o)=>exec P TT o ts ks (λ_ ts' ks'=>xi P TT all fr K k (vl done i) ts' ks')
  |none=>match qj2 done 0 all with
   |true=>qh3 done (λi o=>match o.guard with
    |none=>match zf9 o.op with
     |true=>sev TT ts ks o.op (λv ks'=>yb o.dst v ts (λts'=>xi P TT all fr K k (vl done i) ts' ks'))
     |false=>exec P TT o ts ks (λ_ ts' ks'=>xi P TT all fr K k (vl done i) ts' ks')
    |some _=>False) 0 all
   |false=>False
def yu4:List Oper->Bool
 |[]=>false
 |o :: r=>match o.op with
  | .buildSlice _ 0 _=>true
  |_=>yu4 r
def xy9(l:List Oper):Bool :=
 match Nat.ble 1 (qm0 l) with
 |true=>match jd5 l with
  |true=>match yu4 l with
   |true=>false
   |false=>match vg l (hsOf l) with
    |true=>false
    |false=>true
  |false=>false
 |false=>false
def kb9(l:List Oper):Bool :=
 match je6 l l with
 |true=>true
 |false=>match xy9 l with
  |true=>true
  |false=>match Nat.ble 2 (qm0 l) with
   |true=>match ju0 l with
    |true=>jd5 l
    |false=>false
   |false=>false
def ze4(TT:Nat->Option TI):List TypeId->Bool
 |[]=>false
 |t :: l=>match TT t with
  |some ⟨_,_,_,_,.ptr _,_⟩=>true
  |_=>ze4 TT l
def yx8(TT:Nat->Option TI):Op->Bool
 | .call ⟨.value _,_,tys⟩=>ze4 TT tys.toList
 |_=>false
def yi1(TT:Nat->Option TI):List Oper->Bool
 |[]=>false
 |o :: r=>match yx8 TT o.op with
  |true=>true
  |false=>yi1 TT r
def zg1(TT:Nat->Option TI):List Oper->List Bool
 |[]=>[]
 |o :: r=>(match kr o.op with
  |true=>qg4 o.op
  |false=>yx8 TT o.op) :: zg1 TT r
def jp4:List Oper->Bool
 |[]=>false
 |o :: r=>match o.op with
  | .alloc _=>true
  |_=>jp4 r
def yj0:List Oper->Bool
 |[]=>false
 |o :: r=>match o.op with
  | .alloc _=>jp4 r
  |_=>yj0 r
def zf6(TT:Nat->Option TI)(l:List Oper):Bool :=
 match kb9 l with
 |true=>true
 |false=>match ky l with
  |false=>false
  |true=>match Nat.ble 2 (qm0 l) || jp4 l with
   |false=>false
   |true=>match yi1 TT l with
    |false=>false
    |true=>match vg l (zg1 TT l) with
     |true=>false
     |false=>true
def jt9:List Oper->Bool
 |[]=>false
 |o :: r=>match o.op with
  | .mapEntry _ _ _=>true
  |_=>jt9 r
def jh1[Dr](P:Program)(TT:Nat->Option TI)(IN:Nat->Option Inl)(rec:Nb->List It->List SV->List KB->(Exit->List SV->List KB->Prop)->Prop)
 (nb:Nb) (stk:List It) (ts:List SV) (ks:List KB) (K:Exit->List SV->List KB->Prop):Prop :=
 match stk with
 |[]=>K .normal ts ks
 | .blk _ :: r=>rec nb r ts ks K
 | .scp :: r=>rec nb r ts ks K
 | .lp J :: _=>J ts ks
 | .ops true hs all os :: r =>
  match os with
  |[]=>match vg all (revB hs []) with
   |true=>rec nb r ts ks K
   |false=>False
  |o :: os=>match o.guard with
   |none=>qp6 P TT (bldR all) o ts ks (λh ts' ks'=>rec nb (.ops true (h :: hs) all os :: r) ts' ks' K)
   |some (j,want)=>match qh4 all j with
    |none=>False
    |some t=>ul ts t (λg=>match g with
     | .d .tt=>match want with
      |true=>qp6 P TT (bldR all) o ts ks (λh ts' ks'=>rec nb (.ops true (h :: hs) all os :: r) ts' ks' K)
      |false=>yb o.dst qg8 ts (λts'=>rec nb (.ops true (false :: hs) all os :: r) ts' ks K)
     | .d .ff=>match want with
      |false=>qp6 P TT (bldR all) o ts ks (λh ts' ks'=>rec nb (.ops true (h :: hs) all os :: r) ts' ks' K)
      |true=>yb o.dst qg8 ts (λts'=>rec nb (.ops true (false :: hs) all os :: r) ts' ks K)
     | .v (.tuple _)=>yb o.dst qg8 ts (λts'=>rec nb (.ops true (false :: hs) all os :: r) ts' ks K)
     | .d (.bool b) =>
      (b=true->setK ts t (.d .tt) (λts=>rec nb (.ops true hs all (o :: os) :: r) ts ks K)) /\
      (b=false->setK ts t (.d .ff) (λts=>rec nb (.ops true hs all (o :: os) :: r) ts ks K))
     |_=>False)
 | .ops false hs all os :: r =>
  match os with
  |[]=>rec nb r ts ks K
  |o :: os=>match o.guard with
   |none=>qp5 P TT IN rec o ts ks (λts' ks'=>rec nb (.ops false hs all os :: r) ts' ks' K)
   |some (j,want)=>match qh4 all j with
    |none=>False
    |some t=>ul ts t (λg=>match g with
     | .d .tt=>match want with
      |true=>qp5 P TT IN rec o ts ks (λts' ks'=>rec nb (.ops false hs all os :: r) ts' ks' K)
      |false=>yb o.dst qg8 ts (λts'=>rec nb (.ops false hs all os :: r) ts' ks K)
     | .d .ff=>match want with
      |false=>qp5 P TT IN rec o ts ks (λts' ks'=>rec nb (.ops false hs all os :: r) ts' ks' K)
      |true=>yb o.dst qg8 ts (λts'=>rec nb (.ops false hs all os :: r) ts' ks K)
     | .v (.tuple _)=>yb o.dst qg8 ts (λts'=>rec nb (.ops false hs all os :: r) ts' ks K)
     | .d (.bool b) =>
      (b=true->setK ts t (.d .tt) (λts=>rec nb (.ops false hs all (o :: os) :: r) ts ks K)) /\
      (b=false->setK ts t (.d .ff) (λts=>rec nb (.ops false hs all (o :: os) :: r) ts ks K))
     |_=>False)
 | .code c :: r =>
  match c with
  | .skip=>rec nb r ts ks K
  | .label _=>rec nb r ts ks K
  | .scope c=>rec nb (.code c :: .scp :: r) ts ks K
  | .seq a b=>rec nb (.code a :: .code b :: r) ts ks K
  | .block id c=>rec nb (.code c :: .blk id :: r) ts ks K
  | .exit id=>match qh0 id r with
   |some r'=>rec nb r' ts ks K
   |none=>K (.exit id) ts ks
  | .ret=>K .ret ts ks
  | .region id ops draw=>match kc5 draw ops.toList with
   |false=>match draw with
    |false=>rec nb (.ops false [] ops.toList ops.toList :: r) ts ks K
    |true=>match qw8 ops.toList with
     |none=>match jt9 ops.toList with
      |false=>match zf6 TT ops.toList with
       |false=>rec nb (.ops true [] ops.toList ops.toList :: r) ts ks K
       |true=>match ky ops.toList with
        |true=>∃ ts' ks',kj ops.toList 0 ops.toList (λfr=>xi P TT ops.toList fr (λt k=>t=ts'/\k=ks') ops.toList.length (ko ops.toList) ts ks)/\rec nb r ts' ks' K
        |false=>False
      |true=>match ky ops.toList with
       |true=>∃ ks',kj ops.toList 0 ops.toList (λfr=>xi P TT ops.toList fr (λt k=>wv (qa9 ops.toList) t=wv (qa9 ops.toList) ts/\k=ks') ops.toList.length (ko ops.toList) ts ks)/\qg3 (qa9 ops.toList) ts (λts1=>rec nb r ts1 ks' K)
       |false=>False
     |some p=>rec nb (.ops true [] (qk2 p ops.toList) (qk2 p ops.toList) :: .ops false [] ops.toList (qp8 p ops.toList) :: r) ts ks K
   |true=>match qw9 ops.toList with
    |some l=>rec nb (.ops true [] l l :: r) ts ks K
    |none=>match ky ops.toList with
     |true=>match yj0 ops.toList with
      |false=>∃ ts' ks',kj ops.toList 0 ops.toList (λfr=>xi P TT ops.toList fr (λt k=>t=ts'/\k=ks') ops.toList.length (ko ops.toList) ts ks)/\rec nb r ts' ks' K
      |true=>∃ ts' ks',kj ops.toList 0 ops.toList (λfr=>xi P TT ops.toList fr (λt k=>(t=ts'/\k=ks')\/∃ ρ,Subs nb.n ρ t k ts' ks') ops.toList.length (ko ops.toList) ts ks)/\rec nb r ts' ks' K
     |false=>False
  | .cond c x y=>valK ts c (λc=>match c with
   | .d .tt=>rec nb (.code x :: r) ts ks K
   | .d .ff=>rec nb (.code y :: r) ts ks K
   | .d (.bool b)=>(b=true->rec nb (.code x :: r) ts ks K)/\(b=false->rec nb (.code y :: r) ts ks K)
   |_=>False)
  | .loop body=>rec nb (.again body :: r) ts ks K
  | .rangeFunc g ps asg body=>valK ts g (λg=>match g with
   | .fn f caps=>match IN f with
    |some ⟨nargs,extra,results,fb⟩=>match Nat.beq (lenL caps+1) nargs with
     |true=>jv2 nb ks (wu ks 0 (λi=>appK (.yl i :: caps) (anys extra) (λt1=>uo ks (.loop ts ps.toList asg body .ready) (λk1=>rec ⟨i+1,none⟩ [.code fb] t1 k1 (λe t2 k2 =>
      match e with
      | .normal=>resK TT t2 k2 results (λ_=>q8 k2 i (λb=>match b with
       | .loop _ _ _ _ st=>match st with
        | .ready=>yd k2 i .gone (λk3=>rec nb r ts k3 K)
        | .done c=>yd k2 i .gone (λk3=>rec nb (.code c :: r) ts k3 K)
        |_=>False
       |_=>False))
      | .ret=>resK TT t2 k2 results (λ_=>q8 k2 i (λb=>match b with
       | .loop _ _ _ _ st=>match st with
        | .ready=>yd k2 i .gone (λk3=>rec nb r ts k3 K)
        | .done c=>yd k2 i .gone (λk3=>rec nb (.code c :: r) ts k3 K)
        |_=>False
       |_=>False))
      |_=>False)))))
     |false=>False
    |none=>False
   |_=>False)
  |_=>False
 | .again body :: r=>LoopStop nb.n body ts ks (λJ ts1 ks1=>rec nb (.code body :: .lp J :: r) ts1 ks1 K) (rec nb (.code body :: .again body :: r) ts ks K) (λts1 ks1=>rec nb (.again body :: r) ts1 ks1 K)
def run[Dr](P:Program)(TT:Nat->Option TI)(IN:Nat->Option Inl)(n:Nat):Nb->List It->List SV->List KB->(Exit->List SV->List KB->Prop)->Prop :=
 Nat.rec (motive:=λ_=>Nb->List It->List SV->List KB->(Exit->List SV->List KB->Prop)->Prop) (λ_ _ _ _ _=>False) (λ_ ih=>jh1 P TT IN ih) n
section
theorem qe7(l:List SV)(n:Nat)(k:SV->Prop):ul l n k=k (getT l n):=by
 induction l generalizing n with
 |nil=>rfl
 |cons a l ih=>cases n with
  |zero=>rfl
  |succ n=>simp only[ul,getT,ih]
theorem jc(l:List KB)(n:Nat)(k:KB->Prop):q8 l n k=k (getB l n):=by
 induction l generalizing n with
 |nil=>rfl
 |cons a l ih=>cases n with
  |zero=>rfl
  |succ n=>simp only[q8,getB,ih]
theorem zp0(v:Value)(k:SV->Prop):jo5 v k=k (je4 v):=by
 unfold jo5 je4;split <;> rfl
theorem qq[Dr](l:List SV)(x:Operand)(k:SV->Prop):valK l x k=k (val l x):=by
 cases x <;> simp[valK,val,qe7,zp0]
theorem qb2[Dr](l:List SV)(xs:List Operand)(k:List SV->Prop):qg6 l xs k=k (vals l xs):=by
 induction xs generalizing k with
 |nil=>rfl
 |cons x xs ih=>simp[qg6,vals,qq,ih]
theorem qf9(l m:List SV)(k:List SV->Prop):appK l m k=k (l++m):=by
 induction l generalizing k with
 |nil=>rfl
 |cons a l ih=>simp[appK,ih]
theorem qe3(l:List SV)(n:Nat)(k:List SV->Prop):ua l n k=k (l.take n):=by
 induction l generalizing n k with
 |nil=>cases n <;> simp[ua]
 |cons a l ih=>cases n with
  |zero=>rfl
  |succ n=>simp[ua,ih]
theorem qf0(l:List SV)(n:Nat)(k:List SV->Prop):um l n k=k (l.drop n):=by
 induction l generalizing n with
 |nil=>cases n <;> simp[um]
 |cons a l ih=>cases n with
  |zero=>rfl
  |succ n=>simp[um,ih]
theorem jo9(l:List DV)(k:List SV->Prop):qp4 l k=k (l.map .d):=by
 induction l generalizing k with
 |nil=>rfl
 |cons a l ih=>simp[qp4,ih]
theorem zx(l:List SV):lenL l=l.length:=by
 induction l with
 |nil=>rfl
 |cons a l ih=>simp[lenL,ih]
theorem xe(l:List KB)(n:Nat)(k:Nat->Prop):wu l n k=k (n+l.length):=by
 induction l generalizing n with
 |nil=>rfl
 |cons a l ih=>simp only[wu,ih,pw];congr 1;omega
theorem yh{a b:Nat}(h:Nat.ble a b=true):a<=b:=au h
theorem jg{a b:Nat}(h:Nat.beq a b=true):a=b:=cy h
theorem yf4[Dr]{agg:Bool}{size:Nat}{l:List SV}{off:Nat}{k:SV->Prop}(h:wt agg size l off k) :
 off+size<=l.length/\((agg=true/\k (.agg ((l.drop off).take size)))\/(agg=false/\size=1/\k (getT l off))):=by
 unfold wt at h;split at h
 ·rename_i hb;rw [zx] at hb;refine⟨yh hb,?_⟩;split at h
  ·rw [qf0,qe3] at h;exact .inl ⟨rfl,h⟩
  ·split at h
   ·rw [qe7] at h;exact .inr ⟨rfl,rfl,h⟩
   ·cases h
 ·cases h
section
variable{P:Program}{w:World}
theorem zg9(ad:Addr):∀ (vs:List Value) (i:Nat) (acc:Array Value),(∀ (j:Nat) (u:Value),vs[j]? = some u->w.cell? (ad.add (i+j))=some u) ->
 (loadCellsFrom ad i vs.length acc).run P w = .ok (acc++vs.toArray) w:=by
 intro vs;induction vs with
 |nil=>intro i acc _;simp[loadCellsFrom]
 |cons v vs ih =>
  intro i acc h;have h0:=h 0 v rfl;rw [d6] at h0;simp only[pw,loadCellsFrom,p8,run_load,h0,ot];rw[ih (i+1) (acc.push v) (λj u hu=>by
   have:=h (j+1) u (by simpa using hu);rw[show i+1+j=i+(j+1) from by omega];exact this)]
  simp
theorem jx7[Dr](ad:Addr)(vs:List Value)(n:Nat)(hn:vs.length=n)(h:∀ (j:Nat) (u:Value),vs[j]? = some u->w.cell? (ad.add j)=some u) :
 (loadCells ad n).run P w = .ok vs.toArray w:=by
 subst hn;have:=zg9 (P:=P) ad vs 0 #[] (λj u hu=>by rw[o5];exact h j u hu);simpa[loadCells] using this
def jx(cs:Array Value)(off:Nat):List Value->Array Value
 |[]=>cs
 |v :: vs=>jx (cs.setIfInBounds off v) (off+1) vs
theorem qd1(cs:Array Value)(off:Nat)(vs:List Value):(jx cs off vs).size=cs.size:=by
 induction vs generalizing cs off with
 |nil=>rfl
 |cons v vs ih=>simp[jx,ih]
theorem ur(cs:Array Value)(off:Nat)(vs:List Value)(j:Nat)(hin:off+vs.length<=cs.size) :
 (jx cs off vs)[j]? = if off<=j/\j<off+vs.length then vs[j - off]? else cs[j]?:=by
 induction vs generalizing cs off with
 |nil=>simp[jx];intro _ _;omega
 |cons v vs ih =>
  simp only [pw] at hin;simp only[jx,pw];rw[ih (cs.setIfInBounds off v) (off+1) (by simp;omega)];by_cases h1:off+1<=j/\j<off+1+vs.length
  ·rw[if_pos h1,if_pos om];rw[show j - off=(j - (off+1))+1 from by omega];simp
  ·rw[if_neg h1,f5];by_cases h2:off=j
   ·subst h2;rw[if_pos rfl,if_pos om,if_pos om];simp
   ·rw[if_neg h2,if_neg om]
def World.setBlock(w:World)(b:Nat)(o:Obj):World:={ w with heap:=w.heap.setIfInBounds b o }
theorem xw(w:World)(b:Nat)(o:Obj)(h:b<w.heap.size):(World.setBlock w b o).heap[b]? = some o:=by
 simp[World.setBlock,f5,h]
theorem qa6(w:World)(b c:Nat)(o:Obj)(h:c≠b):(World.setBlock w b o).heap[c]? = w.heap[c]?:=by
 simp only[World.setBlock,f5];rw[if_neg (λe=>h e.symm)]
theorem Step.setBlock[Dr]{M:Nat->Prop}(w:World){b:Nat}(hb:M b)(o:Obj):Step M w (World.setBlock w b o) :=
 ⟨rfl,rfl,rfl,by simp[World.setBlock],λc _ hm=>qa6 w b c o (λe=>hm (e ▸ hb)),λ_=>pu _⟩
theorem yp{w:World}{b:Nat}{o:Obj}(h:w.heap[b]? = some o):b<w.heap.size:=by
 rcases ox b w.heap.size with h'|h'
 ·exact h'
 ·rw [rn h'] at h;cases h
theorem jw4[Dr]{w:World}{b:Nat}{cs:Array Value}{t:TypeId}{fz:Nat × Nat}(h:w.heap[b]? = some (.cells cs t fz))(off:Nat)(v:Value) :
 w.setCell ⟨b,off,none⟩ v=World.setBlock w b (.cells (cs.setIfInBounds off v) t fz):=by
 have hlt:=yp h;obtain⟨lo,hi⟩:=fz;unfold World.setCell World.setBlock;congr 1;apply aw;intro i;rw[cw,f5];by_cases hi':b=i
 ·subst hi';have hg:w.heap[b] = .cells cs t (lo,hi):=by
   rw [mv hlt] at h;exact oq h
  simp[hlt,hg]
 ·rw[if_neg hi',if_neg hi']
theorem jw5(w:World)(b:Nat)(o o':Obj):World.setBlock (World.setBlock w b o) b o'=World.setBlock w b o':=by
 unfold World.setBlock;simp
theorem zi0[Dr](b:Nat)(t:TypeId)(fz:Nat × Nat):∀ (vs:List Value) (w:World) (cs:Array Value) (off i:Nat),w.heap[b]? = some (.cells cs t fz)->off+i+vs.length<=cs.size ->
 (∀ o,o<cs.size->¬ (fz.1<=o/\o<fz.2))->(∀ u ∈ vs,u.oneCell'=true) ->
 (storeCells ⟨b,off,none⟩ vs i).run P w = .ok () (if vs=[] then w else World.setBlock w b (.cells (jx cs (off+i) vs) t fz)):=by
 intro vs;induction vs with
 |nil=>intro w cs off i _ _ _ _;simp[storeCells]
 |cons v vs ih =>
  intro w cs off i hb hin hfz h1;simp only [pw] at hin;have hadd:(⟨b,off,none⟩:Addr).add i=⟨b,off+i,none⟩:=by
   unfold Addr.add;split
   ·rename_i h0;subst h0;rfl
   ·rfl
  have hcell:w.cell? ⟨b,off+i,none⟩=some (cs[off+i]' om):=by
   simp[World.cell?,hb]
  have hfr:w.frozen? ⟨b,off+i,none⟩=false:=by
   obtain⟨lo,hi⟩:=fz;have:=hfz (off+i) om;simp[World.frozen?,hb];intro hlo;simp at this;exact this hlo
  simp only[storeCells,p8,hadd,run_store P w _ v .plain (h1 v sm),hcell,hfr,fx,if_false,ot];rw[jw4 hb];have hb':(World.setBlock w b (.cells (cs.setIfInBounds (off+i) v) t fz)).heap[b]? = some (.cells (cs.setIfInBounds (off+i) v) t fz):=xw _ _ _ (yp hb);rw[ih _ _ off (i+1) hb' (by simp;omega) (by simpa using hfz) (λu hu=>h1 u (by simp[hu]))];simp only[reduceCtorEq,if_false];split
  ·rename_i h0;subst h0;simp[jx]
  ·rw[jw5];rfl
end
theorem qk{P:Program}{TT:Nat->Option TI}(hTT:TTok P TT){t:Nat}{ti:TI}(h:TT t=some ti) :
 ∃ (info:TypeInfo) (d:TypeDesc) (z:Value),P.info? t=some info/\P.underlying t=some d/\info.size=ti.size/\info.bytes=ti.bytes/\info.zero=some z/\y6 d=ti.agg /\
 z.cells.size=ti.zero.length/\ti.zero.length=ti.size/\(∀ (w:World) (M:Nat->Prop) (β:Env) (j:Nat) (s:SV) (u:Value),ti.zero[j]? = some s->z.cells[j]? = some u->Den w M β s u)/\(∀ (j:Nat) (u:Value),z.cells[j]? = some u->u.oneCell'=true)/\TDok P d ti.desc:=(hTT t ti h).all
section
variable{P:Program}{w:World}
theorem run_sizeOf{t:TypeId}{i:TypeInfo}(h:P.info? t=some i):(sizeOf t).run P w = .ok i.size w:=by
 simp[sizeOf,typeInfo,h]
theorem qx5{t:TypeId}{i:TypeInfo}{z:Value}(h:P.info? t=some i)(hz:i.zero=some z):(zeroValue t).run P w = .ok z w:=by
 simp[zeroValue,typeInfo,h,hz]
theorem run_isAgg{t:TypeId}{d:TypeDesc}(h:P.underlying t=some d):(isAgg t).run P w = .ok (y6 d) w:=by
 simp only[isAgg,p8,run_underlying h,ot];cases d <;> rfl
theorem zh4[Dr]{t:TypeId}{d:TypeDesc}{i:TypeInfo}(hd:P.underlying t=some d)(hi:P.info? t=some i)(ha:y6 d=true)(ad:Addr)(vs:List Value)(hn:vs.length=i.size)
 (h:∀ (j:Nat) (u:Value),vs[j]? = some u->w.cell? (ad.add j)=some u):(loadVar t ad).run P w = .ok (.agg vs.toArray) w:=by
 simp[loadVar,run_isAgg hd,ha,run_sizeOf hi,jx7 ad vs i.size hn h]
theorem jw8[Dr]{t:TypeId}{d:TypeDesc}(hd:P.underlying t=some d)(ha:y6 d=false)(ad:Addr)(u:Value)
 (h:w.cell? ad=some u):(loadVar t ad).run P w = .ok u w:=by
 simp[loadVar,run_isAgg hd,ha,h]
end
theorem qr4{w:World}{M:Nat->Prop}{x:DV}{v:Value}(h:Rd w M x v):v.oneCell'=true:=by cases h <;> rfl
end
section
def Ran(P:Program)(o:Oper)(a:Act)(w:World)(M:Nat->Prop)(β:Env)(K:SV->Prop):Prop :=
 ∃ r v,K r/\(execOp a.eval o).run P w = .ok (.value v) w/\Den w M β r v
section
variable{P:Program}{TT:Nat->Option TI}{ts:List SV}{ks:List KB}{w:World}{M:Nat->Prop}{β:Env}{a:Act}{K:SV->Prop}{o:Oper}
theorem qt[Dr]{i:Nat}{k:KB}(h:getB ks i=k)(hne:k≠.gone):ks[i]? = some k:=by
 rw [vt] at h;cases hg:ks[i]? with
 |none=>rw [hg] at h;exact absurd h.symm hne
 |some x=>rw [hg] at h;simpa using h
theorem js7[Dr]{l:List SV}{vs:List Value}(hl:l.length=vs.length)(h:∀ (j:Nat) (s:SV) (u:Value),l[j]? = some s->vs[j]? = some u->Den w M β s u)(j:Nat)(hj:j<l.length) :
 ∃ u,vs[j]? = some u/\Den w M β (getT l j) u:=by
 have hv:vs[j]? = some (vs[j]' om):=pp om;have hs:l[j]? = some (l[j]'hj):=pp hj;refine⟨_,hv,?_⟩;rw[vb,hs];exact h j _ _ hs hv
theorem qr5[Dr]{t:TypeId}{ti:TI}(hTT:TTok P TT)(ht:TT t=some ti)(ad:Addr)(l:List SV)(off:Nat)(vs:List Value)(hl:l.length=vs.length)
 (hd:∀ (j:Nat) (s:SV) (u:Value),l[j]? = some s->vs[j]? = some u->Den w M β s u) (h1:∀ u ∈ vs,u.oneCell'=true) (hc:∀ (j:Nat) (u:Value),vs[j]? = some u->w.cell? (ad.add j)=some u)
 (hp:wt ti.agg ti.size l off K):∃ r v,K r/\(loadVar t (ad.add off)).run P w = .ok v w/\Den w M β r v:=by
 obtain⟨info,d,z,hi,hu,hsz,_,_,hag,_⟩:=qk hTT ht;obtain⟨hin,⟨hagg,hk⟩|⟨hagg,hone,hk⟩⟩:=yf4 hp
 ·refine⟨_,_,hk,zh4 hu hi (by rw[hag];exact hagg) (ad.add off) ((vs.drop off).take ti.size) (by simp;omega) (λj u hju=>?_),?_⟩
  ·rw[add_add];rw [lq] at hju;split at hju
   ·rw [m8] at hju;exact hc _ _ hju
   ·cases hju
  ·refine .agg _ _ (by simp;omega) (λj s u hs hu'=>?_) (λu hu'=>h1 u (d8 (lv hu')));rw [lq] at hs hu';split at hs
   ·rename_i hj;rw [if_pos hj] at hu';rw [m8] at hs hu';exact hd _ _ _ hs hu'
   ·cases hs
 ·obtain⟨u,hu',hd'⟩:=js7 hl hd off om;exact⟨_,_,hk,jw8 hu (by rw[hag];exact hagg) _ u (hc off u hu'),hd'⟩
theorem ye9[Dr]{t:TypeId}{ti:TI}(hTT:TTok P TT)(ht:TT t=some ti)(l:List SV)(off:Nat)(vs:List Value)(hl:l.length=vs.length)
 (hd:∀ (j:Nat) (s:SV) (u:Value),l[j]? = some s->vs[j]? = some u->Den w M β s u) (h1:∀ u ∈ vs,u.oneCell'=true)
 (hp:wt ti.agg ti.size l off K):∃ r v,K r/\(part t vs.toArray off).run P w = .ok v w/\Den w M β r v:=by
 obtain⟨info,d,z,hi,hu,hsz,_,_,hag,_⟩:=qk hTT ht;obtain⟨hin,⟨hagg,hk⟩|⟨hagg,hone,hk⟩⟩:=yf4 hp
 ·refine⟨_,.agg ((vs.drop off).take ti.size).toArray,hk,?_,?_⟩
  ·simp only[part,p8,run_isAgg hu,hag,hagg,ot,if_true,run_sizeOf hi,o6];congr 2;apply Array.ext';simp[hsz]
  ·refine .agg _ _ (by simp;omega) (λj s u hs hu'=>?_) (λu hu'=>h1 u (d8 (lv hu')));rw [lq] at hs hu';split at hs
   ·rename_i hj;rw [if_pos hj] at hu';rw [m8] at hs hu';exact hd _ _ _ hs hu'
   ·cases hs
 ·obtain⟨u,hu',hd'⟩:=js7 hl hd off om;refine⟨_,u,hk,?_,hd'⟩;simp[part,run_isAgg hu,hag,hagg,hu']
theorem ja2[Dr]{k:IntKind}{l:List SV}{c:List Int->Prop}(h:qc5 k l c):∃ xs:List Int,l=xs.map (λn=>.d (.int k n))/\c xs:=by
 induction l generalizing c with
 |nil=>exact⟨[],rfl,h⟩
 |cons s l ih =>
  cases s with
  |d x =>
   cases x with
   |int k' n =>
    simp only [qc5] at h;split at h
    ·rename_i hk;cases vz hk;obtain⟨xs,rfl,hc⟩:=ih h;exact⟨n :: xs,rfl,hc⟩
    ·cases h
   |_=>exact h.elim
  |_=>exact h.elim
theorem wz{n j:Nat}{u:Nat->Value}{v:Value}(h:((List.range n).map u)[j]? = some v):j<n/\u j=v:=by
 rw [mw] at h;rcases ox j n with hj|hj
 ·rw [c8 hj] at h;exact⟨hj,oq h⟩
 ·rw [g8 (by simpa using hj)] at h;cases h
theorem yl1(xs:List Int)(i:Int)(h0:0<=i)(h1:i<xs.length):xs[i.toNat]? = some (qa0 xs i):=by
 induction xs generalizing i with
 |nil=>simp at h1;omega
 |cons x xs ih =>
  unfold qa0;split
  ·subst_vars;rfl
  ·simp at h1;have:=ih (i - 1) om om;rw[show i.toNat=(i - 1).toNat+1 from by omega];simpa using this
theorem j6(hB:∀ (i:Nat) (L:Loc) (k:KB),ks[i]? = some k->k≠.gone->β i=some L->∃ fp,KBat w M β L fp k){i:Nat}{L:Loc}{k:KB}(hL:β i=some L)(hk:ks[i]? = some k)(hne:k≠.gone):∃ fp,KBat w M β L fp k:=by
 exact hB i L k hk hne hL
theorem jh{k:IntKind}{n:Int}{v:Value}(h:Den w M β (.d (.int k n)) v):v = .int k n:=by
 cases h with
 |d h=>cases h;rfl
theorem xk2[Dr](hTT:TTok P TT)(hT:∀ x,Den w M β (val ts x) (a.eval x))(hB:∀ (i:Nat) (L:Loc) (k:KB),ks[i]? = some k->k≠.gone->β i=some L->∃ fp,KBat w M β L fp k){t:TypeId}{x:Operand}(ho:o.op = .load t x)
 (h:pev P TT ts ks (.load t x) K):Ran P o a w M β K:=by
 unfold Ran;simp only[execOp,ho];simp only [pev,qq] at h;split at h
 ·cases h
 ·rename_i size bytes agg zero desc eqk ht;have hv:=hT x;generalize a.eval x=av at hv ⊢;split at h
  ·rename_i i off hx;rw [hx] at hv;cases hv with
   |ptr _ _ b hbi =>
   rw [jc] at h;split at h
   ·rename_i t' l hg;obtain⟨fp',hk⟩:=j6 hB hbi (qt hg sm) sm;cases hk with
    |cells _ _ vs hfp hb hl hd h1 =>
     obtain⟨r,v,hK,hr,hd'⟩:=qr5 (K:=K) (w:=w) (M:=M) (β:=β) hTT ht ⟨b.b,0,none⟩ l off vs.toList (by simpa using hl) (λj s u hs hu=>hd j s u hs (by simpa using hu)) (λu hu=>by
      obtain⟨j,hj,rfl⟩:=mr.1 hu;exact h1 j _ sm) (λj u hu=>by
      rw[show(⟨b.b,0,none⟩:Addr).add j=⟨b.b,j,none⟩ from by unfold Addr.add;split <;> simp_all];simpa[World.cell?,hb] using hu) h
     rw [show (⟨b.b,0,none⟩:Addr).add off=⟨b.b,off,none⟩ from by unfold Addr.add;split <;> simp_all] at hr;refine⟨r,v,hK,?_,hd'⟩;simp[Instr.loadAt,Instr.sureAddr,hr]
   ·cases h
  ·rename_i i off len ix hx;rw [hx] at hv;cases hv with
   |aptr _ _ _ _ b h0 h1 hbi =>
   split at h
   ·rename_i k;rw [jc] at h;split at h
    ·rename_i t' l hg;split at h
     ·rename_i hble;rw [qf0,qe3] at h;obtain⟨xs,hxs,hK⟩:=ja2 h;obtain⟨fp',hk⟩:=j6 hB hbi (qt hg sm) sm;obtain⟨info,d,z,hi,hu,hsz,_,_,hag,_,_,_,_,hdesc⟩:=qk hTT ht;cases hk with
      |cells _ _ vs hfp hb hl hd h1' =>
       rw [zx] at hble;have hble:=yh hble;have hlen:xs.length=len:=by
        have:=congrArg List.length hxs;simp at this;omega
       have hget:=yl1 xs ix h0 om;have hs:l[off+ix.toNat]? = some (.d (.int k (qa0 xs ix))):=by
        have h2:((l.drop off).take len)[ix.toNat]? = some (.d (.int k (qa0 xs ix))):=by rw[hxs];simp[hget]
        rw [lq,if_pos om,m8] at h2;exact h2
       have hvs:vs[off+ix.toNat]? = some (vs[off+ix.toNat]' om):=mv om;have hden:=hd _ _ _ hs hvs;have hval:=jh hden;refine⟨_,_,hK,?_,.d (.int k _)⟩;have hcell:w.cell? ⟨b.b,off+ix.toNat,none⟩=some (.int k (qa0 xs ix)):=by
        simp[World.cell?,hb,hvs,hval]
       have hdd:d = .int k:=hdesc;have:=jw8 (P:=P) (w:=w) hu (by rw[hdd];rfl) _ _ hcell;simp[Instr.loadAt,Instr.sureAddr,this]
     ·cases h
    ·cases h
   ·cases h
  ·rename_i c off hx;rw [hx] at hv;cases hv with
   |dptr _ _ ad u hlt hnm hc hr =>
   rw [jo9] at h;obtain⟨r,v,hK,hr',hd'⟩:=qr5 (K:=K) (w:=w) (M:=M) (β:=β) hTT ht ad (c.map .d) off ((List.range c.length).map u) sm (λj s v hs hv=>by
    simp at hs;obtain⟨x,hx,rfl⟩:=hs;obtain⟨_,rfl⟩:=wz hv;exact .d (hr j x hx)) (λv hv=>by
    simp at hv;obtain⟨j,hj,rfl⟩:=hv;exact qr4 (hr j _ (pp hj))) (λj v hv=>by
    obtain⟨hj,rfl⟩:=wz hv;exact hc _ _ (pp hj)) h
   refine⟨r,v,hK,?_,hd'⟩;simp[Instr.loadAt,Instr.sureAddr,hr']
  ·rename_i i j off sz hx;rw [hx] at hv;cases hv with
   |rptr _ _ _ _ b hbi hjL =>
   rw [jc] at h;split at h
   ·rename_i e sz' n z f hg;split at h
    ·rename_i hsz';have hsz':=jg hsz';subst hsz';rw [jo9] at h;obtain⟨fp',hk⟩:=j6 hB hbi (qt hg sm) sm;cases hk with
     |rowNil _ _ _ _ _ _ _ hLn=>rw [hLn] at hjL;omega
     |row _ _ _ _ _ vs fz hfp hnil hLs hLn hzz hb hfz hvs hng hfl hr _ =>
      have hjn':j<n:=hLn ▸ hjL;have hin:∀ m,m<sz->j * sz+m<vs.size:=λm hm=>by
       rw[hvs];calc j * sz+m<j * sz+sz:=om
        _=(j+1) * sz:=by rw[o9,l9]
        _<=b.c * sz:=l5 _ om
      have hjn:j<n:=hLn ▸ hjL;have hlen:=hfl j hjn;obtain⟨r,v,hK,hr',hd'⟩:=qr5 (K:=K) (w:=w) (M:=M) (β:=β) hTT ht ⟨b.b,j * sz,none⟩ ((f j).map .d) off ((List.range sz).map λm=>vs[j * sz+m]?.getD undef) (by simp[hlen]) (λm s v hs hv=>by
       simp at hs;obtain⟨x,hx,rfl⟩:=hs;obtain⟨hm,rfl⟩:=wz hv;rw[mv (hin _ hm)];exact .d (hr j m x _ hjn hx (mv (hin _ hm)))) (λv hv=>by
       simp at hv;obtain⟨m,hm,rfl⟩:=hv;rw[mv (hin _ hm)];exact qr4 (hr j m _ _ hjn (pp om) (mv (hin _ hm)))) (λm v hv=>by
       obtain⟨hm,rfl⟩:=wz hv;rw[mv (hin _ hm)];rw[show(⟨b.b,j * sz,none⟩:Addr).add m=⟨b.b,j * sz+m,none⟩ from by unfold Addr.add;split <;> simp_all];simp[World.cell?,hb,mv (hin _ hm)]) h
      rw [show (⟨b.b,j * sz,none⟩:Addr).add off=⟨b.b,j * sz+off,none⟩ from by unfold Addr.add;split <;> simp_all] at hr';refine⟨r,v,hK,?_,hd'⟩;simp[Instr.loadAt,Instr.sureAddr,hr']
    ·cases h
   ·rename_i e sz' n f hg;split at h
    ·rename_i hsz';have hsz':=jg hsz';subst hsz';obtain⟨fp',hk⟩:=j6 hB hbi (qt hg sm) sm;cases hk with
     |rows _ _ _ _ vs fz hfp hnil hLs hLn hb hfz hvs hng hfl hr hone =>
      have hjn:j<n:=hLn ▸ hjL;have hin:∀ m,m<sz->j * sz+m<vs.size:=λm hm=>by
       rw[hvs];calc j * sz+m<j * sz+sz:=om
        _=(j+1) * sz:=by rw[o9,l9]
        _<=b.c * sz:=l5 _ om
      have hlen:=hfl j hjn;obtain⟨r,v,hK,hr',hd'⟩:=qr5 (K:=K) (w:=w) (M:=M) (β:=β) hTT ht ⟨b.b,j * sz,none⟩ (f j) off ((List.range sz).map λm=>vs[j * sz+m]?.getD undef) (by simp[hlen]) (λm s v hs hv=>by
       obtain⟨hm,rfl⟩:=wz hv;rw[mv (hin _ hm)];exact hr j m s _ hjn hs (mv (hin _ hm))) (λv hv=>by
       simp at hv;obtain⟨m,hm,rfl⟩:=hv;rw[mv (hin _ hm)];exact hone _ _ (mv (hin _ hm))) (λm v hv=>by
       obtain⟨hm,rfl⟩:=wz hv;rw[mv (hin _ hm)];rw[show(⟨b.b,j * sz,none⟩:Addr).add m=⟨b.b,j * sz+m,none⟩ from by unfold Addr.add;split <;> simp_all];simp[World.cell?,hb,mv (hin _ hm)]) h
      rw [show (⟨b.b,j * sz,none⟩:Addr).add off=⟨b.b,j * sz+off,none⟩ from by unfold Addr.add;split <;> simp_all] at hr';refine⟨r,v,hK,?_,hd'⟩;simp[Instr.loadAt,Instr.sureAddr,hr']
    ·cases h
   ·cases h
  ·cases h
end
end
section
section
variable{P:Program}{TT:Nat->Option TI}{ts:List SV}{ks:List KB}{w:World}{M:Nat->Prop}{β:Env}{a:Act}{K:SV->Prop}{o:Oper}
theorem ym(b off n:Nat):(⟨b,off,none⟩:Addr).add n=⟨b,off+n,none⟩:=by unfold Addr.add;split <;> simp_all
theorem je7(l:List (Nat × TypeId))(n:Nat):getF l n=l[n]?:=by
 induction l generalizing n with
 |nil=>rfl
 |cons a l ih=>cases n with
  |zero=>rfl
  |succ n=>simp[getF,ih]
theorem ys1(hT:∀ x,Den w M β (val ts x) (a.eval x)){x:Operand}(ho:o.op = .move x\/o.op = .assign x)(h:K (val ts x)):Ran P o a w M β K:=by
 refine⟨_,a.eval x,h,?_,hT x⟩;rcases ho with ho|ho <;> simp[execOp,ho]
theorem xk1[Dr](hT:∀ x,Den w M β (val ts x) (a.eval x)){c x y:Operand}(ho:o.op = .pick c x y)(h:pev P TT ts ks (.pick c x y) K):Ran P o a w M β K:=by
 unfold Ran;simp only[execOp,ho];simp only [pev,qq] at h;have hc:=hT c;generalize a.eval c=cv at hc ⊢;split at h
 ·rename_i hx;rw [hx] at hc;cases hc with|d hc=>cases hc;exact ⟨_,_,h,by simp [asBool],hT x⟩
 ·rename_i hx;rw [hx] at hc;cases hc with|d hc=>cases hc;exact ⟨_,_,h,by simp [asBool],hT y⟩
 ·rename_i q hx;rw [hx] at hc;cases hc with|d hc =>
   cases hc;cases q
   ·exact⟨_,_,h.2 rfl,by simp[asBool],hT y⟩
   ·exact⟨_,_,h.1 rfl,by simp[asBool],hT x⟩
 ·cases h
theorem ya0[Dr]{t:TypeId}{fields:Array Field}{f:Field}{fi:TypeInfo}{j:Nat}(hu:P.underlying t=some (.struct fields))(hf:fields[j]? = some f)(hi:P.info? f.type=some fi)(hz:fi.size≠0)(ad:Addr) :
 (Instr.fieldAt t (.pointer (some ad)) j).run P w = .ok (.pointer (some (ad.add f.offset))) w:=by
 simp[Instr.fieldAt,run_underlying hu,hf,Instr.sureAddr,fieldPlace,run_sizeOf hi,hz]
theorem zj6[Dr](hTT:TTok P TT)(hT:∀ x,Den w M β (val ts x) (a.eval x)){t:TypeId}{x:Operand}{f:Nat}(ho:o.op = .fieldAddr t x f)(h:pev P TT ts ks (.fieldAddr t x f) K):Ran P o a w M β K:=by
 unfold Ran;simp only[execOp,ho];simp only [pev,qq] at h;split at h
 ·rename_i size bytes agg zero fs eqk ht;split at h
  ·rename_i off ft hf;rw [je7] at hf;obtain⟨info,d,z,hi,hu,_,_,_,_,_,_,_,_,fields,rfl,hsz,hfs⟩:=qk hTT ht;obtain⟨fd,fi,hfd,hoff,hty,hfi,hz⟩:=hfs f off ft hf;have hv:=hT x;generalize a.eval x=av at hv ⊢;have hrun:=λad=>ya0 (w:=w) hu hfd (by rw[hty];exact hfi) hz ad
   split at h
   ·rename_i i o' hx;rw [hx] at hv;cases hv with
    |ptr _ _ b hbi=>exact⟨_,.pointer (some ((⟨b.b,o',none⟩:Addr).add fd.offset)),h,by simp[hrun],by rw[ym,hoff];exact .ptr i (o'+off) b hbi⟩
   ·rename_i c o' hx;rw [hx] at hv;cases hv with
    |dptr _ _ ad u h1 h2 h3 h4=>exact⟨_,.pointer (some ((ad.add o').add fd.offset)),h,by simp[hrun],by rw[add_add,hoff];exact .dptr c (o'+off) ad u h1 h2 h3 h4⟩
   ·rename_i i j o' sz hx;rw [hx] at hv;cases hv with
    |rptr _ _ _ _ b hbi hjL=>exact⟨_,.pointer (some ((⟨b.b,j * sz+o',none⟩:Addr).add fd.offset)),h,by simp[hrun],by rw[ym,hoff,Nat.add_assoc];exact .rptr i j (o'+off) sz b hbi hjL⟩
   ·cases h
  ·cases h
 ·cases h
theorem xb0[Dr](hTT:TTok P TT)(hT:∀ x,Den w M β (val ts x) (a.eval x)){t:TypeId}{x:Operand}{f:Nat}(ho:o.op = .field t x f)(h:pev P TT ts ks (.field t x f) K):Ran P o a w M β K:=by
 unfold Ran;simp only[execOp,ho];simp only [pev,qq] at h;split at h
 ·rename_i size bytes agg zero fs eqk ht;split at h
  ·rename_i off ft hf;rw [je7] at hf;obtain⟨info,d,z,hi,hu,_,_,_,_,_,_,_,_,fields,rfl,hsz,hfs⟩:=qk hTT ht;obtain⟨fd,fi,hfd,hoff,hty,hfi,hz⟩:=hfs f off ft hf;split at h
   ·rename_i size' bytes' agg' zero' desc' eqk' htf;have hv:=hT x;generalize a.eval x=av at hv ⊢;split at h
    ·rename_i l hx;rw [hx] at hv;cases hv with
     |agg _ vs hl hd h1 =>
      obtain⟨r,v,hK,hr,hd'⟩:=ye9 (w:=w) (M:=M) (β:=β) hTT htf l off vs hl hd h1 h;refine⟨r,v,hK,?_,hd'⟩;simp[Instr.field,run_underlying hu,hfd,asAgg,hty,hoff,hr]
    ·cases h
   ·cases h
  ·cases h
 ·cases h
theorem zj5[Dr](hTT:TTok P TT)(hT:∀ x,Den w M β (val ts x) (a.eval x))(hB:∀ (i:Nat) (L:Loc) (k:KB),ks[i]? = some k->k≠.gone->β i=some L->∃ fp,KBat w M β L fp k){t:TypeId}{x ix:Operand}(ho:o.op = .indexAddr t x ix)(h:pev P TT ts ks (.indexAddr t x ix) K):Ran P o a w M β K:=by
 unfold Ran;simp only[execOp,ho];simp only [pev,qq] at h;have hv:=hT x;generalize a.eval x=av at hv ⊢;have hw:=hT ix;generalize a.eval ix=iv at hw ⊢;split at h
 ·rename_i size bytes agg zero e eqk ht;obtain⟨info,d,z,hi,hu,_,_,_,_,_,_,_,_,hd⟩:=qk hTT ht;cases hd;split at h
  ·cases h
  ·rename_i size' bytes' agg' zero' desc' eqk' hte;obtain⟨infoe,de,ze,hie,hue,hsze,_⟩:=qk hTT hte;simp only at hsze;split at h
   ·rename_i k n hix;rw [hix] at hw;cases jh hw;split at h
    ·rename_i nil m sz f hx;rw [hx] at hv;split at h
     ·rename_i hsz;cases jg hsz;obtain⟨⟨h0,h1⟩,h⟩:=h;cases hv with
      |d hv =>
       cases hv with
       |nil=>exfalso;omega
       |sl _ _ _ ad cap u hcap hblk hlen hcell hrd =>
        obtain⟨hb,hnm⟩:=hblk om;refine⟨_,.pointer (some (ad.add (n.toNat * size'))),h,?_,?_⟩
        ·simp[Instr.indexAt,asIntOf,run_underlying hu,h0,h1,run_sizeOf hie,hsze]
        ·have:=Den.dptr (w:=w) (M:=M) (β:=β) (f n.toNat) 0 (ad.add (n.toNat * size')) (u n.toNat) (by rw[qs6];exact hb) (by rw[qs6];exact hnm)
          (λj d hj=>by rw[add_add];exact hcell _ _ _ om hj) (λj d hj=>hrd _ _ _ om hj)
         rw [add_add] at this;simpa using this
     ·cases h
    ·rename_i b hx;rw [hx] at hv;rw [jc] at h;split at h
     ·rename_i e' sz m z f hg;split at h
      ·rename_i hsz;cases jg hsz;obtain⟨⟨h0,h1⟩,h⟩:=h;cases hv with
       |allNil _ L hbi hnil =>
        obtain⟨fp',hk⟩:=j6 hB hbi (qt hg sm) sm;cases hk with
        |rowNil=>exfalso;omega
        |row _ _ _ _ _ vs fz hfp hnil'=>rw [hnil] at hnil';cases hnil'
       |all _ L hbi hnil =>
        obtain⟨fp',hk⟩:=j6 hB hbi (qt hg sm) sm;cases hk with
        |rowNil _ _ _ _ _ hnil'=>rw [hnil] at hnil';cases hnil'
        |row _ _ _ _ _ vs fz hfp _ hLs hLn =>
         refine⟨_,.pointer (some ⟨L.b,n.toNat * size'+0,none⟩),h,?_,.rptr b n.toNat 0 size' L hbi om⟩;simp[Instr.indexAt,asIntOf,run_underlying hu,h0,hLn,h1,run_sizeOf hie,hsze,ym]
      ·cases h
     ·rename_i e' sz m f hg;split at h
      ·rename_i hsz;cases jg hsz;obtain⟨⟨h0,h1⟩,h⟩:=h;cases hv with
       |allNil _ L hbi hnil =>
        obtain⟨fp',hk⟩:=j6 hB hbi (qt hg sm) sm;cases hk with
        |rows _ _ _ _ vs fz hfp hnil'=>rw [hnil] at hnil';cases hnil'
       |all _ L hbi hnil =>
        obtain⟨fp',hk⟩:=j6 hB hbi (qt hg sm) sm;cases hk with
        |rows _ _ _ _ vs fz hfp _ hLs hLn =>
         refine⟨_,.pointer (some ⟨L.b,n.toNat * size'+0,none⟩),h,?_,.rptr b n.toNat 0 size' L hbi om⟩;simp[Instr.indexAt,asIntOf,run_underlying hu,h0,hLn,h1,run_sizeOf hie,hsze,ym]
      ·cases h
     ·cases h
    ·rename_i b lo m hx;rw [hx] at hv;rw [jc] at h;split at h
     ·rename_i e' sz q z f hg;split at h
      ·rename_i hsz;cases jg hsz;obtain⟨⟨h0,h1,h2⟩,h⟩:=h;cases hv with
       |rowNil _ L hbi hnil=>exfalso;omega
       |row _ _ _ off L hbi hnil hc ho' =>
        obtain⟨fp',hk⟩:=j6 hB hbi (qt hg sm) sm;cases hk with
        |rowNil _ _ _ _ _ hnil'=>rw [hnil] at hnil';cases hnil'
        |row _ _ _ _ _ vs fz hfp _ hLs hLn =>
         have hoff:off=lo * L.sz:=ho' (.inl om);refine⟨_,.pointer (some ⟨L.b,(lo+n.toNat) * size'+0,none⟩),h,?_,.rptr b (lo+n.toNat) 0 size' L hbi om⟩;simp[Instr.indexAt,asIntOf,run_underlying hu,h0,h1,run_sizeOf hie,hsze,ym,hoff,hLs,o9]
      ·cases h
     ·cases h
    ·rename_i b off m c hx;rw [hx] at hv;cases hv with
     |cs _ _ _ _ L hbi hnc =>
     split at h
     ·split at h
      ·obtain⟨⟨h0,h1⟩,h⟩:=h;refine⟨_,.pointer (some ⟨L.b,off+n.toNat,none⟩),h,?_,.aptr b off m n L h0 h1 hbi⟩;simp[Instr.indexAt,asIntOf,run_underlying hu,h0,h1,run_sizeOf hie,hsze,ym]
      ·cases h
     ·obtain⟨⟨h0,h1⟩,h⟩:=h;refine⟨_,.pointer (some ⟨L.b,off+n.toNat * size',none⟩),h,?_,.ptr b _ L hbi⟩;simp[Instr.indexAt,asIntOf,run_underlying hu,h0,h1,run_sizeOf hie,hsze,ym]
    ·cases h
   ·cases h
 ·rename_i size bytes agg zero len e eqk ht;obtain⟨info,d,z,hi,hu,_,_,_,_,_,_,_,_,hd⟩:=qk hTT ht;cases hd;split at h
  ·cases h
  ·rename_i hlen;have hlen:=yh hlen;split at h
   ·cases h
   ·rename_i size' bytes' agg' zero' desc' eqk' hte;obtain⟨infoe,de,ze,hie,hue,hsze,_⟩:=qk hTT hte;simp only at hsze;split at h
    ·rename_i k n hix;rw [hix] at hw;cases jh hw;split at h
     ·rename_i b off hx;rw [hx] at hv;cases hv with
      |ptr _ _ bb hbi =>
      split at h
      ·split at h
       ·split at h
        ·obtain⟨⟨h0,h1⟩,h⟩:=h;refine⟨_,.pointer (some ⟨bb.b,off+n.toNat,none⟩),h,?_,.ptr b _ bb hbi⟩;simp[Instr.indexAt,asIntOf,run_underlying hu,h0,h1,run_sizeOf hie,hsze,ym,Instr.sureAddr]
        ·obtain⟨⟨h0,h1⟩,h⟩:=h;refine⟨_,.pointer (some ⟨bb.b,off+n.toNat,none⟩),h,?_,.aptr b off len n bb h0 h1 hbi⟩;simp[Instr.indexAt,asIntOf,run_underlying hu,h0,h1,run_sizeOf hie,hsze,ym,Instr.sureAddr]
       ·cases h
      ·obtain⟨⟨h0,h1⟩,h⟩:=h;refine⟨_,.pointer (some ⟨bb.b,off+n.toNat * size',none⟩),h,?_,.ptr b _ bb hbi⟩;simp[Instr.indexAt,asIntOf,run_underlying hu,h0,h1,run_sizeOf hie,hsze,ym,Instr.sureAddr]
     ·cases h
    ·cases h
 ·cases h
theorem xu0(s:Ls)(i:Nat):(⟨s.toArray⟩:ByteArray)[i]? = s[i]?:=by
 rcases ox i s.length with h|h
 ·rw[pp h];have:i<(⟨s.toArray⟩:ByteArray).size:=by simpa[ByteArray.size] using h
  rw[getElem?_pos (⟨s.toArray⟩:ByteArray) i this];rfl
 ·rw[g8 h];have:¬ i<(⟨s.toArray⟩:ByteArray).size:=by simpa[ByteArray.size] using h
  rw[getElem?_neg (⟨s.toArray⟩:ByteArray) i this]
theorem qb4(s:Ls):(⟨s.toArray⟩:ByteArray).size=s.length:=by simp[ByteArray.size]
theorem uv(s:Ls):(⟨s.toArray⟩:ByteArray).toList=s:=by
 rw[Lib.toList_data]
theorem y9{s:Ls}{v:Value}(h:Den w M β (.d (.str s)) v):v=strV s:=by
 cases h with
 |d h=>cases h;rfl
end
end
section
section
variable{P:Program}{TT:Nat->Option TI}{ts:List SV}{ks:List KB}{w:World}{M:Nat->Prop}{β:Env}{a:Act}{K:SV->Prop}{o:Oper}
theorem xa9[Dr](hTT:TTok P TT)(hT:∀ x,Den w M β (val ts x) (a.eval x)){t:TypeId}{x ix:Operand}(ho:o.op = .index t x ix)(h:pev P TT ts ks (.index t x ix) K):Ran P o a w M β K:=by
 unfold Ran;simp only[execOp,ho];simp only [pev,qq] at h;have hv:=hT x;generalize a.eval x=av at hv ⊢;have hw:=hT ix;generalize a.eval ix=iv at hw ⊢;split at h
 ·rename_i size bytes agg zero eqk ht;obtain⟨info,d,z,hi,hu,_,_,_,_,_,_,_,_,hd⟩:=qk hTT ht;cases hd;split at h
  ·rename_i s k n hx hix;rw [hx] at hv;rw [hix] at hw;cases jh hw;cases y9 hv;obtain⟨⟨h0,h1⟩,h⟩:=h;have hlt:n.toNat<s.length:=om
   refine⟨_,.int .u8 (qw s n),h,?_,.d (.int _ _)⟩;simp[Instr.index,asIntOf,run_underlying hu,strV,h0,xu0,pp hlt,qw]
  ·cases h
 ·rename_i size bytes agg zero len e eqk ht;obtain⟨info,d,z,hi,hu,_,_,_,_,_,_,_,_,hd⟩:=qk hTT ht;cases hd;split at h
  ·cases h
  ·rename_i size' bytes' agg' zero' desc' eqk' hte;split at h
   ·rename_i l k n hx hix;rw [hx] at hv;rw [hix] at hw;cases jh hw;cases hv with
    |agg _ vs hl hdn h1' =>
     split at h
     ·rename_i k';split at h
      ·rename_i hlen;have hlen:=jg hlen;rw [zx] at hlen;obtain⟨⟨h0,h1⟩,h⟩:=h;obtain⟨xs,rfl,hK⟩:=ja2 h;have hxl:xs.length=len:=by simpa using hlen
       have hget:=yl1 xs n h0 om;have hvl:n.toNat<vs.length:=by rw[<-hl];simp;omega
       have hval:=jh (hdn n.toNat (.d (.int k' (qa0 xs n))) _ (by simp[hget]) (pp hvl));refine⟨_,.int k' (qa0 xs n),hK,?_,.d (.int _ _)⟩;obtain⟨infoe,de,ze,hie,hue,hsze,_,_,hage,_,_,_,_,hde⟩:=qk hTT hte;simp only at hsze;cases hde;simp[Instr.index,asIntOf,run_underlying hu,h0,h1,run_sizeOf hie,hsze,part,run_isAgg hue,y6,pp hvl,hval]
      ·cases h
     ·obtain⟨⟨h0,h1⟩,h⟩:=h;obtain⟨r,v,hK,hr,hd'⟩:=ye9 (w:=w) (M:=M) (β:=β) hTT hte l (n.toNat * size') vs hl hdn h1' h;refine⟨r,v,hK,?_,hd'⟩;obtain⟨infoe,de,ze,hie,hue,hsze,_⟩:=qk hTT hte;simp only at hsze;simp[Instr.index,asIntOf,run_underlying hu,h0,h1,run_sizeOf hie,hsze,hr]
   ·cases h
 ·cases h
theorem ja4{x:DV}{k:Bool->Prop}(h:qh5 x k False):∃ b,k b/\∀ (w:World) (M:Nat->Prop) (v:Value),Rd w M x v->v = .bool b:=by
 unfold qh5 at h;split at h
 ·exact⟨_,h,λ_ _ _ hr=>by cases hr;rfl⟩
 ·exact⟨_,h,λ_ _ _ hr=>by cases hr;rfl⟩
 ·exact⟨_,h,λ_ _ _ hr=>by cases hr;rfl⟩
 ·cases h
theorem zw7(a b:Ls):(⟨a.toArray⟩:ByteArray)++⟨b.toArray⟩=⟨(a++b).toArray⟩:=by
 have:((⟨a.toArray⟩:ByteArray)++⟨b.toArray⟩).data=(a++b).toArray:=by simp
 exact congrArg ByteArray.mk this
theorem zi4(d:Nat)(t e:TypeId)(ad:Option Addr)(l c:Nat)(h:P.underlying t=some (.slice e)):(Op.equalIn (d+1) t (.slice ad l c) (.slice none 0 0)).run P w = .ok ad.isNone w:=by
 cases ad <;> simp[Op.equalIn,run_underlying h]
theorem w5[Dr](t e:TypeId)(ad:Option Addr)(l c:Nat)(h:P.underlying t=some (.slice e)):(Op.equal t (.slice ad l c) (.slice none 0 0)).run P w = .ok ad.isNone w :=
 zi4 9999 t e ad l c h
theorem yo3(d:Nat)(t:TypeId)(p q:Bool)(h:P.underlying t=some .bool):(Op.equalIn (d+1) t (.bool p) (.bool q)).run P w = .ok (p == q) w:=by
 simp[Op.equalIn,run_underlying h]
theorem js3[Dr](t:TypeId)(p q:Bool)(h:P.underlying t=some .bool):(Op.equal t (.bool p) (.bool q)).run P w = .ok (p == q) w :=
 yo3 9999 t p q h
theorem xf3[Dr]{t:TypeId}{td:TD}{d:TypeDesc}(hu:P.underlying t=some d)(htd:TDok P d td){op:BinOp}{x y:DV}{u v:Value}(hx:Rd w M x u)(hy:Rd w M y v)(h:bin td op x y K) :
 ∃ r z,K r/\(binOp op t u v).run P w = .ok z w/\Den w M β r z:=by
 unfold bin at h;split at h
 ·rename_i k a k' b;cases hx;cases hy;split at h
  ·obtain⟨h0,h⟩:=h;exact⟨_,_,h,by simp[binOp,Op.shift,show ¬ b<0 from by omega],.d (.int _ _)⟩
  ·obtain⟨h0,h⟩:=h;exact⟨_,_,h,by simp[binOp,Op.shift,show ¬ b<0 from by omega],.d (.int _ _)⟩
  ·rename_i op hn1 hn2;split at h
   ·cases h
   ·rename_i hk;cases vz hk;split at h
    ·exact⟨_,_,h,by simp[binOp,Op.intArith],.d (.int _ _)⟩
    ·exact⟨_,_,h,by simp[binOp,Op.intArith],.d (.int _ _)⟩
    ·exact⟨_,_,h,by simp[binOp,Op.intArith],.d (.int _ _)⟩
    ·obtain⟨h0,h⟩:=h;exact⟨_,_,h,by simp[binOp,Op.intDiv,h0],.d (.int _ _)⟩
    ·obtain⟨h0,h⟩:=h;exact⟨_,_,h,by simp[binOp,Op.intDiv,h0],.d (.int _ _)⟩
    ·exact⟨_,_,h,by rw[binOp_and,intBits_and];rfl,.d (.int _ _)⟩
    ·exact⟨_,_,h,by rw[binOp_or,intBits_or];rfl,.d (.int _ _)⟩
    ·exact⟨_,_,h,by rw[binOp_xor,intBits_xor];rfl,.d (.int _ _)⟩
    ·exact⟨_,_,h,by rw[binOp_andNot,intBits_andNot];rfl,.d (.int _ _)⟩
    ·exact⟨_,_,h,by rw[binOp_eql];rfl,.d (.bool _)⟩
    ·exact⟨_,_,h,by rw[binOp_neq];rfl,.d (.bool _)⟩
    ·exact⟨_,_,h,by rw[binOp_lss];rfl,.d (.bool _)⟩
    ·exact⟨_,_,h,by rw[binOp_leq];rfl,.d (.bool _)⟩
    ·exact⟨_,_,h,by rw[binOp_gtr];rfl,.d (.bool _)⟩
    ·exact⟨_,_,h,by rw[binOp_geq];rfl,.d (.bool _)⟩
    ·cases h
 ·rename_i a b;cases hx;cases hy;split at h
  ·obtain⟨h0,h⟩:=h;refine⟨_,strV (a++b),h,?_,.d (.str _)⟩;have:¬ ((((⟨a.toArray⟩:ByteArray).size+(⟨b.toArray⟩:ByteArray).size:Nat):Int) > IntKind.i64.max):=by
    rw[qb4,qb4,IntKind.max_i64];omega
   simp only[binOp,strV,Op.stringOp,if_neg this];rw[zw7];rfl
  ·exact⟨_,_,h,by simp[binOp,strV,Op.stringOp,uv],.d (.bool _)⟩
  ·exact⟨_,_,h,by simp[binOp,strV,Op.stringOp,uv],.d (.bool _)⟩
  ·exact⟨_,_,h,by simp[binOp,strV,Op.stringOp,uv],.d (.bool _)⟩
  ·exact⟨_,_,h,by simp[binOp,strV,Op.stringOp,uv],.d (.bool _)⟩
  ·exact⟨_,_,h,by simp[binOp,strV,Op.stringOp,uv],.d (.bool _)⟩
  ·exact⟨_,_,h,by simp[binOp,strV,Op.stringOp,uv],.d (.bool _)⟩
  ·cases h
 ·rename_i b n sz f f';cases hy;split at h
  ·rename_i e;cases htd;cases hx
   ·exact⟨_,.bool true,h,by simp[binOp,w5 t e none 0 0 hu],.d (.bool _)⟩
   ·exact⟨_,.bool false,h,by simp[binOp,w5 t e (some _) _ _ hu],.d (.bool _)⟩
  ·rename_i e;cases htd;cases hx
   ·exact⟨_,.bool false,h,by simp[binOp,w5 t e none 0 0 hu],.d (.bool _)⟩
   ·exact⟨_,.bool true,h,by simp[binOp,w5 t e (some _) _ _ hu],.d (.bool _)⟩
  ·cases h
 ·obtain⟨p,h,hp⟩:=ja4 h;obtain⟨q,h,hq⟩:=ja4 h;cases hp w M u hx;cases hq w M v hy;split at h
  ·cases htd;exact⟨_,.bool (p == q),h,by simp[binOp,js3 t p q hu],.d (.bool _)⟩
  ·cases htd;exact⟨_,.bool (!(p == q)),h,by simp[binOp,js3 t p q hu],.d (.bool _)⟩
  ·cases h
end
end
section
section
variable{P:Program}{TT:Nat->Option TI}{ts:List SV}{ks:List KB}{w:World}{M:Nat->Prop}{β:Env}{a:Act}{K:SV->Prop}{o:Oper}
theorem yo2[Dr]{es:List EK}:∀ {l m:List SV} {c:Bool->Prop} (_:eqSK es l m c) (xs ys:List Value),l.length=xs.length->m.length=ys.length ->
 (∀ (j:Nat) (s:SV) (u:Value),l[j]? = some s->xs[j]? = some u->Den w M β s u)->(∀ (j:Nat) (s:SV) (u:Value),m[j]? = some s->ys[j]? = some u->Den w M β s u) ->
 c (jm es xs ys)/\xs.length=es.length/\ys.length=es.length/\(∀ (j:Nat) (k:EK) (x:Value),es[j]? = some k->xs[j]? = some x->fits k x)/\(∀ (j:Nat) (k:EK) (y:Value),es[j]? = some k->ys[j]? = some y->fits k y):=by
 induction es with
 |nil =>
  intro l m c h xs ys hl hm _ _;cases l with
  |nil=>cases m with
   |nil =>
    have:xs=[]:=dq (by simpa using hl.symm);have:ys=[]:=dq (by simpa using hm.symm)
    subst_vars
    exact⟨h,rfl,rfl,sm,sm⟩
   |cons=>exact h.elim
  |cons=>exact h.elim
 |cons e es ih =>
  intro l m c h xs ys hl hm hdx hdy;have go:∀ (s t:SV) (l' m':List SV) (b:Bool),l=s :: l'->m=t :: m'->(∀ u,Den w M β s u->fits e u)->(∀ u,Den w M β t u->fits e u)->(∀ u v,Den w M β s u->Den w M β t v->zu e u v=b)->eqSK es l' m' (λq=>c (b && q)) ->
   c (jm (e :: es) xs ys)/\xs.length=(e :: es).length/\ys.length=(e :: es).length/\(∀ (j:Nat) (k:EK) (x:Value),(e :: es)[j]? = some k->xs[j]? = some x->fits k x)/\(∀ (j:Nat) (k:EK) (y:Value),(e :: es)[j]? = some k->ys[j]? = some y->fits k y):=by
   rintro s t l' m' b rfl rfl hs ht hst hq
   cases xs with
   |nil=>simp at hl
   |cons x xs=>cases ys with
    |nil=>simp at hm
    |cons y ys =>
     have hx:=hdx 0 s x rfl rfl;have hy:=hdy 0 t y rfl rfl;obtain⟨h1,h2,h3,h4,h5⟩:=ih hq xs ys (by simpa using hl) (by simpa using hm) (λj s u a b=>hdx (j+1) s u (by simpa using a) (by simpa using b)) (λj s u a b=>hdy (j+1) s u (by simpa using a) (by simpa using b));refine⟨by simp only[jm,hst x y hx hy];exact h1,by simp[h2],by simp[h3],λj k z hj hz=>?_,λj k z hj hz=>?_⟩
     ·cases j with
      |zero=>simp at hj hz;subst_vars;exact hs _ hx
      |succ j=>exact h4 j k z (by simpa using hj) (by simpa using hz)
     ·cases j with
      |zero=>simp at hj hz;subst_vars;exact ht _ hy
      |succ j=>exact h5 j k z (by simpa using hj) (by simpa using hz)
  unfold eqSK at h;split at h
  ·cases ‹e :: es=[]›
  ·rename_i he;obtain⟨rfl,rfl⟩:=lz he;split at h
   ·rename_i hk1 hk2;have hk1:=vz hk1;have hk2:=vz hk2;subst hk1 hk2;exact go _ _ _ _ _ rfl rfl (λu hu=>by cases jh hu;rfl) (λu hu=>by cases jh hu;rfl) (λu v hu hv=>by cases jh hu;cases jh hv;rfl) h
   ·cases h
  ·rename_i he;obtain⟨rfl,rfl⟩:=lz he;obtain⟨p,h,hp⟩:=ja4 h;obtain⟨q,h,hq⟩:=ja4 h;exact go _ _ _ _ (p == q) rfl rfl (λu hu=>by cases hu with|d hu=>cases hp w M u hu;trivial) (λu hu=>by cases hu with|d hu=>cases hq w M u hu;trivial)
    (λu v hu hv=>by cases hu with|d hu=>cases hv with|d hv=>cases hp w M u hu;cases hq w M v hv;rfl) h
  ·rename_i he;obtain⟨rfl,rfl⟩:=lz he;exact go _ _ _ _ _ rfl rfl (λu hu=>by cases y9 hu;trivial) (λu hu=>by cases y9 hu;trivial) (λu v hu hv=>by cases y9 hu;cases y9 hv;simp[strV,zu,uv]) h
  ·cases h
theorem jj{x:DV}{v:Value}(h:Den w M β (.d x) v):Rd w M x v:=by cases h;assumption
theorem zi1{op:BinOp}{t:TypeId}{x y:Operand}{p q:DV}{u v:Value}(hu:Rd w M p u)(_hv:Rd w M q v):(eqGuard op t x y u v).run P w = .ok () w:=by
 cases hu <;> simp only[strV,eqGuard_at_int,eqGuard_at_bool,eqGuard_at_string,eqGuard_at_slice] <;> rfl
theorem zl7(d:Nat)(t e:TypeId)(p:Addr)(h:P.underlying t=some (.pointer e)):(Op.equalIn (d+1) t (.pointer (some p)) (.pointer none)).run P w = .ok false w:=by
 simp[Op.equalIn,run_underlying h]
theorem jz2(d:Nat)(t e:TypeId)(p:Option Addr)(h:P.underlying t=some (.pointer e)):(Op.equalIn (d+1) t (.pointer none) (.pointer p)).run P w = .ok p.isNone w:=by
 simp[Op.equalIn,run_underlying h]
theorem jz1[Dr](d:Nat)(t e:TypeId)(p q:Addr)(i:TypeInfo)(b:Bool)(h:P.underlying t=some (.pointer e))(hi:P.info? e=some i)(hz:i.size≠0)(hs:(sameAddr p q).run P w = .ok b w):(Op.equalIn (d+1) t (.pointer (some p)) (.pointer (some q))).run P w = .ok b w:=by
 simp[Op.equalIn,run_underlying h,run_sizeOf hi,hz,hs]
theorem zd6{t:TypeId}{u v:Option Addr}{b:Bool}(h:∀ d,(Op.equalIn (d+1) t (.pointer u) (.pointer v)).run P w = .ok b w)(op:BinOp)(x y:Operand) :
 (op = .eql->(do eqGuard op t x y (.pointer u) (.pointer v);binOp op t (.pointer u) (.pointer v):Sem Value).run P w = .ok (.bool b) w) /\
 (op = .neq->(do eqGuard op t x y (.pointer u) (.pointer v);binOp op t (.pointer u) (.pointer v):Sem Value).run P w = .ok (.bool (!b)) w):=by
 have e:(Op.equal t (.pointer u) (.pointer v)).run P w = .ok b w:=h 9999;refine⟨λho=>?_,λho=>?_⟩ <;> subst ho <;> simp[eqGuard,binOp,e]
def ji6(β:Env)(ks:List KB):Prop:=∀ (i j:Nat) (L L':Loc) (t t':TypeId) (l l':List SV),i≠j->ks[i]? = some (.cells t l)->ks[j]? = some (.cells t' l')->β i=some L->β j=some L'->L.b≠L'.b
def BoolD(x:DV)(b:Bool):Prop:=x = .bool b\/(x = .tt/\b=true)\/(x = .ff/\b=false)
theorem BoolD.rd{x:DV}{b:Bool}(h:BoolD x b)(w:World)(M:Nat->Prop):Rd w M x (.bool b):=by
 rcases h with rfl|⟨rfl,rfl⟩|⟨rfl,rfl⟩
 ·exact .bool _
 ·exact .tt
 ·exact .ff
theorem zu3{x:DV}{b:Bool}(hb:BoolD x b){K:SV->Prop}(h:jh6 x K):∃ s,K s/\∀ (w:World) (M:Nat->Prop) (β:Env),Den w M β s (.bool (!b)):=by
 rcases hb with rfl|⟨rfl,rfl⟩|⟨rfl,rfl⟩
 ·exact⟨_,h,λ_ _ _=>.d (.bool _)⟩
 ·exact⟨_,h,λ_ _ _=>.d .ff⟩
 ·exact⟨_,h,λ_ _ _=>.d .tt⟩
theorem ya8[Dr]{P:Program}(hB:∀ (i:Nat) (L:Loc) (k:KB),ks[i]? = some k->k≠.gone->β i=some L->∃ fp,KBat w M β L fp k)(hA:ji6 β ks){x y:SV}{c:DV->Prop}(h:qo5 ks x y c){u v:Value}(hu:Den w M β x u)(hv:Den w M β y v)
 {t e:TypeId} {i:TypeInfo} (ht:P.underlying t=some (.pointer e)) (hi:P.info? e=some i) (hz:i.size≠0):∃ dv b p q,c dv/\BoolD dv b/\u = .pointer p/\v = .pointer q/\∀ d,(Op.equalIn (d+1) t (.pointer p) (.pointer q)).run P w = .ok b w:=by
 unfold qo5 at h;split at h
 ·rename_i i' a';cases hu with
  |ptr _ _ L hL =>
  split at h
  ·cases hv;exact⟨_,false,_,_,h,.inr (.inr ⟨rfl,rfl⟩),rfl,rfl,λd=>zl7 d t e _ ht⟩
  ·rename_i j' b';cases hv with
   |ptr _ _ L' hL' =>
   split at h
   ·rename_i hij;cases jg hij;obtain rfl:L=L':=oq (hL.symm.trans hL');have key:∀ b,Nat.beq a' b'=b->∀ d,(Op.equalIn (d+1) t (.pointer (some ⟨L.b,a',none⟩)) (.pointer (some ⟨L.b,b',none⟩))).run P w = .ok b w:=λb hb d=>by
     refine jz1 d t e _ _ i _ ht hi hz ?_;simp only[sameAddr,beq_self_eq_true,if_true];show Result.ok _ _=_;cases b with
     |true=>simp[cy hb]
     |false =>
      have:a'≠b':=λe=>by subst e;rw [show Nat.beq a' a'=true from cz a'] at hb;cases hb
      simp[this]
    split at h
    ·rename_i hb;exact⟨_,true,_,_,h,.inr (.inl ⟨rfl,rfl⟩),rfl,rfl,key true hb⟩
    ·rename_i hb;exact⟨_,false,_,_,h,.inr (.inr ⟨rfl,rfl⟩),rfl,rfl,key false hb⟩
   ·rename_i hij;have hne:i'≠j':=λe=>by subst e;rw [show Nat.beq i' i'=true from cz i'] at hij;cases hij
    rw [jc] at h;split at h
    ·rename_i t1 l1 hg1;rw [jc] at h;split at h
     ·rename_i t2 l2 hg2;have k1:=qt hg1 sm;have k2:=qt hg2 sm;obtain⟨f1,hk1⟩:=j6 hB hL k1 sm;obtain⟨f2,hk2⟩:=j6 hB hL' k2 sm;have hb:=hA _ _ _ _ _ _ _ _ hne k1 k2 hL hL';cases hk1 with
      |cells _ _ v1 _ h1 =>
      cases hk2 with
      |cells _ _ v2 _ h2 =>
      exact⟨_,false,_,_,h,.inr (.inr ⟨rfl,rfl⟩),rfl,rfl,λd=>jz1 d t e _ _ i _ ht hi hz (run_sameAddr_other w (λe=>hb (congrArg Addr.block e)) h1 h2)⟩
     ·cases h
    ·cases h
  ·cases h
 ·cases hu;split at h
  ·cases hv;exact⟨_,true,_,_,h,.inr (.inl ⟨rfl,rfl⟩),rfl,rfl,λd=>jz2 d t e _ ht⟩
  ·cases hv;exact⟨_,false,_,_,h,.inr (.inr ⟨rfl,rfl⟩),rfl,rfl,λd=>jz2 d t e _ ht⟩
  ·cases h
 ·cases h
theorem xb2[Dr](hTT:TTok P TT)(hT:∀ x,Den w M β (val ts x) (a.eval x))(hB:∀ (i:Nat) (L:Loc) (k:KB),ks[i]? = some k->k≠.gone->β i=some L->∃ fp,KBat w M β L fp k)(hA:ji6 β ks){op:BinOp}{t t':TypeId}{x y:Operand}(ho:o.op = .binOp op t x y t')(h:pev P TT ts ks (.binOp op t x y t') K):Ran P o a w M β K:=by
 unfold Ran;simp only[execOp,ho];simp only [pev,qq] at h;have hv:=hT x;generalize a.eval x=av at hv ⊢;have hw:=hT y;generalize a.eval y=bv at hw ⊢;split at h
 ·rename_i p q hx hy;rw [hx] at hv;rw [hy] at hw;split at h
  ·rename_i size bytes agg zero desc eqk ht;obtain⟨info,d,z,hi,hu,_,_,_,_,_,_,_,_,hd⟩:=qk hTT ht;obtain⟨r,z,hK,hr,hd'⟩:=xf3 (β:=β) hu hd (jj hv) (jj hw) h;refine⟨r,z,hK,?_,hd'⟩;simp[zi1 (jj hv) (jj hw),hr]
  ·cases h
 ·rename_i l m hx hy;rw [hx] at hv;rw [hy] at hw;cases hv with
  |agg _ xs hlx hdx _ =>
  cases hw with
  |agg _ ys hly hdy _ =>
  split at h
  ·rename_i size bytes agg zero desc e es ht;have heq:=(hTT _ _ ht).eqk sm w xs ys;simp only at heq;split at h
   ·obtain⟨hK,h1,h2,h3,h4⟩:=yo2 (w:=w) (M:=M) (β:=β) h xs ys hlx hly hdx hdy;obtain⟨hr,hg⟩:=heq h1 h2 h3 h4;refine⟨_,_,hK,?_,.d (.bool _)⟩;have:(eqGuard .eql t x y (.agg xs.toArray) (.agg ys.toArray)).run P w = .ok () w:=by simp[eqGuard,hg]
    simp[this,binOp,hr]
   ·obtain⟨hK,h1,h2,h3,h4⟩:=yo2 (w:=w) (M:=M) (β:=β) h xs ys hlx hly hdx hdy;obtain⟨hr,hg⟩:=heq h1 h2 h3 h4;refine⟨_,_,hK,?_,.d (.bool _)⟩;have:(eqGuard .neq t x y (.agg xs.toArray) (.agg ys.toArray)).run P w = .ok () w:=by simp[eqGuard,hg]
    simp[this,binOp,hr]
   ·cases h
  ·cases h
 ·rename_i b hx hy;rw [hx] at hv;rw [hy] at hw;split at h
  ·rename_i size bytes agg zero eqk ht;obtain⟨info,d,z,hi,hu,_,_,_,_,_,_,_,_,hd⟩:=qk hTT ht;obtain⟨ms,rfl⟩:=hd;cases hw;have hq1:∀ (d:Nat) tp v,(Op.equalIn (d+1) t (.iface tp v) .nilIface).run P w = .ok false w:=λd tp v=>by simp[Op.equalIn,run_underlying hu]
   have hq2:∀ (d:Nat),(Op.equalIn (d+1) t .nilIface .nilIface).run P w = .ok true w:=λd=>by simp[Op.equalIn,run_underlying hu]
   have e1:∀ tp v,(Op.equal t (.iface tp v) .nilIface).run P w = .ok false w:=λtp v=>hq1 9999 tp v
   have e2:(Op.equal t .nilIface .nilIface).run P w = .ok true w:=hq2 9999;cases hv with
   |err _ _ h1 h2 =>
   split at h
   ·rename_i cv;cases b with
    |true =>
     obtain⟨tp,xv,rfl⟩:=h1 rfl;split at h
     ·exact⟨_,.bool false,h,by simp[eqGuard,binOp,e1],.d (.bool _)⟩
     ·exact⟨_,.bool true,h,by simp[eqGuard,binOp,e1],.d (.bool _)⟩
     ·cases h
    |false =>
     have:=h2 rfl;subst this;split at h
     ·exact⟨_,.bool true,h,by simp[eqGuard,binOp,e2],.d (.bool _)⟩
     ·exact⟨_,.bool false,h,by simp[eqGuard,binOp,e2],.d (.bool _)⟩
     ·cases h
   ·cases h
  ·cases h
 ·rename_i tp xv hx hy;rw [hx] at hv;rw [hy] at hw;split at h
  ·rename_i size bytes agg zero eqk ht;obtain⟨info,d,z,hi,hu,_,_,_,_,_,_,_,_,hd⟩:=qk hTT ht;obtain⟨ms,rfl⟩:=hd;cases hw;cases hv;have hq1:∀ (d:Nat) tp v,(Op.equalIn (d+1) t (.iface tp v) .nilIface).run P w = .ok false w:=λd tp v=>by simp[Op.equalIn,run_underlying hu]
   have e1:∀ tp v,(Op.equal t (.iface tp v) .nilIface).run P w = .ok false w:=λtp v=>hq1 9999 tp v
   split at h
   ·rename_i cv;split at h
    ·exact⟨_,.bool false,h,by simp[eqGuard,binOp,e1],.d (.bool _)⟩
    ·exact⟨_,.bool true,h,by simp[eqGuard,binOp,e1],.d (.bool _)⟩
    ·cases h
   ·cases h
  ·cases h
 ·rename_i i hx hy;rw [hx] at hv;rw [hy] at hw;split at h
  ·rename_i size bytes agg zero kt et eqk ht;obtain⟨info,d,z,hi,hu,_,_,_,_,_,_,_,_,hd⟩:=qk hTT ht;cases hd;cases hw;cases hv with
   |map _ L hL =>
    have e1:(Op.equal t (.map (some L.b)) (.map none)).run P w = .ok false w:=by
     have:∀ d:Nat,(Op.equalIn (d+1) t (.map (some L.b)) (.map none)).run P w = .ok false w:=λd=>by simp[Op.equalIn,run_underlying hu]
     exact this 9999
    split at h
    ·exact⟨_,.bool false,h,by simp[eqGuard,binOp,e1],.d .ff⟩
    ·exact⟨_,.bool true,h,by simp[eqGuard,binOp,e1],.d .tt⟩
    ·cases h
  ·cases h
 ·rename_i i off n c f' hx hy;rw [hx] at hv;rw [hy] at hw;split at h
  ·rename_i size bytes agg zero e eqk ht;obtain⟨info,d,z,hi,hu,_,_,_,_,_,_,_,_,hd⟩:=qk hTT ht;cases hd;cases jj hw;cases hv with
   |cs _ _ _ _ L hL hnc =>
    split at h
    ·refine⟨_,.bool false,h,?_,.d .ff⟩;simp[eqGuard,binOp,w5 t e (some _) _ _ hu]
    ·refine⟨_,.bool true,h,?_,.d .tt⟩;simp[eqGuard,binOp,w5 t e (some _) _ _ hu]
    ·cases h
  ·cases h
 ·rename_i i f' hx hy;rw [hx] at hv;rw [hy] at hw;split at h
  ·rename_i size bytes agg zero e eqk ht;obtain⟨info,d,z,hi,hu,_,_,_,_,_,_,_,_,hd⟩:=qk hTT ht;cases hd;cases jj hw;rw [jc] at h;cases hk:getB ks i with
   |row e' sz n z f =>
    rw [hk] at h;simp only at h;have hks:=qt hk sm;have hnn:∀ L:Loc,β i=some L->(L.nil=true->z≠.no/\n=0)/\(L.nil=false->z = .iff->0<n):=λL hL=>by
     obtain⟨fp,hkb⟩:=hB i L _ hks sm hL;cases hkb with
     |rowNil _ _ _ _ h0 h1 h2 h3 h4=>exact ⟨λ_=>⟨h4,rfl⟩,λh=>by rw [h1] at h;cases h⟩
     |row _ _ _ _ _ vs fz h0 h1 h2 hn h3=>exact ⟨λh=>(by rw [h1] at h;cases h),λ_=>h3⟩
    cases hv with
    |allNil _ L hL hnil =>
     obtain⟨hz,rfl⟩:=(hnn L hL).1 hnil;split at h
     ·exact absurd rfl hz
     ·split at h
      ·refine⟨_,.bool true,h,?_,.d (.bool true)⟩;simp[eqGuard,binOp,w5 t e none 0 0 hu]
      ·refine⟨_,.bool false,h,?_,.d (.bool false)⟩;simp[eqGuard,binOp,w5 t e none 0 0 hu]
      ·cases h
     ·cases h
    |all _ L hL hnil =>
     have hpos:=(hnn L hL).2 hnil;split at h
     ·split at h
      ·refine⟨_,.bool false,h,?_,.d .ff⟩;simp[eqGuard,binOp,w5 t e (some _) _ _ hu]
      ·refine⟨_,.bool true,h,?_,.d .tt⟩;simp[eqGuard,binOp,w5 t e (some _) _ _ hu]
      ·cases h
     ·have hb:Nat.beq n 0=false:=by
       have:=hpos rfl;cases n with
       |zero=>omega
       |succ n=>rfl
      rw [hb] at h;split at h
      ·refine⟨_,.bool false,h,?_,.d (.bool false)⟩;simp[eqGuard,binOp,w5 t e (some _) _ _ hu]
      ·refine⟨_,.bool true,h,?_,.d (.bool true)⟩;simp[eqGuard,binOp,w5 t e (some _) _ _ hu]
      ·cases h
     ·cases h
   |_=>rw [hk] at h;exact h.elim
  ·cases h
 ·split at h
  ·rename_i size bytes agg zero e eqk ht;obtain⟨info,d,z,hi,hu,_,_,_,_,_,_,_,_,hd⟩:=qk hTT ht;cases hd;split at h
   ·rename_i size' bytes' agg' zero' desc' eqk' hte;obtain⟨infoe,de,ze,hie,hue,hsze,_⟩:=qk hTT hte;split at h
    ·rename_i hble;have hz:infoe.size≠0:=by have:=yh hble;simp only at hsze;omega
     split at h
     ·obtain⟨dv,b,p,q,hc,hbd,rfl,rfl,he⟩:=ya8 (P:=P) hB hA h hv hw hu hie hz;refine⟨_,_,hc,?_,.d (hbd.rd _ _)⟩;have:=(zd6 he .eql x y).1 rfl;simp only [p8] at this ⊢;rw[this];rfl
     ·obtain⟨dv,b,p,q,hc,hbd,rfl,rfl,he⟩:=ya8 (P:=P) hB hA h hv hw hu hie hz;obtain⟨s,hK,hs⟩:=zu3 hbd hc;refine⟨s,_,hK,?_,hs _ _ _⟩;have:=(zd6 he .neq x y).2 rfl;simp only [p8] at this ⊢;rw[this];rfl
     ·cases h
    ·cases h
   ·cases h
  ·cases h
theorem xk0[Dr](hT:∀ x,Den w M β (val ts x) (a.eval x)){op:UnOp}{t:TypeId}{x:Operand}(ho:o.op = .unOp op t x)(h:pev P TT ts ks (.unOp op t x) K):Ran P o a w M β K:=by
 unfold Ran;simp only[execOp,ho];simp only [pev,qq] at h;have hv:=hT x;generalize a.eval x=av at hv ⊢;split at h
 ·rename_i hx;rw [hx] at hv;cases jj hv;exact ⟨_,_,h,by simp [Op.unary],.d .ff⟩
 ·rename_i hx;rw [hx] at hv;cases jj hv;exact ⟨_,_,h,by simp [Op.unary],.d .tt⟩
 ·rename_i b hx;rw [hx] at hv;cases jj hv;exact ⟨_,_,h,by simp [Op.unary],.d (.bool _)⟩
 ·rename_i k n hx;rw [hx] at hv;cases jj hv;exact ⟨_,_,h,by simp [Op.unary,Op.intArith],.d (.int _ _)⟩
 ·rename_i k n hx;rw [hx] at hv;cases jj hv;exact ⟨_,_,h,by simp [Op.unary,intBits_xor],.d (.int _ _)⟩
 ·cases h
end
end
section
section
variable{P:Program}{TT:Nat->Option TI}{ts:List SV}{ks:List KB}{w:World}{M:Nat->Prop}{β:Env}{a:Act}{K:SV->Prop}{o:Oper}
theorem zj2(vs:List Value)(bs:Ls)(hl:vs.length=bs.length)(h:∀ (j:Nat) (v:Value) (b:UInt8),vs[j]? = some v->bs[j]? = some b->∃ x:Int,v = .int .u8 x/\UInt8.ofNat x.toNat=b) :
 ∀ s:ByteArray,(forIn vs s (λ(c:Value) (s:ByteArray)=>match c with
  | .int .u8 n=>(pure (ForInStep.yield (s.push (UInt8.ofNat n.toNat))):Sem (ForInStep ByteArray))
  |_=>do
   stuck "bytesToString: byte expected"
   pure (ForInStep.yield s)):Sem ByteArray).run P w = .ok (s++⟨bs.toArray⟩) w:=by
 induction vs generalizing bs with
 |nil =>
  intro s;have:bs=[]:=dq (by simpa using hl.symm);subst this;have:s++(⟨#[]⟩:ByteArray)=s:=by apply ByteArray.ext;simp
  simp[this]
 |cons v vs ih =>
  intro s;cases bs with
  |nil=>simp at hl
  |cons b bs =>
   obtain⟨x,rfl,hx⟩:=h 0 v b rfl rfl;simp only[List.forIn_cons,p8];simp only[o6,ot];rw[ih bs (by simpa using hl) (λj v b a c=>h (j+1) v b (by simpa using a) (by simpa using c)),hx];congr 1;apply ByteArray.ext;simp[ByteArray.push]
theorem jw6[Dr](ad:Addr)(n cap:Nat)(vs:List Value)(bs:Ls)(hl:vs.length=bs.length)(hn:vs.length=n)(hc:∀ (j:Nat) (u:Value),vs[j]? = some u->w.cell? (ad.add j)=some u)
 (h:∀ (j:Nat) (v:Value) (b:UInt8),vs[j]? = some v->bs[j]? = some b->∃ x:Int,v = .int .u8 x/\UInt8.ofNat x.toNat=b) :
 (Conv.bytesToString (.slice (some ad) n cap)).run P w = .ok (strV bs) w:=by
 have hf:=zj2 (P:=P) (w:=w) vs bs hl h ByteArray.empty;simp only[Conv.bytesToString,p8,jx7 ad vs n hn hc,ot];rw[<-Array.forIn_toList];simp only[r7];have:(ByteArray.empty++⟨bs.toArray⟩:ByteArray)=⟨bs.toArray⟩:=by apply ByteArray.ext;simp[ByteArray.empty,ByteArray.emptyWithCapacity];rfl
 rw [this] at hf;exact(congrArg (λr=>Result.andThen r _) hf).trans rfl
theorem jf7{k:IntKind}{n:Int}{v:Value}(h:Rd w M (.int k n) v):v = .int k n:=by cases h;rfl
theorem qy3{n:Nat}{f:Nat->List DV}(h:jd3 n f)(j:Nat)(b:UInt8)(hb:(j5 n f)[j]? = some b):j<n/\∃ x:Int,f j=[.int .u8 x]/\UInt8.ofNat x.toNat=b:=by
 unfold j5 at hb;rw [mw] at hb;rcases ox j n with hj|hj
 ·rw [c8 hj] at hb;obtain⟨x,hx⟩:=h j hj;refine⟨hj,x,hx,?_⟩;simp [hx] at hb;exact hb
 ·rw [g8 (by simpa using hj)] at hb;cases hb
theorem jq3[Dr]{b e:Nat}{vs:Array Value}{fz:Nat × Nat}(hb:w.heap[b]? = some (.cells vs e fz))(off n cap:Nat)(bs:Ls)(hlen:bs.length=n)(h:∀ (j:Nat) (b':UInt8),bs[j]? = some b'->∃ x:Int,vs[off+j]? = some (.int .u8 x)/\UInt8.ofNat x.toNat=b') :
 (Conv.bytesToString (.slice (some ⟨b,off,none⟩) n cap)).run P w = .ok (strV bs) w:=by
 refine jw6 (P:=P) (w:=w) ⟨b,off,none⟩ n cap ((List.range n).map λj=>vs[off+j]?.getD undef) bs (by simp[hlen]) sm (λj v hv=>?_) (λj v b' hv hb'=>?_)
 ·obtain⟨hj,rfl⟩:=wz hv;obtain⟨x,hx,_⟩:=h j _ (pp om);rw[show(⟨b,off,none⟩:Addr).add j=⟨b,off+j,none⟩ from by unfold Addr.add;split <;> simp_all];simp[World.cell?,hb,hx]
 ·obtain⟨hj,rfl⟩:=wz hv;obtain⟨x,hx,hxb⟩:=h j b' hb';exact⟨x,by simp[hx],hxb⟩
theorem zh8(xs:List Int):(w8 xs).length=xs.length:=by
 induction xs with
 |nil=>rfl
 |cons x xs ih=>simp[w8,ih]
theorem zm4{xs:List Int}{j:Nat}{b:UInt8}(h:(w8 xs)[j]? = some b):∃ x,xs[j]? = some x/\UInt8.ofNat x.toNat=b:=by
 induction xs generalizing j with
 |nil=>simp [w8] at h
 |cons x xs ih=>cases j with
  |zero=>simp [w8] at h;exact ⟨x,rfl,h⟩
  |succ j=>simpa using ih (by simpa[w8] using h)
theorem zo3[Dr](hTT:TTok P TT)(hT:∀ x,Den w M β (val ts x) (a.eval x))(hB:∀ (i:Nat) (L:Loc) (k:KB),ks[i]? = some k->k≠.gone->β i=some L->∃ fp,KBat w M β L fp k){src dst:TypeId}{x:Operand}(ho:o.op = .convert src dst x)(h:pev P TT ts ks (.convert src dst x) K):Ran P o a w M β K:=by
 unfold Ran;simp only[execOp,ho];simp only [pev,qq] at h;have hv:=hT x;generalize a.eval x=av at hv ⊢;split at h
 ·cases h
 ·rename_i size bytes agg zero ds eqk hts;split at h
  ·rename_i size' bytes' agg' zero' k eqk' htd;obtain⟨info,d,z,hi,hu,_⟩:=qk hTT hts;obtain⟨info',d',z',hi',hu',_,_,_,_,_,_,_,_,hd'⟩:=qk hTT htd;cases hd';split at h
   ·rename_i k' n hx;rw [hx] at hv;cases jh hv;refine⟨_,.int k (k.wrap n),h,?_,.d (.int _ _)⟩;simp[convert,run_underlying hu,run_underlying hu',Conv.intToInt]
   ·cases h
  ·rename_i size' bytes' agg' zero' eqk' htd;split at h
   ·rename_i s hx;rw [hx] at hv;cases y9 hv;obtain⟨info,d,z,hi,hu,_⟩:=qk hTT hts;obtain⟨info',d',z',hi',hu',_,_,_,_,_,_,_,_,hd'⟩:=qk hTT htd;cases hd';refine⟨_,strV s,h,?_,.d (.str _)⟩;simp[convert,run_underlying hu,run_underlying hu',strV]
   ·rename_i nil n f hx;rw [hx] at hv;split at h
    ·rename_i e;split at h
     ·rename_i size2 bytes2 agg2 zero2 eqk2 hte;obtain⟨hby,h⟩:=h;obtain⟨info,d,z,hi,hu,_,_,_,_,_,_,_,_,hd⟩:=qk hTT hts;obtain⟨info',d',z',hi',hu',_,_,_,_,_,_,_,_,hd'⟩:=qk hTT htd;obtain⟨info2,d2,z2,hi2,hu2,_,_,_,_,_,_,_,_,hd2⟩:=qk hTT hte;cases hd;cases hd';cases hd2;cases jj hv with
      |nil =>
       refine⟨_,strV (j5 0 f),h,?_,.d (.str _)⟩;simp[convert,run_underlying hu,run_underlying hu',run_underlying hu2,Conv.bytesToString,strV,j5];rfl
      |sl _ _ _ ad cap u hcap hblk hlen hcell hrd =>
       refine⟨_,strV (j5 n f),h,?_,.d (.str _)⟩;have hb:=jw6 (P:=P) (w:=w) ad n cap ((List.range n).map λi=>u i 0) (j5 n f) (by simp[j5]) sm (λj v hv=>by
        obtain⟨hj,rfl⟩:=wz hv;obtain⟨x,hx⟩:=hby j hj;have:=hcell j 0 (.int .u8 x) hj (by simp[hx]);simpa using this) (λj v b hv hb=>by
        obtain⟨hj,rfl⟩:=wz hv;obtain⟨_,x,hx,hxb⟩:=qy3 hby j b hb;have:=hrd j 0 (.int .u8 x) hj (by simp[hx]);exact⟨x,jf7 this,hxb⟩)
       simp[convert,run_underlying hu,run_underlying hu',run_underlying hu2,hb]
     ·cases h
    ·cases h
   ·rename_i i off n c hx;rw [hx] at hv;cases hv with
    |cs _ _ _ _ L hbi hnc =>
    split at h
    ·rename_i e;split at h
     ·rename_i size2 bytes2 agg2 zero2 eqk2 hte;rw [jc] at h;split at h
      ·rename_i t' l hg;split at h
       ·rename_i hble;rw [zx] at hble;have hble:=yh hble;rw [qf0,qe3] at h;obtain⟨xs,hxs,hK⟩:=ja2 h;obtain⟨info,d,z,hi,hu,_,_,_,_,_,_,_,_,hd⟩:=qk hTT hts;obtain⟨info',d',z',hi',hu',_,_,_,_,_,_,_,_,hd'⟩:=qk hTT htd;obtain⟨info2,d2,z2,hi2,hu2,_,_,_,_,_,_,_,_,hd2⟩:=qk hTT hte;cases hd;cases hd';cases hd2;obtain⟨fp',hk⟩:=j6 hB hbi (qt hg sm) sm;cases hk with
        |cells _ _ vs hfp hb hl hd h1 =>
         have hxl:xs.length=n:=by
          have:=congrArg List.length hxs;simp at this;omega
         refine⟨_,strV (w8 xs),hK,?_,.d (.str _)⟩;have hb':=jq3 (P:=P) hb off n c (w8 xs) (by rw[zh8,hxl]) (λj b' hj=>by
          obtain⟨x,hx,hxb⟩:=zm4 hj;have hj':j<n:=by have:=(p6.1 hx).1;omega
          refine⟨x,?_,hxb⟩;have h2:((l.drop off).take n)[j]? = some (.d (.int .u8 x)):=by rw[hxs];simp[hx]
          rw [lq,if_pos hj',m8] at h2;have hvs:vs[off+j]? = some (vs[off+j]' om):=mv om;rw[hvs,jh (hd _ _ _ h2 hvs)])
         simp[convert,run_underlying hu,run_underlying hu',run_underlying hu2,hb']
       ·cases h
      ·cases h
     ·cases h
    ·cases h
   ·rename_i i hx;rw [hx] at hv;split at h
    ·rename_i e;split at h
     ·rename_i size2 bytes2 agg2 zero2 eqk2 hte;rw [jc] at h;split at h
      ·rename_i e' n z f hg;obtain⟨hby,h⟩:=h;obtain⟨info,d,z',hi,hu,_,_,_,_,_,_,_,_,hd⟩:=qk hTT hts;obtain⟨info',d',z'',hi',hu',_,_,_,_,_,_,_,_,hd'⟩:=qk hTT htd;obtain⟨info2,d2,z2,hi2,hu2,_,_,_,_,_,_,_,_,hd2⟩:=qk hTT hte;cases hd;cases hd';cases hd2;refine⟨_,strV (j5 n f),h,?_,.d (.str _)⟩;cases hv with
       |allNil _ L hbi hnil =>
        obtain⟨fp',hk⟩:=j6 hB hbi (qt hg sm) sm;cases hk with
        |rowNil =>
         simp[convert,run_underlying hu,run_underlying hu',run_underlying hu2,Conv.bytesToString,strV,j5]
         rfl
        |row _ _ _ _ _ vs fz hfp hnil'=>rw [hnil] at hnil';cases hnil'
       |all _ L hbi hnil =>
        obtain⟨fp',hk⟩:=j6 hB hbi (qt hg sm) sm;cases hk with
        |rowNil _ _ _ _ _ hnil'=>rw [hnil] at hnil';cases hnil'
        |row _ _ _ _ _ vs fz hfp _ hLs hLn hzz hb hfz hvs hng hfl hr _ =>
         have hb':=jq3 (P:=P) hb 0 n L.c (j5 n f) (by simp[j5]) (λj b' hj=>by
          obtain⟨hjn,x,hx,hxb⟩:=qy3 hby j b' hj;have hlt:j<vs.size:=om
          refine⟨x,?_,hxb⟩;have:=hr j 0 (.int .u8 x) (vs[j]'hlt) hjn (by simp[hx]) sm;simp[hlt,jf7 this])
         simp[convert,run_underlying hu,run_underlying hu',run_underlying hu2,hLn,hb']
      ·cases h
     ·cases h
    ·cases h
   ·rename_i i lo n hx;rw [hx] at hv;split at h
    ·rename_i e;split at h
     ·rename_i size2 bytes2 agg2 zero2 eqk2 hte;rw [jc] at h;split at h
      ·rename_i e' m z f hg;obtain⟨hnm,hby,h⟩:=h;obtain⟨info,d,z',hi,hu,_,_,_,_,_,_,_,_,hd⟩:=qk hTT hts;obtain⟨info',d',z'',hi',hu',_,_,_,_,_,_,_,_,hd'⟩:=qk hTT htd;obtain⟨info2,d2,z2,hi2,hu2,_,_,_,_,_,_,_,_,hd2⟩:=qk hTT hte;cases hd;cases hd';cases hd2;refine⟨_,strV (j5 n (λj=>f (lo+j))),h,?_,.d (.str _)⟩;cases hv with
       |rowNil _ L hbi hnil =>
        simp[convert,run_underlying hu,run_underlying hu',run_underlying hu2,Conv.bytesToString,strV,j5]
        rfl
       |row _ _ _ off L hbi hnil hc ho' =>
        obtain⟨fp',hk⟩:=j6 hB hbi (qt hg sm) sm;cases hk with
        |rowNil _ _ _ _ _ hnil'=>rw [hnil] at hnil';cases hnil'
        |row _ _ _ _ _ vs fz hfp _ hLs hLn hzz hb hfz hvs hng hfl hr _ =>
         have hb':=jq3 (P:=P) hb off n (L.c - lo) (j5 n (λj=>f (lo+j))) (by simp[j5]) (λj b' hj=>by
          obtain⟨hjn,x,hx,hxb⟩:=qy3 hby j b' hj;have hlt:lo+j<vs.size:=om
          have hoff:off=lo:=by rw[ho' (.inl om),hLs,Nat.mul_one]
          refine⟨x,?_,hxb⟩;have:=hr (lo+j) 0 (.int .u8 x) (vs[lo+j]'hlt) om (by simp[hx]) sm;simp[hoff,hlt,jf7 this])
         simp[convert,run_underlying hu,run_underlying hu',run_underlying hu2,hb']
      ·cases h
     ·cases h
    ·cases h
   ·cases h
  ·cases h
theorem zo2[Dr](hT:∀ x,Den w M β (val ts x) (a.eval x)){x:Operand}{i:Nat}(ho:o.op = .extract x i)(h:pev P TT ts ks (.extract x i) K):Ran P o a w M β K:=by
 unfold Ran;simp only[execOp,ho];simp only [pev,qq] at h;have hv:=hT x;generalize a.eval x=av at hv ⊢;split at h
 ·rename_i l hx;rw [hx] at hv;split at h
  ·rename_i hlt;rw [zx] at hlt;have hlt:=yh hlt;rw [qe7] at h;cases hv with
   |tup _ vs hl hd =>
    obtain⟨u,hu,hd'⟩:=js7 hl hd i om;exact⟨_,u,h,by simp[Instr.extract,hu],hd'⟩
  ·cases h
 ·cases h
theorem qq4(l:List SV)(xs:List Operand):(vals l xs).length=xs.length:=by
 induction xs with
 |nil=>rfl
 |cons x xs ih=>simp[vals,ih]
theorem yp9(l:List SV)(xs:List Operand)(j:Nat):(vals l xs)[j]? = (xs[j]?).map (val l):=by
 induction xs generalizing j with
 |nil=>simp[vals]
 |cons x xs ih=>cases j <;> simp[vals,ih]
theorem zl1[Dr](hT:∀ x,Den w M β (val ts x) (a.eval x)){fn:Fn}{first caps:Array Operand}(ho:o.op = .makeFunc fn first caps)(h:pev P TT ts ks (.makeFunc fn first caps) K):Ran P o a w M β K:=by
 unfold Ran;simp only[execOp,ho];simp only [pev,qb2] at h;split at h
 ·rename_i f hf;have hf0:first = #[]:=by cases first;simp_all
  subst hf0;refine⟨_,.func (.func f) #[] (caps.toList.map a.eval).toArray,h,by simp[Instr.makeFunc];apply Array.ext';simp,.fn f _ _ (by simp[qq4]) (λj s u hs hu=>?_)⟩;rw [yp9] at hs;rw [mw] at hu;cases hc:caps.toList[j]? with
  |none=>rw [hc] at hs;cases hs
  |some x =>
   rw [hc] at hs hu;cases hs;cases hu;exact hT x
 ·cases h
theorem zl0[Dr](hT:∀ x,Den w M β (val ts x) (a.eval x)){x:Operand}(ho:o.op = .nilCheck x)(h:pev P TT ts ks (.nilCheck x) K):Ran P o a w M β K:=by
 unfold Ran;simp only[execOp,ho];simp only [pev,qq] at h;have hv:=hT x;generalize a.eval x=av at hv ⊢;split at h
 ·rename_i hx;rw [hx] at hv;cases hv with
  |ptr _ _ b hbi=>exact⟨_,_,h,sm,.ptr _ _ b hbi⟩
 ·rename_i hx;rw [hx] at hv;cases hv with
  |dptr _ _ ad u h1 h2 h3 h4=>exact⟨_,_,h,sm,.dptr _ _ ad u h1 h2 h3 h4⟩
 ·rename_i hx;rw [hx] at hv;cases hv with
  |rptr _ _ _ _ b hbi hj=>exact⟨_,_,h,sm,.rptr _ _ _ _ b hbi hj⟩
 ·rename_i f caps hx;rw [hx] at hv;cases hv with
  |fn _ _ vs hl hd=>exact⟨_,_,h,sm,.fn f caps vs hl hd⟩
 ·cases h
theorem zk7[Dr]{t:TypeId}(hu:P.underlying t=some .string)(s:Ls)(lo hi:Option Value)(l h:Nat)(hr:(Instr.sliceBounds false s.length s.length lo hi none).run P w = .ok (l,h,s.length) w) :
 (Instr.sliceAt t (strV s) lo hi none).run P w = .ok (strV ((s.drop l).take (h - l))) w:=by
 simp only[Instr.sliceAt,p8,run_underlying hu,ot,Instr.slice,strV,qb4,hr];simp only[s4,fx,if_false,o6,p8,hr,ot];rw[Lib.extract_eq]
theorem qb0{k:IntKind}{n:Int}{y:Nat}(c:BoundsCode)(h0:0<=n)(h1:n<=y):(Instr.sliceBound (.int k n) y c).run P w = .ok n.toNat w:=by
 simp[Instr.sliceBound,asIntOf,h0,h1]
def qg0(a:Act)(o:Option Operand)(d n:Int):Prop:=(o=none/\n=d)\/∃ x k,o=some x/\a.eval x = .int k n
theorem xy[Dr](hT:∀ x,Den w M β (val ts x) (a.eval x)){o:Option Operand}{d:Int}{c:Int->Prop}(h:yc ts o d c):∃ n,qg0 a o d n/\c n:=by
 unfold yc at h;split at h
 ·exact⟨d,.inl ⟨rfl,rfl⟩,h⟩
 ·rename_i x;rw [qq] at h;split at h
  ·rename_i k n hx;have:=hT x;rw [hx] at this;exact⟨n,.inr ⟨x,k,rfl,jh this⟩,h⟩
  ·cases h
theorem jk3[Dr](fl:Bool){len cap:Nat}(hlc:len<=cap){lo hi:Option Operand}{l h:Int}(hl:qg0 a lo 0 l)(hh:qg0 a hi len h)(h0:0<=l)(h1:l<=h)(h2:h<=len) :
 (Instr.sliceBounds fl len cap (lo.map a.eval) (hi.map a.eval) none).run P w = .ok (l.toNat,h.toNat,cap) w:=by
 rcases hl with⟨rfl,rfl⟩|⟨x,k,rfl,ex⟩ <;> rcases hh with⟨rfl,rfl⟩|⟨y,k',rfl,ey⟩
 ·simp[Instr.sliceBounds]
 ·simp only[br,l7,ey,Instr.sliceBounds,p8,o6,ot,qb0 (y:=cap) _ (show 0<=h from by omega) om];simp
 ·simp only[br,l7,ex,Instr.sliceBounds,p8,o6,ot,qb0 (y:=len) _ h0 om];simp
 ·simp only[l7,ex,ey,Instr.sliceBounds,p8,o6,ot,qb0 (y:=cap) _ (show 0<=h from by omega) om,qb0 (y:=h.toNat) _ h0 om]
theorem zm9[Dr](fl:Bool){len cap:Nat}{lo hi mx:Option Operand}{l h m d:Int}(hl:qg0 a lo 0 l)(hh:qg0 a hi len h)(hm:qg0 a mx d m)(hhs:hi.isSome=true)(hms:mx.isSome=true)(h0:0<=l)(h1:l<=h)(h2:h<=m)(h3:m<=cap) :
 (Instr.sliceBounds fl len cap (lo.map a.eval) (hi.map a.eval) (mx.map a.eval)).run P w = .ok (l.toNat,h.toNat,m.toNat) w:=by
 rcases hm with⟨rfl,_⟩|⟨z,k2,rfl,ez⟩
 ·cases hms
 rcases hh with⟨rfl,_⟩|⟨y,k',rfl,ey⟩
 ·cases hhs
 rcases hl with⟨rfl,rfl⟩|⟨x,k,rfl,ex⟩
 ·simp only[br,l7,ey,ez,Instr.sliceBounds,p8,o6,ot,qb0 (y:=cap) _ (show 0<=m from by omega) h3,qb0 (y:=m.toNat) _ (show 0<=h from by omega) om]
  rfl
 ·simp only[l7,ex,ey,ez,Instr.sliceBounds,p8,o6,ot,qb0 (y:=cap) _ (show 0<=m from by omega) h3,qb0 (y:=m.toNat) _ (show 0<=h from by omega) om,qb0 (y:=h.toNat) _ h0 om]
theorem xa8[Dr](hTT:TTok P TT)(hT:∀ x,Den w M β (val ts x) (a.eval x))(hB:∀ (i:Nat) (L:Loc) (k:KB),ks[i]? = some k->k≠.gone->β i=some L->∃ fp,KBat w M β L fp k){t:TypeId}{x:Operand}{lo hi mx:Option Operand}(ho:o.op = .slice t x lo hi mx)(h:pev P TT ts ks (.slice t x lo hi mx) K):Ran P o a w M β K:=by
 unfold Ran;simp only[execOp,ho];simp only [pev,qq] at h;have hv:=hT x;generalize a.eval x=av at hv ⊢;split at h
 ·rename_i mo;split at h
  ·rename_i size bytes agg zero e eqk ht;obtain⟨info,d,z,hi',hu,_,_,_,_,_,_,_,_,hd⟩:=qk hTT ht;cases hd;split at h
   ·cases h
   ·rename_i size' bytes' agg' zero' desc' eqk' hte;obtain⟨infoe,de,ze,hie,hue,hsze,_⟩:=qk hTT hte;simp only at hsze;split at h
    ·rename_i i hx;rw [hx] at hv;rw [jc] at h;split at h
     ·rename_i e' sz n z' f hg;split at h
      ·split at h
       ·rename_i hsz;cases jg hsz;obtain⟨l,hl,h⟩:=xy hT h;obtain⟨r,hr,h⟩:=xy hT h;obtain⟨m,hm,h⟩:=xy hT h;obtain⟨⟨hs,h0,h1,h2,h3,h4⟩,h⟩:=h;cases hv with
        |allNil _ L hbi hnil =>
         obtain⟨fp',hk⟩:=j6 hB hbi (qt hg sm) sm;cases hk with
         |rowNil _ _ _ _ _ _ _ _ hz=>exact absurd rfl hz
         |row _ _ _ _ _ vs fz hfp hnil'=>rw [hnil] at hnil';cases hnil'
        |all _ L hbi hnil =>
         obtain⟨fp',hk⟩:=j6 hB hbi (qt hg sm) sm;cases hk with
         |rowNil _ _ _ _ _ hnil'=>rw [hnil] at hnil';cases hnil'
         |row _ _ _ _ _ vs fz hfp _ hLs hLn hzz hb hfz hvs hng hfl hr' _ =>
          refine⟨_,.slice (some ⟨L.b,l.toNat * size',none⟩) (r - l).toNat (m - l).toNat,h,?_,.cs i _ _ _ L hbi om⟩;have hrun:(Instr.sliceAt t (.slice (some ⟨L.b,0,none⟩) L.n L.c) (lo.map a.eval) (hi.map a.eval) (some (a.eval mo))).run P w = .ok (.slice (some ⟨L.b,l.toNat * size',none⟩) (r.toNat - l.toNat) (m.toNat - l.toNat)) w:=by
           have hne:¬ m.toNat=l.toNat:=om
           have hb3:=zm9 (P:=P) (w:=w) (cap:=L.c) true hl (hLn ▸ hr) hm hs rfl h0 h1 h2 om;rw [l7] at hb3;simp[Instr.sliceAt,Instr.slice,run_underlying hu,hb3,run_sizeOf hie,hsze,hne,ym]
          have e1:(r - l).toNat=r.toNat - l.toNat:=om
          have e2:(m - l).toNat=m.toNat - l.toNat:=om
          rw[e1,e2];simp only[p8,l7,hrun,ot,o6]
       ·cases h
      ·cases h
     ·cases h
    ·cases h
  ·cases h
 ·split at h
  ·rename_i size bytes agg zero eqk ht;obtain⟨info,d,z,hi',hu,_,_,_,_,_,_,_,_,hd⟩:=qk hTT ht;cases hd;split at h
   ·rename_i s hx;rw [hx] at hv;cases y9 hv;obtain⟨l,hl,h⟩:=xy hT h;obtain⟨r,hr,h⟩:=xy hT h;obtain⟨⟨h0,h1,h2⟩,h⟩:=h;have:=zk7 (P:=P) (w:=w) hu s (lo.map a.eval) (hi.map a.eval) l.toNat r.toNat (jk3 false (pu _) hl hr h0 h1 h2);refine⟨_,_,h,?_,.d (.str _)⟩;simp[this,sub]
   ·cases h
  ·rename_i size bytes agg zero e eqk ht;obtain⟨info,d,z,hi',hu,_,_,_,_,_,_,_,_,hd⟩:=qk hTT ht;cases hd;split at h
   ·cases h
   ·rename_i size' bytes' agg' zero' desc' eqk' hte;obtain⟨infoe,de,ze,hie,hue,hsze,_⟩:=qk hTT hte;simp only at hsze;have hrun:∀ (ad:Option Addr) (len cap:Nat) (l r:Int),len<=cap->qg0 a lo 0 l->qg0 a hi len r->0<=l->l<=r->r<=len ->
     (Instr.sliceAt t (.slice ad len cap) (lo.map a.eval) (hi.map a.eval) none).run P w = .ok (.slice (if cap=l.toNat then ad else ad.map (·.add (l.toNat * size'))) (r.toNat - l.toNat) (cap - l.toNat)) w:=by
     intro ad len cap l r hlc hl hr h0 h1 h2;simp[Instr.sliceAt,Instr.slice,run_underlying hu,jk3 true hlc hl hr h0 h1 h2,run_sizeOf hie,hsze]
    split at h
    ·rename_i nl n sz f hx;rw [hx] at hv;split at h
     ·rename_i hsz;cases jg hsz;obtain⟨l,hl,h⟩:=xy hT h;obtain⟨r,hr,h⟩:=xy hT h;obtain⟨⟨h0,h1,h2⟩,h⟩:=h;cases jj hv with
      |nil =>
       have e1:l=0:=om
       have e2:r=0:=om
       subst e1 e2;exact⟨_,.slice none 0 0,h,by simp[hrun none 0 0 0 0 (pu _) hl hr h0 h1 h2],.d (.nil _ _)⟩
      |sl _ _ _ ad cap u hcap hblk hlen hcell hrd =>
       have er:(r - l).toNat=r.toNat - l.toNat:=om
       refine⟨_,.slice (some (if cap=l.toNat then ad else ad.add (l.toNat * size'))) (r - l).toNat (cap - l.toNat),h,?_,?_⟩
       ·simp only[p8,br,hrun (some ad) n cap l r hcap hl hr h0 h1 h2,ot,o6,er];by_cases hc:cap=l.toNat
        ·rw[if_pos hc,if_pos hc]
        ·rw[if_neg hc,if_neg hc];rfl
       ·by_cases hc:cap=l.toNat
        ·rw[if_pos hc,er,show r.toNat - l.toNat=0 from by omega];exact .d (.sl 0 _ _ ad _ u om (λe=>absurd e om) (λi hi=>absurd hi om) (λi j d hi=>absurd hi om) (λi j d hi=>absurd hi om))
        ·rw[if_neg hc,er];refine .d (.sl _ _ _ (ad.add (l.toNat * size')) _ (λi j=>u (l.toNat+i) j) om (λe=>?_) (λi hi=>hlen _ om) (λi j d hi hd=>?_) (λi j d hi hd=>hrd _ _ _ om hd))
         ·rw[qs6];exact hblk om
         ·rw[add_add,show l.toNat * size'+(i * size'+j)=(l.toNat+i) * size'+j from by rw[o9];omega];exact hcell _ _ _ om hd
     ·cases h
    ·rename_i i hx;rw [hx] at hv;rw [jc] at h;split at h
     ·rename_i e' sz n z' f hg;split at h
      ·rename_i hsz;cases jg hsz;obtain⟨l,hl,h⟩:=xy hT h;obtain⟨r,hr,h⟩:=xy hT h;obtain⟨⟨h0,h1,h2⟩,h⟩:=h;cases hv with
       |allNil _ L hbi hnil =>
        obtain⟨fp',hk⟩:=j6 hB hbi (qt hg sm) sm;cases hk with
        |rowNil =>
         have e1:l=0:=om
         have e2:r=0:=om
         subst e1 e2;exact⟨_,.slice none 0 0,h,by simp[hrun none 0 0 0 0 (pu _) hl hr om om om],by simpa using .rowNil i L hbi hnil⟩
        |row _ _ _ _ _ vs fz hfp hnil'=>rw [hnil] at hnil';cases hnil'
       |all _ L hbi hnil =>
        obtain⟨fp',hk⟩:=j6 hB hbi (qt hg sm) sm;cases hk with
        |rowNil _ _ _ _ _ hnil'=>rw [hnil] at hnil';cases hnil'
        |row _ _ _ _ _ vs fz hfp _ hLs hLn hzz hb hfz hvs hng hfl hr' _ =>
         have er:(r - l).toNat=r.toNat - l.toNat:=om
         refine⟨_,.slice (some ⟨L.b,if L.c=l.toNat then 0 else l.toNat * size',none⟩) (r - l).toNat (L.c - l.toNat),h,?_,.row i l.toNat _ _ L hbi hnil om (λhlt=>by rcases hlt with hlt|hlt;(rw[if_neg om,hLs]);(rw[hlt];simp))⟩;simp only[p8,br,hrun (some ⟨L.b,0,none⟩) L.n L.c l r om hl (hLn ▸ hr) h0 h1 om,ot,o6,er];by_cases hc:L.c=l.toNat
         ·rw[if_pos hc,if_pos hc]
         ·rw[if_neg hc,if_neg hc];simp[ym]
      ·cases h
     ·cases h
    ·rename_i i lo' n hx;rw [hx] at hv;rw [jc] at h;split at h
     ·rename_i e' sz m z' f hg;split at h
      ·rename_i hsz;cases jg hsz;obtain⟨l,hl,h⟩:=xy hT h;obtain⟨r,hr,h⟩:=xy hT h;obtain⟨⟨h0,h1,h2⟩,h⟩:=h;cases hv with
       |rowNil _ L hbi hnil =>
        have e1:l=0:=om
        have e2:r=0:=om
        subst e1 e2;exact⟨_,.slice none 0 0,h,by simp[hrun none 0 0 0 0 (pu _) hl hr om om om],by simpa using .rowNil i L hbi hnil⟩
       |row _ _ _ off L hbi hnil hc ho' =>
        obtain⟨fp',hk⟩:=j6 hB hbi (qt hg sm) sm;cases hk with
        |rowNil _ _ _ _ _ hnil'=>rw [hnil] at hnil';cases hnil'
        |row _ _ _ _ _ vs fz hfp _ hLs hLn hzz hb hfz hvs hng hfl hr' _ =>
         have er:(r - l).toNat=r.toNat - l.toNat:=om
         refine⟨_,.slice (some ⟨L.b,if L.c - lo'=l.toNat then off else off+l.toNat * size',none⟩) (r - l).toNat (L.c - (lo'+l.toNat)),h,?_,.row i (lo'+l.toNat) _ _ L hbi hnil om (λhlt=>by rcases hlt with hlt|hlt;(rw[if_neg om,ho' (.inl om),hLs,o9]);(rw[ho' (.inr om),hlt,show l.toNat=0 by omega,show lo'=0 by omega];simp))⟩;simp only[p8,br,hrun (some ⟨L.b,off,none⟩) n (L.c - lo') l r om hl hr h0 h1 om,ot,o6,er,Nat.sub_sub];by_cases hc:L.c - lo'=l.toNat
         ·rw[if_pos hc,if_pos hc]
         ·rw[if_neg hc,if_neg hc];simp[ym]
      ·cases h
     ·cases h
    ·rename_i i off n c hx;rw [hx] at hv;obtain⟨l,hl,h⟩:=xy hT h;obtain⟨r,hr,h⟩:=xy hT h;obtain⟨⟨h0,h1,h2,h3,h4⟩,h⟩:=h;cases hv with
     |cs _ _ _ _ L hbi hnc =>
      have er:(r - l).toNat=r.toNat - l.toNat:=om
      refine⟨_,.slice (some ⟨L.b,off+l.toNat * size',none⟩) (r - l).toNat (c - l.toNat),h,?_,.cs i _ _ _ L hbi om⟩;simp only[p8,br,hrun (some ⟨L.b,off,none⟩) n c l r h3 hl hr h0 h1 h2,ot,o6,er];by_cases hc:c=l.toNat
      ·have:l.toNat=0:=by rcases h4 with h4|h4 <;> omega
       rw[if_pos hc];simp[this]
      ·rw[if_neg hc];simp[ym]
    ·cases h
  ·rename_i size bytes agg zero n e eqk ht;obtain⟨info,d,z,hi',hu,_,_,_,_,_,_,_,_,hd⟩:=qk hTT ht;cases hd;split at h
   ·cases h
   ·rename_i size' bytes' agg' zero' desc' eqk' hte;obtain⟨infoe,de,ze,hie,hue,hsze,_⟩:=qk hTT hte;simp only at hsze;split at h
    ·rename_i i off hx;rw [hx] at hv;obtain⟨l,hl,h⟩:=xy hT h;obtain⟨r,hr,h⟩:=xy hT h;obtain⟨⟨h0,h1,h2,h4⟩,h⟩:=h;cases hv with
     |ptr _ _ L hbi =>
      have er:(r - l).toNat=r.toNat - l.toNat:=om
      refine⟨_,.slice (some ⟨L.b,off+l.toNat * size',none⟩) (r - l).toNat (n - l.toNat),h,?_,.cs i _ _ _ L hbi om⟩;have:(Instr.sliceAt t (.pointer (some ⟨L.b,off,none⟩)) (lo.map a.eval) (hi.map a.eval) none).run P w = .ok (.slice (some (if n=l.toNat then ⟨L.b,off,none⟩ else (⟨L.b,off,none⟩:Addr).add (l.toNat * size'))) (r.toNat - l.toNat) (n - l.toNat)) w:=by
       simp[Instr.sliceAt,Instr.sureAddr,run_underlying hu,jk3 false (pu n) hl hr h0 h1 h2,run_sizeOf hie,hsze]
      simp only[p8,br,this,ot,o6,er];by_cases hc:n=l.toNat
      ·have:l.toNat=0:=by rcases h4 with h4|h4 <;> omega
       rw[if_pos hc];simp[this]
      ·rw[if_neg hc];simp[ym]
    ·cases h
  ·cases h
end
end
section
section
variable{P:Program}{TT:Nat->Option TI}{ts:List SV}{ks:List KB}{w:World}{M:Nat->Prop}{β:Env}{a:Act}{K:SV->Prop}{o:Oper}
theorem qx3[Dr](l:List SV)(off:Nat)(vs:List SV):(putCells l off vs).length=l.length:=by
 induction vs generalizing l off with
 |nil=>cases l <;> rfl
 |cons v vs ih=>simp[putCells,ih,zw]
theorem ji9[Dr](l:List SV)(off:Nat)(vs:List SV)(j:Nat)(hin:off+vs.length<=l.length) :
 (putCells l off vs)[j]? = if off<=j/\j<off+vs.length then vs[j - off]? else l[j]?:=by
 induction vs generalizing l off with
 |nil =>
  have:putCells l off []=l:=by cases l <;> rfl
  rw[this];simp;intro _ _;omega
 |cons v vs ih =>
  simp only [pw] at hin;simp only[putCells,pw,zw];rw[ih (l.set off v) (off+1) (by simp;omega)];by_cases h1:off+1<=j/\j<off+1+vs.length
  ·rw[if_pos h1,if_pos om];rw[show j - off=(j - (off+1))+1 from by omega];simp
  ·rw[if_neg h1,m5];by_cases h2:off=j
   ·subst h2;rw[if_pos rfl,if_pos om,if_pos om];simp
   ·rw[if_neg h2,if_neg om]
theorem js6[Dr]{l vs:List SV}{cs us:List Value}{off:Nat}(hl:l.length=cs.length)(hv:vs.length=us.length)(hin:off+vs.length<=l.length)
 (hd:∀ (j:Nat) (s:SV) (u:Value),l[j]? = some s->cs[j]? = some u->Den w M β s u) (hd':∀ (j:Nat) (s:SV) (u:Value),vs[j]? = some s->us[j]? = some u->Den w M β s u) :
 (putCells l off vs).length=(jx cs.toArray off us).size/\∀ (j:Nat) (s:SV) (u:Value),(putCells l off vs)[j]? = some s->(jx cs.toArray off us)[j]? = some u->Den w M β s u:=by
 refine⟨by rw[qx3,qd1];simpa using hl,λj s u hs hu=>?_⟩;rw [ji9 _ _ _ _ hin] at hs;rw [ur _ _ _ _ (by simp;omega)] at hu;split at hs
 ·rename_i h1;rw [if_pos om] at hu;exact hd' _ _ _ hs hu
 ·rename_i h1;rw [if_neg om] at hu;exact hd _ _ _ hs (by simpa using hu)
theorem jj4[Dr]{cs:List Value}{us:List Value}{off:Nat}(hin:off+us.length<=cs.length)(h1:∀ u ∈ cs,u.oneCell'=true)(h2:∀ u ∈ us,u.oneCell'=true)(j:Nat)(u:Value)(hu:(jx cs.toArray off us)[j]? = some u):u.oneCell'=true:=by
 rw [ur _ _ _ _ (by simpa using hin)] at hu;split at hu
 ·exact h2 _ (ov hu)
 ·exact h1 _ (ov (by simpa using hu))
theorem zo9{b:Bool}{v:Value}(h1:b=true->∃ t x,v = .iface t x)(h2:b=false->v = .nilIface):v.oneCell'=true:=by
 cases b with
 |true=>obtain⟨t,x,rfl⟩:=h1 rfl;rfl
 |false=>rw[h2 rfl];rfl
theorem qa7[Dr]{s:SV}{k:List SV->Prop}(h:wb s k):k (cellsOf s)/\∀ v,Den w M β s v->(cellsOf s).length=v.cells.size/\(∀ (j:Nat) (s':SV) (u:Value),(cellsOf s)[j]? = some s'->v.cells[j]? = some u->Den w M β s' u)/\∀ u ∈ v.cells,u.oneCell'=true:=by
 have one:∀ v:Value,v.oneCell'=true->v.cells = #[v]:=λv hv=>by cases v <;> first|rfl|simp [Value.oneCell'] at hv
 have key:∀ v,Den w M β s v->cellsOf s=[s]->v.oneCell'=true->(cellsOf s).length=v.cells.size/\(∀ (j:Nat) (s':SV) (u:Value),(cellsOf s)[j]? = some s'->v.cells[j]? = some u->Den w M β s' u)/\∀ u ∈ v.cells,u.oneCell'=true:=by
  intro v hd hc hv;rw[hc,one v hv];refine⟨rfl,λj s' u hs hu=>?_,by simpa using hv⟩;cases j with
  |zero=>simp at hs hu;subst_vars;exact hd
  |succ j=>simp at hs
 unfold wb at h;split at h
 ·refine⟨h,λv hd=>?_⟩;cases hd with
  |agg l vs hl hd h1=>exact⟨by simpa[cellsOf,Value.cells] using hl,λj s' u hs hu=>hd j s' u hs (by simpa[Value.cells] using hu),by simpa[Value.cells] using h1⟩
 ·cases h
 ·cases h
 ·split at h
  ·rename_i x hx;refine⟨h,λv hd=>key v hd rfl ?_⟩;cases hd;exact hx
  ·cases h
 ·rename_i h1 h2 h3 h4;refine⟨?_,λv hd=>key v hd ?_ ?_⟩
  ·cases s <;> first|exact h|exact absurd rfl (h1 _)
  ·cases s <;> first|rfl|exact absurd rfl (h1 _)
  ·cases hd <;> first|rfl|exact qr4 ‹_›|exact zo9 ‹_› ‹_›|exact absurd rfl (h1 _)|exact absurd rfl (h2 _)|exact absurd rfl (h4 _)|exact absurd rfl h3
theorem jy1(us:List Value):∀ (cs:Array Value) (off k:Nat),(us.zipIdx k).foldl (λcs (p:Value × Nat)=>cs.setIfInBounds (off+p.2) p.1) cs=jx cs (off+k) us:=by
 induction us with
 |nil=>intro cs off k;rfl
 |cons u us ih =>
  intro cs off k;simp only[List.zipIdx_cons,List.foldl_cons,jx];rw[ih];rfl
theorem yg8[Dr](hTT:TTok P TT)(hT:∀ x,Den w M β (val ts x) (a.eval x)){fs:List (Nat × TypeId)}{place:Nat->Option (Nat × Nat)}
 (hp:∀ (i off:Nat) (ft:TypeId),fs[i]? = some (off,ft)->∃ fi,P.info? ft=some fi/\place i=some (off,fi.size)) :
 ∀ (parts:List (Nat × Operand)) (cs:List SV) (c:List SV->Prop) (vs:List Value),ww TT ts fs cs parts c->cs.length=vs.length ->
  (∀ (j:Nat) (s:SV) (u:Value),cs[j]? = some s->vs[j]? = some u->Den w M β s u)->(∀ u ∈ vs,u.oneCell'=true) ->
  ∃ (cs':List SV) (vs':List Value),c cs'/\Instr.fill place vs.toArray (parts.map λp=>(p.1,a.eval p.2))=some vs'.toArray/\cs'.length=vs'.length /\
   (∀ (j:Nat) (s:SV) (u:Value),cs'[j]? = some s->vs'[j]? = some u->Den w M β s u)/\(∀ u ∈ vs',u.oneCell'=true):=by
 intro parts;induction parts with
 |nil=>intro cs c vs h hl hd h1;exact⟨cs,vs,by simpa[ww] using h,rfl,hl,hd,h1⟩
 |cons p parts ih =>
  obtain⟨i,x⟩:=p;intro cs c vs h hl hd h1;simp only [ww] at h;split at h
  ·cases h
  ·rename_i off ft hf;rw [je7] at hf;obtain⟨fi,hfi,hpl⟩:=hp i off ft hf;split at h
   ·cases h
   ·rename_i ti hti;obtain⟨info,d,z,hi,hu,hsz,_⟩:=qk hTT hti;rw [hi] at hfi;obtain rfl:info=fi:=oq hfi;rw [qq] at h;obtain⟨h,hcells⟩:=qa7 (w:=w) (M:=M) (β:=β) h;obtain⟨c1,c2,c3⟩:=hcells _ (hT x);split at h
    ·rename_i hb1 hb2;rw [zx] at hb1 hb2;have hb1:=jg hb1;have hb2:=yh hb2;rw [qn7] at h;have c3':∀ u ∈ (a.eval x).cells.toList,u.oneCell'=true:=λu hu=>c3 u (by simpa using hu)
     obtain⟨d1,d2⟩:=js6 (w:=w) (M:=M) (β:=β) (off:=off) (us:=(a.eval x).cells.toList) hl (by simpa using c1) om hd (λj s u hs hu=>c2 j s u hs (by simpa using hu));obtain⟨cs',vs',hc,hfill,r1,r2,r3⟩:=ih _ c (jx vs.toArray off (a.eval x).cells.toList).toList h (by simpa using d1) (λj s u hs hu=>d2 j s u hs (by simpa using hu)) (λu hu=>by
      obtain⟨j,hj,rfl⟩:=mr.1 hu;exact jj4 (off:=off) (us:=(a.eval x).cells.toList) (by simp;omega) h1 c3' j _ sm)
     refine⟨cs',vs',hc,?_,r1,r2,r3⟩;simp only[bp,Instr.fill,hpl];have hs:(a.eval x).cells.size=info.size:=om
     rw[if_neg (by simp[hs];omega)];have hfold:=jy1 (a.eval x).cells.toList vs.toArray off 0;rw [d6] at hfold;have hz:(a.eval x).cells.zipIdx.foldl (λcs (x:Value × Nat)=>cs.setIfInBounds (off+x.2) x.1) vs.toArray=jx vs.toArray off (a.eval x).cells.toList:=by
      rw[<-hfold,<-sr];simp
     rw[hz];simpa using hfill
    ·cases h
theorem zo0{fields:List Field}(h:∀ f ∈ fields,∃ i,P.info? f.type=some i):∃ pl:List (Nat × Nat),fields.mapM (λf=>(P.info? f.type).map λi=>(f.offset,i.size))=some pl/\∀ (j:Nat) (f:Field) (i:TypeInfo),fields[j]? = some f->P.info? f.type=some i->pl[j]? = some (f.offset,i.size):=by
 induction fields with
 |nil=>exact⟨[],rfl,sm⟩
 |cons f fields ih =>
  obtain⟨i,hi⟩:=h f sm;obtain⟨pl,hpl,hg⟩:=ih (λg hg=>h g (by simp[hg]));refine⟨(f.offset,i.size) :: pl,by simp[List.mapM_cons,hi,hpl],λj g i' hj hi'=>?_⟩;cases j with
  |zero=>simp at hj;subst hj;rw [hi] at hi';cases hi';rfl
  |succ j=>simpa using hg j g i' (by simpa using hj) hi'
theorem xf5(n off size:Nat)(e:TypeId)(i o:Nat)(ft:TypeId)(h:(qq1 n off size e)[i]? = some (o,ft)):o=off+i * size/\ft=e:=by
 induction n generalizing off i with
 |zero=>simp [qq1] at h
 |succ n ih=>cases i with
  |zero=>simp [qq1] at h;exact ⟨by simp [h.1],h.2.symm⟩
  |succ i =>
   obtain⟨a,b⟩:=ih (off+size) i (by simpa[qq1] using h);exact⟨by rw[a,o9,l9];omega,b⟩
theorem xb1[Dr](hTT:TTok P TT)(hT:∀ x,Den w M β (val ts x) (a.eval x)){t:TypeId}{parts:Array (Nat × Operand)}(ho:o.op = .build t parts)(h:pev P TT ts ks (.build t parts) K):Ran P o a w M β K:=by
 unfold Ran;simp only[execOp,ho];simp only [pev] at h;split at h
 ·rename_i size bytes zero fs eqk ht;obtain⟨info,d,z,hi,hu,hsz,_,hz,hag,hzl,hzs,hzd,hz1,fields,rfl,hfsz,hfs⟩:=qk hTT ht;obtain⟨pl,hpl,hplg⟩:=zo0 (P:=P) (fields:=fields.toList) (λf hf=>by
   obtain⟨j,hj,rfl⟩:=mr.1 hf;have hj':j<fs.length:=by rw[<-hfsz];simpa using hj
   obtain⟨f,fi,hf,ho,hty,hfi,_⟩:=hfs j _ _ (pp hj');have:fields.toList[j]=f:=by
    have h2:fields[j]? = some (fields.toList[j]):=by simp at hj;simp [hj]
    rw [hf] at h2;exact(oq h2).symm
   rw[this,hty];exact⟨fi,hfi⟩)
  obtain⟨cs',vs',hK,hfill,r1,r2,r3⟩:=yg8 (w:=w) (M:=M) (β:=β) (a:=a) hTT hT (place:=λi=>pl.toArray[i]?) (λi off ft hf=>by
   obtain⟨f,fi,hf',hof,hty,hfi,_⟩:=hfs i off ft hf;refine⟨fi,hfi,?_⟩;have:=hplg i f fi (by simpa using hf') (by rw[hty];exact hfi);simpa[hof] using this) parts.toList zero _ z.cells.toList h (by simpa using hzl.symm) (λj s u hs hu=>hzd w M β j s u hs (by simpa using hu)) (λu hu=>by
   obtain⟨j,hj,rfl⟩:=mr.1 hu;exact hz1 j _ sm)
  refine⟨_,.agg vs'.toArray,hK,?_,.agg _ _ r1 r2 r3⟩;have hb:P.built t (parts.map λ(i,x)=>(i,a.eval x)).toList=some vs'.toArray:=by
   simp only[Program.built,hi,hu,hz,hpl];rw[<-hfill];simp
  simp[run_build w t _ _ hb]
 ·rename_i size bytes zero n e eqk ht;split at h
  ·rename_i size' bytes' agg' zero' desc' eqk' hte;obtain⟨info,d,z,hi,hu,hsz,_,hz,hag,hzl,hzs,hzd,hz1,hd⟩:=qk hTT ht;cases hd;obtain⟨infoe,de,ze,hie,hue,hsze,_⟩:=qk hTT hte;simp only at hsze;obtain⟨cs',vs',hK,hfill,r1,r2,r3⟩:=yg8 (w:=w) (M:=M) (β:=β) (a:=a) hTT hT (place:=λi=>some (i * size',size')) (λi off ft hf=>by
    obtain⟨h1,h2⟩:=xf5 n 0 size' e i off ft hf;subst h2;exact⟨infoe,hie,by rw[h1,hsze];simp⟩) parts.toList zero _ z.cells.toList h (by simpa using hzl.symm) (λj s u hs hu=>hzd w M β j s u hs (by simpa using hu)) (λu hu=>by
    obtain⟨j,hj,rfl⟩:=mr.1 hu;exact hz1 j _ sm)
   refine⟨_,.agg vs'.toArray,hK,?_,.agg _ _ r1 r2 r3⟩;have hb:P.built t (parts.map λ(i,x)=>(i,a.eval x)).toList=some vs'.toArray:=by
    simp only[Program.built,hi,hu,hz,hie,hsze];rw[<-hfill];simp
   simp[run_build w t _ _ hb]
  ·cases h
 ·cases h
theorem ut{b:Nat}{es:Array MapEntry}{clock:Nat}(h:w.heap[b]? = some (.map es clock)):(getObj b).run P w = .ok (.map es clock) w:=by simp[getObj,Sem.run,h]
theorem zo4[Dr](hTT:TTok P TT)(hT:∀ x,Den w M β (val ts x) (a.eval x))(hB:∀ (i:Nat) (L:Loc) (k:KB),ks[i]? = some k->k≠.gone->β i=some L->∃ fp,KBat w M β L fp k){b:Builtin}{args:Array Operand}{argTypes:Array TypeId}(ho:o.op = .call ⟨.builtin b,args,argTypes⟩)(h:pev P TT ts ks (.call ⟨.builtin b,args,argTypes⟩) K):Ran P o a w M β K:=by
 unfold Ran;simp only[execOp,ho];simp only [pev,qq] at h;obtain⟨args⟩:=args;obtain⟨argTypes⟩:=argTypes;simp only at h;split at h
 ·rename_i x;split at h
  ·rename_i t;split at h
   ·cases h
   ·rename_i size bytes agg zero desc eqk ht;have hv:=hT x;split at h
    ·obtain⟨info,d,z,hi,hu,_,_,_,_,_,_,_,_,hd⟩:=qk hTT ht;cases hd;exact⟨_,_,h,by simp[resolve,invoke,builtin,Builtin.len_,run_underlying hu,goInt],.d (.int _ _)⟩
    ·obtain⟨info,d,z,hi,hu,_,_,_,_,_,_,_,_,hd⟩:=qk hTT ht;cases hd;split at h
     ·rename_i s hx;rw [hx] at hv;have ev:=y9 hv;exact⟨_,_,h,by simp[resolve,invoke,builtin,Builtin.len_,run_underlying hu,goInt,ev,strV,qb4],.d (.int _ _)⟩
     ·cases h
    ·obtain⟨info,d,z,hi,hu,_,_,_,_,_,_,_,_,hd⟩:=qk hTT ht;cases hd;split at h
     ·rename_i nil n sz f hx;rw [hx] at hv;have ev:∃ ad cap,a.eval x = .slice ad n cap:=by
       generalize a.eval x=av at hv;cases jj hv
       ·exact⟨_,_,rfl⟩
       ·exact⟨_,_,rfl⟩
      obtain⟨ad,cap,ev⟩:=ev;exact⟨_,_,h,by simp[resolve,invoke,builtin,Builtin.len_,run_underlying hu,goInt,ev],.d (.int _ _)⟩
     ·rename_i i hx;rw [hx] at hv;rw [jc] at h;split at h
      ·rename_i e' sz n z' f hg;have ev:∃ ad cap,a.eval x = .slice ad n cap:=by
        generalize a.eval x=av at hv;cases hv with
        |allNil _ L hbi hnil =>
         obtain⟨fp',hk⟩:=j6 hB hbi (qt hg sm) sm;cases hk with
         |rowNil=>exact⟨_,_,rfl⟩
         |row _ _ _ _ _ vs fz hfp hnil'=>rw [hnil] at hnil';cases hnil'
        |all _ L hbi hnil =>
         obtain⟨fp',hk⟩:=j6 hB hbi (qt hg sm) sm;cases hk with
         |rowNil _ _ _ _ _ hnil'=>rw [hnil] at hnil';cases hnil'
         |row _ _ _ _ _ vs fz hfp _ hLs hLn=>rw[hLn];exact⟨_,_,rfl⟩
       obtain⟨ad,cap,ev⟩:=ev;exact⟨_,_,h,by simp[resolve,invoke,builtin,Builtin.len_,run_underlying hu,goInt,ev],.d (.int _ _)⟩
      ·rename_i e' sz n f hg;have ev:∃ ad cap,a.eval x = .slice ad n cap:=by
        generalize a.eval x=av at hv;cases hv with
        |allNil _ L hbi hnil =>
         obtain⟨fp',hk⟩:=j6 hB hbi (qt hg sm) sm;cases hk with
         |rows _ _ _ _ vs fz hfp hnil'=>rw [hnil] at hnil';cases hnil'
        |all _ L hbi hnil =>
         obtain⟨fp',hk⟩:=j6 hB hbi (qt hg sm) sm;cases hk with
         |rows _ _ _ _ vs fz hfp _ hLs hLn=>rw[hLn];exact⟨_,_,rfl⟩
       obtain⟨ad,cap,ev⟩:=ev;exact⟨_,_,h,by simp[resolve,invoke,builtin,Builtin.len_,run_underlying hu,goInt,ev],.d (.int _ _)⟩
      ·cases h
     ·rename_i i lo n hx;rw [hx] at hv;have ev:∃ ad cap,a.eval x = .slice ad n cap:=by
       generalize a.eval x=av at hv;cases hv <;> exact⟨_,_,rfl⟩
      obtain⟨ad,cap,ev⟩:=ev;exact⟨_,_,h,by simp[resolve,invoke,builtin,Builtin.len_,run_underlying hu,goInt,ev],.d (.int _ _)⟩
     ·rename_i i off n c hx;rw [hx] at hv;have ev:∃ ad cap,a.eval x = .slice ad n cap:=by
       generalize a.eval x=av at hv;cases hv;exact⟨_,_,rfl⟩
      obtain⟨ad,cap,ev⟩:=ev;exact⟨_,_,h,by simp[resolve,invoke,builtin,Builtin.len_,run_underlying hu,goInt,ev],.d (.int _ _)⟩
     ·rename_i n hx;rw [hx] at hv;have ev:∃ ad cap,a.eval x = .slice ad n cap:=by
       generalize a.eval x=av at hv;cases hv;exact⟨_,_,rfl⟩
      obtain⟨ad,cap,ev⟩:=ev;exact⟨_,_,h,by simp[resolve,invoke,builtin,Builtin.len_,run_underlying hu,goInt,ev],.d (.int _ _)⟩
     ·cases h
    ·obtain⟨info,d,z,hi,hu,_,_,_,_,_,_,_,_,hd⟩:=qk hTT ht;cases hd;split at h
     ·rename_i i hx;rw [hx] at hv;rw [jc] at h;split at h
      ·rename_i eks ka ea l st hg;have ev:∃ L,a.eval x = .map (some L.b)/\β i=some L:=by
        generalize a.eval x=av at hv;cases hv with
        |map _ L hL=>exact⟨L,rfl,hL⟩
       obtain⟨L,ev,hL⟩:=ev;obtain⟨fp',hk⟩:=j6 hB hL (qt hg sm) sm;cases hk with
       |mapx _ _ _ _ _ es clock hfp hb hl _ =>
        refine⟨_,_,h,?_,.d (.int _ _)⟩;have hob:(getObj L.b).run P w = .ok (.map es clock) w:=ut hb;simp[resolve,invoke,builtin,Builtin.len_,run_underlying hu,goInt,hl,ev,hob]
      ·cases h
     ·rename_i hx;rw [hx] at hv;have ev:a.eval x = .map none:=by
       generalize a.eval x=av at hv;cases hv;rfl
      exact⟨_,_,h,by simp[resolve,invoke,builtin,Builtin.len_,run_underlying hu,goInt,ev],.d (.int _ _)⟩
     ·cases h
    ·cases h
  ·cases h
 ·rename_i x y;have hv:=hT x;have hw:=hT y;split at h
  ·rename_i k p k' q hx hy;rw [hx] at hv;rw [hy] at hw;have e1:=jh hv;have e2:=jh hw;split at h
   ·exact⟨_,_,h,by simp[resolve,invoke,builtin,Builtin.min_,Builtin.min2,e1,e2],.d (.int _ _)⟩
   ·cases h
  ·cases h
 ·rename_i x y z;have hv:=hT x;have hw:=hT y;have hu:=hT z;split at h
  ·rename_i k p k' q k'' s hx hy hz;rw [hx] at hv;rw [hy] at hw;rw [hz] at hu;have e1:=jh hv;have e2:=jh hw;have e3:=jh hu;split at h
   ·exact⟨_,_,h,by simp[resolve,invoke,builtin,Builtin.min_,Builtin.min2,e1,e2,e3],.d (.int _ _)⟩
   ·cases h
  ·cases h
 ·rename_i x y;have hv:=hT x;have hw:=hT y;split at h
  ·rename_i k p k' q hx hy;rw [hx] at hv;rw [hy] at hw;have e1:=jh hv;have e2:=jh hw;split at h
   ·exact⟨_,_,h,by simp[resolve,invoke,builtin,Builtin.max_,Builtin.max2,e1,e2],.d (.int _ _)⟩
   ·cases h
  ·cases h
 ·rename_i x;have hv:=hT x;split at h
  ·rename_i sz f hx;rw [hx] at hv;have ev:∃ cap,a.eval x = .slice none 0 cap:=by
    generalize a.eval x=av at hv;cases jj hv;exact⟨_,rfl⟩
   obtain⟨cap,ev⟩:=ev;exact⟨_,_,h,by simp[resolve,invoke,builtin,Lib.run_unsafeSliceData_nil,ev],.v _⟩
  ·rename_i i hx;rw [hx] at hv;rw [jc] at h;split at h
   ·rename_i e' f hg;generalize hav:a.eval x=av at hv;have ev:∃ m c,av = .slice none m c:=by
     cases hv with
     |allNil _ L hbi hnil=>exact⟨_,_,rfl⟩
     |all _ L hbi hnil =>
      obtain⟨fp',hk⟩:=j6 hB hbi (qt hg sm) sm;cases hk with
      |rowNil _ _ _ _ _ hnil'=>rw [hnil] at hnil';cases hnil'
      |row _ _ _ _ _ vs fz hfp _ _ _ hzz=>exact absurd (hzz rfl) om
    obtain⟨m,c,ev⟩:=ev;subst ev;exact⟨_,_,h,by simp[resolve,invoke,builtin,Lib.run_unsafeSliceData_nil,hav],.v _⟩
   ·rename_i e' n z' f hg;obtain⟨hn1,h⟩:=h;generalize hav:a.eval x=av at hv;cases hv with
    |allNil _ L hbi hnil =>
     obtain⟨fp',hk⟩:=j6 hB hbi (qt hg sm) sm;cases hk with
     |rowNil=>omega
     |row _ _ _ _ _ vs fz hfp hnil'=>rw [hnil] at hnil';cases hnil'
    |all _ L hbi hnil =>
     obtain⟨fp',hk⟩:=j6 hB hbi (qt hg sm) sm;cases hk with
     |rowNil _ _ _ _ _ hnil'=>rw [hnil] at hnil';cases hnil'
     |row _ _ _ _ _ vs fz hfp _ hLs hLn _ _ _ _ hnc =>
      refine⟨_,_,h,?_,.rptr i 0 0 1 L hbi om⟩;have hc0:L.c≠0:=om
      simp[resolve,invoke,builtin,hav,Lib.run_unsafeSliceData_row _ _ _ _ _ _ hc0]
   ·cases h
  ·cases h
 ·cases h
end
end
end Go.Eng
