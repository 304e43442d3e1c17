/-
  Part of the proof: lemmas about the functions that the row calls, and about the steps of a run. Conditions: those ahead of each lemma.
-/
import Derived.Test.YtnfoihdifohkeaaGreatRows
import Derived.KernelRfl
import Derived.Shelf.Strings.OnBuilder
import Derived.Shelf.Small.Strs
import Derived.Test.YtnfoihdifohkeaaGreatProg
import Derived.Test.YtnfoihdifohkeaaGreatM4
set_option linter.unusedVariables false
set_option linter.unusedSimpArgs false
set_option maxRecDepth 100000
set_option maxHeartbeats 64000000
namespace Go.Proofs.YtnfoihdifohkeaaGreat
open Go Go.Eng
def types:List (Nat × TI):=[
 (2,⟨1,8,false,[.d (.int .i64 0)],.int .i64,[]⟩),
 (3,⟨1,8,false,[.d (.int .i64 0)],.int .i64,[]⟩),
 (4,⟨1,1,false,[.d .ff],.bool,[]⟩),
 (5,⟨1,1,false,[.d (.int .u8 0)],.int .u8,[]⟩),
 (6,⟨1,1,false,[.d (.int .u8 0)],.int .u8,[]⟩),
 (7,⟨4,24,true,[.d (.int .i64 0),.d (.int .i64 0),.d .ff,.d (.int .u8 0)],.struct [(0,2),(1,3),(2,4),(3,6)],[.int .i64,.int .i64,.bool,.int .u8]⟩),
 (9,⟨1,16,false,[.d (.str [])],.str,[]⟩),
 (17,⟨1,8,false,[.v (.pointer none)],.ptr 242,[]⟩),
 (18,⟨1,8,true,[.v (.pointer none)],.struct [(0,17)],[]⟩),
 (19,⟨1,8,true,[.v (.pointer none)],.struct [(0,17)],[]⟩),
 (21,⟨1,4,false,[.d (.int .i32 0)],.int .i32,[]⟩),
 (22,⟨1,24,false,[nilS],.slice 40,[]⟩),
 (23,⟨1,24,false,[nilS],.slice 97,[]⟩),
 (24,⟨2,48,true,[nilS,nilS],.struct [(0,22),(1,23)],[]⟩),
 (25,⟨2,48,true,[nilS,nilS],.struct [(0,22),(1,23)],[]⟩),
 (27,⟨1,8,false,[.v .nilFunc],.other,[]⟩),
 (28,⟨1,8,false,[.d (.int .i64 0)],.int .i64,[]⟩),
 (29,⟨1,8,false,[.v .nilFunc],.other,[]⟩),
 (30,⟨1,8,false,[.v .nilFunc],.other,[]⟩),
 (32,⟨1,8,false,[.v .nilFunc],.other,[]⟩),
 (34,⟨1,2,false,[.d (.int .u16 0)],.int .u16,[]⟩),
 (35,⟨1,2,false,[.d (.int .u16 0)],.int .u16,[]⟩),
 (36,⟨3,24,true,[.d (.str []),.d (.int .u16 0),.d (.int .u16 0)],.struct [(0,9),(1,35),(2,34)],[.str,.int .u16,.int .u16]⟩),
 (37,⟨3,24,true,[.d (.str []),.d (.int .u16 0),.d (.int .u16 0)],.struct [(0,9),(1,35),(2,34)],[.str,.int .u16,.int .u16]⟩),
 (38,⟨1,24,false,[nilS],.slice 94,[]⟩),
 (39,⟨2,40,true,[.d (.str []),nilS],.struct [(0,9),(1,38)],[]⟩),
 (40,⟨2,40,true,[.d (.str []),nilS],.struct [(0,9),(1,38)],[]⟩),
 (41,⟨1,8,false,[.v .nilFunc],.other,[]⟩),
 (42,⟨1,1,false,[.d (.int .u8 0)],.int .u8,[]⟩),
 (43,⟨1,24,false,[nilS],.slice 47,[]⟩),
 (44,⟨1,4,false,[.d (.int .u32 0)],.int .u32,[]⟩),
 (45,⟨1,24,false,[nilS],.slice 9,[]⟩),
 (46,⟨4,48,true,[.d (.str []),.d (.int .u16 0),.d (.int .u32 0),nilS],.struct [(0,9),(1,35),(2,44),(3,45)],[]⟩),
 (47,⟨4,48,true,[.d (.str []),.d (.int .u16 0),.d (.int .u32 0),nilS],.struct [(0,9),(1,35),(2,44),(3,45)],[]⟩),
 (48,⟨8,104,true,[.d (.int .u8 0),nilS,.d (.str []),.d (.int .u16 0),.d (.int .u32 0),nilS,.d (.str []),.d (.int .u32 0)],.struct [(0,42),(1,43),(2,47),(6,9),(7,44)],[]⟩),
 (49,⟨8,104,true,[.d (.int .u8 0),nilS,.d (.str []),.d (.int .u16 0),.d (.int .u32 0),nilS,.d (.str []),.d (.int .u32 0)],.struct [(0,42),(1,43),(2,47),(6,9),(7,44)],[]⟩),
 (50,⟨1,8,false,[.v .nilFunc],.other,[]⟩),
 (51,⟨1,24,false,[nilS],.slice 37,[]⟩),
 (52,⟨6,104,true,[.d (.int .u16 0),.d (.int .u16 0),nilS,nilS,nilS,nilS],.struct [(0,34),(1,34),(2,51),(3,38),(4,38),(5,38)],[]⟩),
 (53,⟨6,104,true,[.d (.int .u16 0),.d (.int .u16 0),nilS,nilS,nilS,nilS],.struct [(0,34),(1,34),(2,51),(3,38),(4,38),(5,38)],[]⟩),
 (54,⟨1,8,false,[.v .nilFunc],.other,[]⟩),
 (55,⟨1,8,false,[.v .nilFunc],.other,[]⟩),
 (57,⟨1,8,false,[.v .nilFunc],.other,[]⟩),
 (58,⟨1,8,false,[.v .nilFunc],.other,[]⟩),
 (59,⟨6,80,true,[.d (.int .i64 0),nilS,.d (.str []),.d (.int .u16 0),.d (.int .u32 0),nilS],.struct [(0,3),(1,43),(2,47)],[]⟩),
 (60,⟨6,80,true,[.d (.int .i64 0),nilS,.d (.str []),.d (.int .u16 0),.d (.int .u32 0),nilS],.struct [(0,3),(1,43),(2,47)],[]⟩),
 (62,⟨1,8,false,[.v .nilFunc],.other,[]⟩),
 (63,⟨1,8,false,[.v .nilFunc],.other,[]⟩),
 (64,⟨1,8,false,[.v .nilFunc],.other,[]⟩),
 (65,⟨1,8,false,[.v .nilFunc],.other,[]⟩),
 (67,⟨1,8,false,[.v .nilFunc],.other,[]⟩),
 (68,⟨1,8,false,[.v .nilFunc],.other,[]⟩),
 (69,⟨1,8,false,[.v (.map none)],.map 9 3,[]⟩),
 (73,⟨1,8,false,[.v .nilFunc],.other,[]⟩),
 (76,⟨1,8,false,[.v .nilFunc],.other,[]⟩),
 (77,⟨1,8,false,[.v .nilFunc],.other,[]⟩),
 (82,⟨1,8,false,[.v .nilFunc],.other,[]⟩),
 (83,⟨1,8,false,[.v .nilFunc],.other,[]⟩),
 (84,⟨1,8,false,[.v .nilFunc],.other,[]⟩),
 (85,⟨1,8,false,[.v .nilFunc],.other,[]⟩),
 (86,⟨6,104,true,[.d (.int .u16 0),.d (.int .u16 0),nilS,nilS,nilS,nilS],.struct [(0,53)],[]⟩),
 (87,⟨6,104,true,[.d (.int .u16 0),.d (.int .u16 0),nilS,nilS,nilS,nilS],.struct [(0,53)],[]⟩),
 (88,⟨1,8,false,[.v .nilFunc],.other,[]⟩),
 (90,⟨1,8,false,[.v .nilFunc],.other,[]⟩),
 (91,⟨1,8,false,[.v .nilFunc],.other,[]⟩),
 (92,⟨1,24,false,[nilS],.slice 5,[]⟩),
 (93,⟨5,40,true,[.d (.str []),.d (.int .u16 0),.d (.int .u16 0),.d (.int .u32 0),.d (.str [])],.struct [(0,9),(1,35),(2,34),(3,44),(4,9)],[.str,.int .u16,.int .u16,.int .u32,.str]⟩),
 (94,⟨5,40,true,[.d (.str []),.d (.int .u16 0),.d (.int .u16 0),.d (.int .u32 0),.d (.str [])],.struct [(0,9),(1,35),(2,34),(3,44),(4,9)],[.str,.int .u16,.int .u16,.int .u32,.str]⟩),
 (95,⟨1,24,false,[nilS],.slice 3,[]⟩),
 (96,⟨2,32,true,[.d (.int .u32 0),nilS],.struct [(0,44),(1,95)],[]⟩),
 (97,⟨2,32,true,[.d (.int .u32 0),nilS],.struct [(0,44),(1,95)],[]⟩),
 (100,⟨1,8,false,[.v .nilFunc],.other,[]⟩),
 (101,⟨1,8,false,[.v .nilFunc],.other,[]⟩),
 (104,⟨1,8,false,[.v .nilFunc],.other,[]⟩),
 (106,⟨1,8,false,[.v .nilFunc],.other,[]⟩),
 (109,⟨1,8,false,[.v .nilFunc],.other,[]⟩),
 (113,⟨1,8,false,[.v .nilFunc],.other,[]⟩),
 (114,⟨1,8,false,[.v .nilFunc],.other,[]⟩),
 (115,⟨1,8,false,[.v .nilFunc],.other,[]⟩),
 (118,⟨1,8,false,[.v .nilFunc],.other,[]⟩),
 (122,⟨1,8,false,[.v .nilFunc],.other,[]⟩),
 (124,⟨1,8,false,[.v .nilFunc],.other,[]⟩),
 (126,⟨1,8,false,[.v .nilFunc],.other,[]⟩),
 (127,⟨1,8,false,[.v .nilFunc],.other,[]⟩),
 (131,⟨1,8,false,[.d (.int .u64 0)],.int .u64,[]⟩),
 (132,⟨1,8,false,[.v (.map none)],.map 194 3,[]⟩),
 (133,⟨1,8,false,[.v (.map none)],.map 9 196,[]⟩),
 (134,⟨4,56,true,[.d (.str []),nilS,.v (.map none),.v (.map none)],.struct [(0,40),(2,132),(3,133)],[]⟩),
 (135,⟨4,56,true,[.d (.str []),nilS,.v (.map none),.v (.map none)],.struct [(0,40),(2,132),(3,133)],[]⟩),
 (137,⟨1,8,false,[.v .nilFunc],.other,[]⟩),
 (139,⟨1,8,false,[.v (.pointer none)],.ptr 87,[]⟩),
 (140,⟨1,8,false,[.v .nilFunc],.other,[]⟩),
 (141,⟨1,8,false,[.v .nilFunc],.other,[]⟩),
 (142,⟨1,8,false,[.v .nilFunc],.other,[]⟩),
 (144,⟨1,8,false,[.v .nilFunc],.other,[]⟩),
 (149,⟨1,8,false,[.v .nilFunc],.other,[]⟩),
 (150,⟨1,8,false,[.v .nilFunc],.other,[]⟩),
 (151,⟨3,24,true,[.d (.int .i64 0),.d (.int .i64 0),.d (.int .i64 0)],.struct [(0,3),(1,3),(2,3)],[.int .i64,.int .i64,.int .i64]⟩),
 (152,⟨3,24,true,[.d (.int .i64 0),.d (.int .i64 0),.d (.int .i64 0)],.struct [(0,3),(1,3),(2,3)],[.int .i64,.int .i64,.int .i64]⟩),
 (153,⟨3,56,true,[.d (.str []),nilS,.d (.str [])],.struct [(0,9),(1,45),(2,9)],[]⟩),
 (154,⟨3,56,true,[.d (.str []),nilS,.d (.str [])],.struct [(0,9),(1,45),(2,9)],[]⟩),
 (156,⟨1,8,false,[.v .nilFunc],.other,[]⟩),
 (158,⟨1,8,false,[.v .nilFunc],.other,[]⟩),
 (159,⟨1,8,false,[.v (.map none)],.map 160 3,[]⟩),
 (160,⟨2,16,true,[.d (.int .i64 0),.d (.int .i64 0)],.array 2 3,[.int .i64,.int .i64]⟩),
 (162,⟨1,8,false,[.v (.map none)],.map 44 3,[]⟩),
 (165,⟨1,8,false,[.v .nilFunc],.other,[]⟩),
 (168,⟨1,8,false,[.v .nilFunc],.other,[]⟩),
 (170,⟨1,8,false,[.v .nilFunc],.other,[]⟩),
 (171,⟨1,8,false,[.v (.pointer none)],.ptr 135,[]⟩),
 (172,⟨1,8,false,[.v .nilFunc],.other,[]⟩),
 (175,⟨1,8,false,[.v .nilFunc],.other,[]⟩),
 (177,⟨1,8,false,[.v .nilFunc],.other,[]⟩),
 (178,⟨1,8,false,[.v (.pointer none)],.ptr 180,[]⟩),
 (179,⟨2,32,true,[.v (.pointer none),nilS],.struct [(0,178),(1,92)],[]⟩),
 (180,⟨2,32,true,[.v (.pointer none),nilS],.struct [(0,178),(1,92)],[]⟩),
 (181,⟨1,8,false,[.v .nilFunc],.other,[]⟩),
 (183,⟨1,16,false,[.v .nilIface],.iface,[]⟩),
 (189,⟨1,8,false,[.d (.int .u64 0)],.int .u64,[]⟩),
 (190,⟨1,8,false,[.v (.pointer none)],.ptr 216,[]⟩),
 (192,⟨1,8,false,[.v .nilFunc],.other,[]⟩),
 (193,⟨4,40,true,[.d (.str []),.d (.int .u16 0),.d (.int .u16 0),.d (.str [])],.struct [(0,9),(1,35),(2,34),(3,9)],[.str,.int .u16,.int .u16,.str]⟩),
 (194,⟨4,40,true,[.d (.str []),.d (.int .u16 0),.d (.int .u16 0),.d (.str [])],.struct [(0,9),(1,35),(2,34),(3,9)],[.str,.int .u16,.int .u16,.str]⟩),
 (195,⟨5,40,true,[.d (.int .i64 0),.d (.int .i64 0),.d (.int .i64 0),.d (.int .i64 0),.d (.int .i64 0)],.struct [(0,3),(1,3),(2,3),(3,3),(4,3)],[.int .i64,.int .i64,.int .i64,.int .i64,.int .i64]⟩),
 (196,⟨5,40,true,[.d (.int .i64 0),.d (.int .i64 0),.d (.int .i64 0),.d (.int .i64 0),.d (.int .i64 0)],.struct [(0,3),(1,3),(2,3),(3,3),(4,3)],[.int .i64,.int .i64,.int .i64,.int .i64,.int .i64]⟩),
 (197,⟨1,8,false,[.v .nilFunc],.other,[]⟩),
 (198,⟨1,24,false,[nilS],.slice 201,[]⟩),
 (200,⟨2,40,true,[.d (.str []),nilS],.struct [(0,9),(1,45)],[]⟩),
 (201,⟨2,40,true,[.d (.str []),nilS],.struct [(0,9),(1,45)],[]⟩),
 (204,⟨1,8,false,[.v .nilFunc],.other,[]⟩),
 (206,⟨1,8,false,[.v .nilFunc],.other,[]⟩),
 (208,⟨1,8,false,[.v .nilFunc],.other,[]⟩),
 (212,⟨1,8,false,[.v (.pointer none)],.ptr 5,[]⟩),
 (215,⟨3,32,true,[.d (.str []),.d (.int .i64 0),.d .ff],.struct [(0,9),(1,3),(2,4)],[.str,.int .i64,.bool]⟩),
 (216,⟨3,32,true,[.d (.str []),.d (.int .i64 0),.d .ff],.struct [(0,9),(1,3),(2,4)],[.str,.int .i64,.bool]⟩),
 (217,⟨1,8,false,[.v .nilFunc],.other,[]⟩),
 (218,⟨8,8,true,[.d (.int .u8 0),.d (.int .u8 0),.d (.int .u8 0),.d (.int .u8 0),.d (.int .u8 0),.d (.int .u8 0),.d (.int .u8 0),.d (.int .u8 0)],.array 8 5,[.int .u8,.int .u8,.int .u8,.int .u8,.int .u8,.int .u8,.int .u8,.int .u8]⟩),
 (223,⟨1,8,false,[.v .nilFunc],.other,[]⟩),
 (224,⟨1,8,false,[.v (.pointer none)],.other,[]⟩),
 (230,⟨4,40,true,[.v (.pointer none),.v (.pointer none),.v (.pointer none),.d (.str [])],.struct [(0,17),(1,17),(2,17),(3,9)],[]⟩),
 (236,⟨1,1,false,[.d (.int .u8 0)],.int .u8,[]⟩),
 (237,⟨1,1,false,[.d (.int .u8 0)],.int .u8,[]⟩),
 (239,⟨1,4,false,[.d (.int .i32 0)],.int .i32,[]⟩),
 (240,⟨1,4,false,[.d (.int .i32 0)],.int .i32,[]⟩),
 (242,⟨11,48,true,[.d (.int .u64 0),.d (.int .u64 0),.d (.int .u32 0),.d (.int .u8 0),.d (.int .u8 0),.d (.int .u8 0),.d (.int .u8 0),.v .nilFunc,.v (.pointer none),.d (.int .i32 0),.d (.int .i32 0)],.struct [(0,12),(1,12),(2,44),(3,236),(4,5),(5,5),(6,237),(7,238),(8,212),(9,239),(10,240)],[]⟩)]
def TT(n:Nat):Option TI:=Eng.look types n
set_option maxRecDepth 100000 in
theorem qk:TTok Tryz.prog TT:=zd0 (P:=Tryz.prog) (l:=types) (by kernel_rfl)
theorem mixed:Tryz.prog.follows .mixedOrders=true:=by kernel_rfl
def bt(s:List UInt8)(k:Nat):Nat:=(s[k]?.getD 0).toNat
theorem z1(s:List UInt8)(k:Nat):zc s (k:Int)=(bt s k:Int):=by
 unfold zc bt;simp
theorem u3(s:List UInt8)(k:Nat):bt s k<256:=UInt8.toNat_lt _
def more(s:List UInt8)(k:Nat):Prop:=k<s.length/\¬ bt s k=0/\bt s k<=63/\bt s k<s.length - k
instance (s:List UInt8) (k:Nat):Decidable (more s k):=by unfold more;infer_instance
def k8(s:List UInt8):Nat->Nat->Nat
 |0,k=>k
 |m+1,k=>if more s k then k8 s m (k+1+bt s k) else k
def qw1(s:List UInt8):Nat:=k8 s s.length 0
def At(s:List UInt8)(k:Nat):Prop:=k<=s.length/\∃ m,s.length<=k+m/\k8 s m k=qw1 s
theorem At.zero(s:List UInt8):At s 0:=⟨pu _,s.length,by omega,rfl⟩
theorem At.next{s:List UInt8}{k:Nat}(h:At s k)(hm:more s k):At s (k+1+bt s k):=by
 obtain⟨h1,m,h2,h3⟩:=h;have:=hm
 obtain⟨a1,a2,a3,a4⟩:=this;cases m with
 |zero=>omega
 |succ m=>exact⟨by omega,m,by omega,by rw[<-h3];simp[k8,hm]⟩
theorem At.last{s:List UInt8}{k:Nat}(h:At s k)(hm:¬ more s k):k=qw1 s:=by
 obtain⟨h1,m,h2,h3⟩:=h;rw[<-h3];cases m <;> simp[k8,hm]
def qb(s:List UInt8):Prop:=0<s.length/\s.length<=255/\qw1 s=s.length - 1/\bt s (qw1 s)=0
instance (s:List UInt8):Decidable (qb s):=by unfold qb;infer_instance
theorem qe(n:Int)(h : -9223372036854775808<=n/\n<=9223372036854775807):IntKind.i64.wrap n=n:=by rw[IntKind.wrap_i64];omega
theorem w64s(i:Nat)(h:i<9223372036854775807):IntKind.i64.wrap ((i:Int)+1)=((i+1:Nat):Int):=by rw[qe _ (by omega)];omega
theorem zw(s:List UInt8):FnOk Tryz.prog 10 [.d (.str s)] (.d (.int .i64 (if qb s then 0 else 2))):=by
 refine qp (TT:=TT) (IN:=qh [(27,Tryz.f27,1),(59,Tryz.f59,2)]) qk ?_ mixed 1000 Tryz.func10 rfl (qi Tryz.func10 (by kernel_rfl) rfl) rfl 27 (by kernel_rfl) ?_
 ·exact jj (jj qj Tryz.func59 (by kernel_rfl) (by kernel_rfl)) Tryz.func27 (by kernel_rfl) (by kernel_rfl)
 conv=>whnf
 refine⟨fun h1=>?_,fun h1=>?_⟩
 ·have:¬ qb s:=fun hn=>by have a:=hn.1;simp at h1;rw [h1] at a;simp at a
  exact congrArg (DV.int _) (by rw[if_neg this])
 have hpos:0<s.length:=by
  rcases gw s.length with e|e
  ·rw [e] at h1;cases h1
  ·exact e
 conv=>whnf
 refine⟨fun h2=>?_,fun h2=>?_⟩
 ·have:¬ qb s:=fun hn=>by have a:=hn.2.1;simp at h2;omega
  exact congrArg (DV.int _) (by rw[if_neg this])
 have hlen:s.length<=255:=by simp at h2;omega
 conv=>whnf
 refine .inv Nat (fun k=>At s k) (fun k=>[(3,.d (.int .i64 k))]) (fun k=>[(0,.cells 3 [.d (.int .i64 k)])]) (fun k=>s.length - k) ⟨0,[0,1,2],At.zero s,?_⟩ ?_
 ·conv=>whnf
  repeat'(first|exact ⟨⟩|exact rfl|apply And.intro)
 intro k hk;have hkl:=hk.1
 have hby:=u3 s k
 have hwb:IntKind.i64.wrap (zc s (k:Int))=(bt s k:Int):=by rw[z1,qe _ (by omega)]
 have hwl:IntKind.i64.wrap ((s.length:Int) - 1)=(s.length:Int) - 1:=qe _ (by omega)
 have key1:¬ more s k->(((k:Int) != IntKind.i64.wrap ((s.length:Int) - 1))=true)->¬ qb s:=fun hm hne hn=>by
  have:=hk.last hm
  obtain⟨_,_,a,_⟩:=hn;rw [hwl] at hne;simp at hne
  omega
 have key2:¬ more s k->(((k:Int) != IntKind.i64.wrap ((s.length:Int) - 1))=false)->(bt s k=0↔qb s)/\k<s.length:=fun hm hne=>by
  have:=hk.last hm
  rw [hwl] at hne;simp at hne
  unfold qb
  rw[<-this];omega
 conv=>whnf
 refine⟨fun hlt=>?_,fun hge=>?_⟩
 ·have hlt':k<s.length:=by simpa using hlt
  conv=>whnf
  refine⟨by simp;omega,?_⟩
  conv=>whnf
  refine⟨fun h0=>?_,fun h0=>?_⟩
  ·have hm:¬ more s k:=fun hm=>by rw [hwb] at h0;simp at h0;exact hm.2.1 h0
   conv=>whnf
   refine⟨fun e=>congrArg (DV.int _) (by rw[if_neg (key1 hm e)]),fun e=>?_⟩
   obtain⟨e1,e2⟩:=key2 hm e;conv=>whnf
   refine⟨by simp;omega,?_⟩
   conv=>whnf
   refine⟨fun hz=>?_,fun hz=>?_⟩
   ·exact congrArg (DV.int _) (by rw [if_neg (fun hn=>by rw [z1] at hz;simp at hz;exact hz (e1.2 hn))])
   ·exact congrArg (DV.int _) (by rw [if_pos (e1.1 (by rw [z1] at hz;simpa using hz))])
  ·have h0':¬ bt s k=0:=by rw [hwb] at h0;simpa using h0
   conv=>whnf
   refine⟨fun h3=>?_,fun h3=>?_⟩
   ·have hm:¬ more s k:=fun hm=>by rw [hwb] at h3;simp at h3;have:=hm.2.2.1;omega
    conv=>whnf
    refine⟨fun e=>congrArg (DV.int _) (by rw[if_neg (key1 hm e)]),fun e=>?_⟩
    obtain⟨e1,e2⟩:=key2 hm e;conv=>whnf
    refine⟨by simp;omega,?_⟩
    conv=>whnf
    refine⟨fun hz=>?_,fun hz=>?_⟩
    ·exact congrArg (DV.int _) (by rw [if_neg (fun hn=>by rw [z1] at hz;simp at hz;exact hz (e1.2 hn))])
    ·exact congrArg (DV.int _) (by rw [if_pos (e1.1 (by rw [z1] at hz;simpa using hz))])
   ·have h3':bt s k<=63:=by rw [hwb] at h3;simp at h3;omega
    conv=>whnf
    have hws:IntKind.i64.wrap ((s.length:Int) - (k:Int))=(s.length:Int) - k:=qe _ (by omega)
    refine⟨fun h4=>?_,fun h4=>?_⟩
    ·have hm:¬ more s k:=fun hm=>by rw [hwb,hws] at h4;simp at h4;have:=hm.2.2.2;omega
     conv=>whnf
     refine⟨fun e=>congrArg (DV.int _) (by rw[if_neg (key1 hm e)]),fun e=>?_⟩
     obtain⟨e1,e2⟩:=key2 hm e;conv=>whnf
     refine⟨by simp;omega,?_⟩
     conv=>whnf
     refine⟨fun hz=>?_,fun hz=>?_⟩
     ·exact congrArg (DV.int _) (by rw [if_neg (fun hn=>by rw [z1] at hz;simp at hz;exact hz (e1.2 hn))])
     ·exact congrArg (DV.int _) (by rw [if_pos (e1.1 (by rw [z1] at hz;simpa using hz))])
    ·have hm:more s k:=⟨hlt',h0',h3',by rw [hwb,hws] at h4;simp at h4;omega⟩
     conv=>whnf
     refine⟨k+1+bt s k,[0,1,2],hk.next hm,by show s.length - (k+1+bt s k)<s.length - k;omega,?_⟩
     have hnx:IntKind.i64.wrap ((k:Int)+IntKind.i64.wrap (1+IntKind.i64.wrap (zc s (k:Int))))=((k+1+bt s k:Nat):Int):=by rw[hwb,qe (1+(bt s k:Int)) (by omega),qe _ (by omega)];omega
     conv=>whnf
     repeat'(first|exact ⟨⟩|exact rfl|apply And.intro)
     all_goals exact congrArg SV.d (congrArg (DV.int _) hnx)
 ·have hm:¬ more s k:=fun hm=>by have:=hm.1;simp at hge;omega
  conv=>whnf
  refine⟨fun e=>congrArg (DV.int _) (by rw[if_neg (key1 hm e)]),fun e=>?_⟩
  obtain⟨e1,e2⟩:=key2 hm e;conv=>whnf
  refine⟨by simp;omega,?_⟩
  conv=>whnf
  refine⟨fun hz=>?_,fun hz=>?_⟩
  ·exact congrArg (DV.int _) (by rw [if_neg (fun hn=>by rw [z1] at hz;simp at hz;exact hz (e1.2 hn))])
  ·exact congrArg (DV.int _) (by rw [if_pos (e1.1 (by rw [z1] at hz;simpa using hz))])
def low(b:UInt8):UInt8:=if 65<=b/\b<=90 then b+32 else b
def fold(s:List UInt8):List UInt8:=s.map low
theorem qd2(b:UInt8):(low b).toNat=if 65<=b.toNat/\b.toNat<=90 then b.toNat+32 else b.toNat:=by
 unfold low
 have e1:(65<=b)↔65<=b.toNat:=by rw[UInt8.le_iff_toNat_le];rfl
 have e2:(b<=90)↔b.toNat<=90:=by rw[UInt8.le_iff_toNat_le];rfl
 simp only[e1,e2]
 split
 ·rw[UInt8.toNat_add];have:(32:UInt8).toNat=32:=rfl;omega
 ·rfl
def mix(s:List UInt8)(k j:Nat):Int:=if j<k then ((low (s[j]?.getD 0)).toNat:Int) else (bt s j:Int)
theorem zx(s:List UInt8)(hs:s.length<9223372036854775808):FnOk Tryz.prog 29 [.d (.str s)] (.d (.str (fold s))):=by
 refine qp (TT:=TT) (IN:=qh []) qk qj mixed 1000 Tryz.func29 rfl (qi Tryz.func29 (by kernel_rfl) rfl) rfl 28 (by kernel_rfl) ?_
 conv=>whnf
 refine .inv Nat (fun k=>k<=s.length) (fun k=>[(10,.d (.int .i64 k))]) (fun k=>[(0,.row 5 1 s.length .no (fun j=>[.int .u8 (mix s k j)]))]) (fun k=>s.length - k) ⟨0,[0],by omega,?_⟩ ?_
 ·conv=>whnf
  repeat'(first|exact ⟨⟩|exact rfl|apply And.intro)
  intro i hi;simp[mix,z1]
 intro k hk;have hk1:k<s.length->IntKind.i64.wrap ((k:Int)+1)=((k+1:Nat):Int):=fun _=>by rw[qe _ (by omega)];omega
 conv=>whnf
 refine⟨fun hlt=>?_,fun hge=>?_⟩
 ·have hlt':k<s.length:=by simpa using hlt
  conv=>whnf
  refine⟨by simp;omega,?_⟩
  have hmk:mix s k (Int.toNat (k:Int))=(bt s k:Int):=by simp[mix]
  have hb:=u3 s k
  conv=>whnf
  have stay:¬ (65<=bt s k/\bt s k<=90)->∀ i,i<s.length->[DV.int IntKind.u8 (mix s k i)]=[DV.int IntKind.u8 (mix s (k+1) i)]:=fun hn i hi=>by
   unfold mix
   by_cases e:i=k
   ·subst e;rw [if_neg (by omega),if_pos (by omega),qd2,if_neg (by unfold bt at hn;exact hn)]
    rfl
   ·by_cases e2:i<k
    ·rw[if_pos e2,if_pos (by omega)]
    ·rw[if_neg e2,if_neg (by omega)]
  rw[hmk];refine⟨fun h1=>?_,fun h1=>?_⟩
  ·conv=>whnf
   refine⟨fun h2=>?_,fun h2=>?_⟩
   ·conv=>whnf
    refine⟨by simp;omega,?_⟩
    conv=>whnf
    refine⟨k+1,[0],by omega,by show s.length - (k+1)<s.length - k;omega,?_⟩
    conv=>whnf
    repeat'(first|exact ⟨⟩|exact rfl|apply And.intro)
    all_goals first
     |exact congrArg SV.d (congrArg (DV.int _) (hk1 hlt'))
     |exact stay (by simp at h1 h2;omega)
     |(
      intro i hi;show oneF _ _ _ _ i=_
      unfold oneF mix
      simp at h1 h2
      by_cases e:i=k
      ·subst e;simp only[pp,if_true,putD,rp]
       rw [if_pos (by omega),qd2,if_pos (by unfold bt at h1 h2;omega),b9]
       unfold bt at *
       congr 2
       omega
      ·rw[if_neg (by simpa using e)]
       show[DV.int _ _]=[DV.int _ _]
       by_cases e2:i<k
       ·rw[if_pos e2,if_pos (by omega)]
       ·rw[if_neg e2,if_neg (by omega)])
   ·conv=>whnf
    refine⟨k+1,[0],by omega,by show s.length - (k+1)<s.length - k;omega,?_⟩
    conv=>whnf
    repeat'(first|exact ⟨⟩|exact rfl|apply And.intro)
    all_goals first
     |exact congrArg SV.d (congrArg (DV.int _) (hk1 hlt'))
     |exact stay (by simp at h1 h2;omega)
     |(
      intro i hi;show oneF _ _ _ _ i=_
      unfold oneF mix
      simp at h1 h2
      by_cases e:i=k
      ·subst e;simp only[pp,if_true,putD,rp]
       rw [if_pos (by omega),qd2,if_pos (by unfold bt at h1 h2;omega),b9]
       unfold bt at *
       congr 2
       omega
      ·rw[if_neg (by simpa using e)]
       show[DV.int _ _]=[DV.int _ _]
       by_cases e2:i<k
       ·rw[if_pos e2,if_pos (by omega)]
       ·rw[if_neg e2,if_neg (by omega)])
  ·conv=>whnf
   refine⟨k+1,[0],by omega,by show s.length - (k+1)<s.length - k;omega,?_⟩
   conv=>whnf
   repeat'(first|exact ⟨⟩|exact rfl|apply And.intro)
   all_goals first
    |exact congrArg SV.d (congrArg (DV.int _) (hk1 hlt'))
    |exact stay (by simp at h1;omega)
    |(
     intro i hi;show oneF _ _ _ _ i=_
     unfold oneF mix
     simp at h1
     by_cases e:i=k
     ·subst e;simp only[pp,if_true,putD,rp]
      rw [if_pos (by omega),qd2,if_pos (by unfold bt at h1;omega),b9]
      unfold bt at *
      congr 2
      omega
     ·rw[if_neg (by simpa using e)]
      show[DV.int _ _]=[DV.int _ _]
      by_cases e2:i<k
      ·rw[if_pos e2,if_pos (by omega)]
      ·rw[if_neg e2,if_neg (by omega)])
 ·have hke:k=s.length:=by simp at hge;omega
  subst hke;conv=>whnf
  refine⟨fun i _=>⟨_,rfl⟩,?_⟩
  conv=>whnf
  refine congrArg DV.str ?_;unfold yu fold
  apply d9;intro i;rw[o9,o9];by_cases hi:i<s.length
  ·rw[d4 hi,pn hi];simp[mix,hi]
  ·rw[gq (by simp;omega),gq (by omega)]
   rfl
def kx(s:List UInt8):Nat->Nat->Nat
 |0,_=>0
 |m+1,k=>if k<s.length/\k<255 then (if bt s k=0 then (if qb (s.take (k+1)) then k+1 else 0) else kx s m (k+1+bt s k)) else 0
def ji(s:List UInt8):Nat:=kx s 256 0
def FAt(s:List UInt8)(k:Nat):Prop:=k<=510/\∃ m,256<=k+m/\kx s m k=ji s
theorem FAt.zero(s:List UInt8):FAt s 0:=⟨by omega,256,by omega,rfl⟩
theorem FAt.step{s:List UInt8}{k:Nat}(h:FAt s k)(h1:k<s.length)(h2:k<255):(ji s=if bt s k=0 then (if qb (s.take (k+1)) then k+1 else 0) else ji s)/\(bt s k≠0->FAt s (k+1+bt s k)):=by
 obtain⟨hk,m,hm,e⟩:=h;cases m with
 |zero=>omega
 |succ m =>
  simp only [kx,h1,h2,and_self,if_true] at e
  have:=u3 s k
  refine⟨?_,fun hb=>⟨by omega,m,by omega,?_⟩⟩
  ·split
   ·rename_i hb;rw [if_pos hb] at e;exact e.symm
   ·rfl
  ·rw [if_neg hb] at e;exact e
theorem FAt.last{s:List UInt8}{k:Nat}(h:FAt s k)(h1:¬ (k<s.length/\k<255)):ji s=0:=by
 obtain⟨hk,m,hm,e⟩:=h;rw[<-e];cases m with
 |zero=>rfl
 |succ m=>simp only[kx,if_neg h1]
theorem brT{b:Bool}{p q:Prop}(h:b=true)(hp:p):(b=true->p)/\(b=false->q):=⟨fun _=>hp,fun e=>(by rw [h] at e;cases e)⟩
theorem brF{b:Bool}{p q:Prop}(h:b=false)(hq:q):(b=true->p)/\(b=false->q):=⟨fun e=>(by rw [h] at e;cases e),fun _=>hq⟩
def strs(l:List (List UInt8))(i:Nat):List DV:=[.str (l[i]?.getD [])]
theorem kp(l:List (List UInt8))(x:List UInt8)(g:Nat->List DV)(hg:g 0=[.str x]):∀ i,i<l.length+1->catF l.length (strs l) g i=strs (l++[x]) i:=fun i hi=>by
 unfold catF strs
 split
 ·rename_i h;rw[p9 h]
 ·rename_i h
  have:i=l.length:=by omega
  subst this;simp[hg]
theorem zv8(s:List UInt8):∀ m k,kx s m k<=s.length/\kx s m k<=255:=by
 intro m;induction m with
 |zero=>intro k;simp[kx]
 |succ m ih =>
  intro k;simp only[kx]
  split
  ·split
   ·split
    ·omega
    ·omega
   ·exact ih _
  ·omega
theorem jb5(s:List UInt8):ji s<=s.length/\ji s<=255:=zv8 s _ _
def qr4(b:Bool):Int:=if b then 0 else 2
theorem qq9(s:List UInt8)(n:Nat):((s.length:Int) == (n:Int))=(s.length == n):=by
 rw[lw];simp;omega
end Go.Proofs.YtnfoihdifohkeaaGreat
namespace Go.Proofs
open Go.Shelf Go.RowKit
def Try.lays156_ren:Go.Shelf.Ren:=⟨fun|156=>91|165=>120|166=>121|169=>122|240=>141|241=>142|276=>155|277=>156|n=>n,fun|31=>45|9=>9|3=>3|4=>4|0=>0|20=>20|72=>180|76=>184|70=>178|37=>92|75=>183|127=>212|164=>224|5=>5|80=>186|n=>n,fun|n=>n⟩
theorem Try.lays156:Go.Proofs.Lays.n156 Tryz.prog Try.lays156_ren:={
 mixed:=by kernel_rfl
 f156:=Tryz.func91.trans (congrArg some (by kernel_rfl))
 f165:=Tryz.func120.trans (congrArg some (by kernel_rfl))
 f166:=Tryz.func121.trans (congrArg some (by kernel_rfl))
 f169:=Tryz.func122.trans (congrArg some (by kernel_rfl))
 f240:=Tryz.func141.trans (congrArg some (by kernel_rfl))
 f241:=Tryz.func142.trans (congrArg some (by kernel_rfl))
 f276:=Tryz.func155.trans (congrArg some (by kernel_rfl))
 f277:=Tryz.func156.trans (congrArg some (by kernel_rfl))
 t0:=Tryz.underlying0
 a0:=Tryz.isAgg0
 z0:=Tryz.sizeOf0
 v0:=Tryz.zeroValue0
 t3:=Tryz.underlying3
 a3:=Tryz.isAgg3
 z3:=Tryz.sizeOf3
 v3:=Tryz.zeroValue3
 t4:=Tryz.underlying4
 a4:=Tryz.isAgg4
 z4:=Tryz.sizeOf4
 v4:=Tryz.zeroValue4
 t9:=Tryz.underlying9
 a9:=Tryz.isAgg9
 z9:=Tryz.sizeOf9
 v9:=Tryz.zeroValue9
 t20:=Tryz.underlying20
 a20:=Tryz.isAgg20
 z20:=Tryz.sizeOf20
 v20:=Tryz.zeroValue20
 t31:=Tryz.underlying45
 a31:=Tryz.isAgg45
 z31:=Tryz.sizeOf45
 v31:=Tryz.zeroValue45
 t37:=Tryz.underlying92
 a37:=Tryz.isAgg92
 z37:=Tryz.sizeOf92
 v37:=Tryz.zeroValue92
 t70:=Tryz.underlying178
 a70:=Tryz.isAgg178
 z70:=Tryz.sizeOf178
 v70:=Tryz.zeroValue178
 t72:=Tryz.underlying180
 a72:=Tryz.isAgg180
 z72:=Tryz.sizeOf180
 v72:=Tryz.zeroValue180
 t75:=Tryz.underlying183
 a75:=Tryz.isAgg183
 z75:=Tryz.sizeOf183
 v75:=Tryz.zeroValue183
 t76:=Tryz.underlying184
 a76:=Tryz.isAgg184
 z76:=Tryz.sizeOf184
 v76:=Tryz.zeroValue184
 t127:=Tryz.underlying212
 a127:=Tryz.isAgg212
 z127:=Tryz.sizeOf212
 v127:=Tryz.zeroValue212
 t164:=Tryz.underlying224
 a164:=Tryz.isAgg224
 z164:=Tryz.sizeOf224
 v164:=Tryz.zeroValue224 }
theorem Try.Builder_Extra_156:Builder.Extra Tryz.prog Try.lays156_ren:={
 sizeBuilder:=by kernel_rfl
 liesBuilder:=by kernel_rfl
 t5:=Tryz.underlying5
 a5:=Tryz.isAgg5
 z5:=Tryz.sizeOf5
 v5:=Tryz.zeroValue5
 infoByte:=by kernel_rfl
 cellsByte:=by kernel_rfl
 sizeByte:=by kernel_rfl
 neB5:=by decide }
theorem Try.strings_Join_none(a:Option Addr)(c:Nat)(sep:ByteArray)(w:World) :
 Calls Tryz.prog 91 #[.slice a 0 c,.string sep] w fun e w'=>e = .returned (.string ⟨#[]⟩)/\w'=w:=Any.strings_Join_none Try.lays156 Try.Builder_Extra_156 a c sep w
theorem Try.strings_Join(bk o c:Nat)(xs:List ByteArray)(sep:ByteArray)(w:World)(hcells:∀ (j:Nat) x,xs[j]? = some x->w.cell? ⟨bk,o+j,none⟩=some (.string x))(hbk:bk<w.heap.size)(hN:xs.length<=140737488355328)(hcap:xs.length<=c)(hlen:(Lib.join (xs.map (·.data.toList)) sep.data.toList).length<=140737488355328) :
 Calls Tryz.prog 91 #[.slice (some ⟨bk,o,none⟩) xs.length c,.string sep] w fun e w'=>e = .returned (.string ⟨(Lib.join (xs.map (·.data.toList)) sep.data.toList).toArray⟩)/\Below w.heap.size w w':=Any.strings_Join Try.lays156 Try.Builder_Extra_156 bk o c xs sep w hcells hbk hN hcap hlen
def Try.lays106_ren:Go.Shelf.Ren:=⟨fun|106=>100|213=>124|265=>143|n=>n,fun|9=>9|3=>3|n=>n,fun|n=>n⟩
theorem Try.lays106:Go.Proofs.Lays.n106 Tryz.prog Try.lays106_ren:={
 mixed:=by kernel_rfl
 f106:=Tryz.func100.trans (congrArg some (by kernel_rfl))
 f213:=Tryz.func124.trans (congrArg some (by kernel_rfl))
 f265:=Tryz.func143.trans (congrArg some (by kernel_rfl))
 t3:=Tryz.underlying3
 a3:=Tryz.isAgg3
 z3:=Tryz.sizeOf3
 v3:=Tryz.zeroValue3
 t9:=Tryz.underlying9
 a9:=Tryz.isAgg9
 z9:=Tryz.sizeOf9
 v9:=Tryz.zeroValue9 }
theorem Try.strings_Compare(a b:ByteArray)(w:World) :
 Calls Tryz.prog 100 #[.string a,.string b] w fun e w'=>e = .returned (.int .i64 (Lib.compareBytes a.data.toList b.data.toList))/\w'=w:=Any.strings_Compare Try.lays106 a b w
end Go.Proofs
namespace Go.Proofs.YtnfoihdifohkeaaGreat
open Go Go.Eng
theorem xa6{w:World}{M:Nat->Prop}{b:Bool}{n sz:Nat}{f:Nat->List DV}{v:Value}(h:Rd w M (.sl b n sz f) v):(n=0/\v = .slice none 0 0)\/∃ (ad:Addr) (cap:Nat) (u:Nat->Nat->Value),v = .slice (some ad) n cap/\n<=cap /\
 (0<n->ad.block<w.heap.size/\¬ M ad.block)/\(∀ (i j:Nat) (d:DV),i<n->(f i)[j]? = some d->w.cell? (ad.add (i * sz+j))=some (u i j))/\(∀ (i j:Nat) (d:DV),i<n->(f i)[j]? = some d->Rd w M d (u i j)):=by
 cases h with
 |nil=>exact .inl ⟨rfl,rfl⟩
 |sl _ _ _ ad cap u g1 g3 g4 g5 g6=>exact .inr ⟨ad,cap,u,rfl,g1,g3,g5,g6⟩
theorem xj1(b:Bool)(l:List (List UInt8))(sep:List UInt8)(hn:l.length<=140737488355328)(hj:(Lib.join l sep).length<=140737488355328):FnOk Tryz.prog 91 [.d (.sl b l.length 1 (strs l)),.d (.str sep)] (.d (.str (Lib.join l sep))):=by
 refine⟨qi Tryz.func91 (by kernel_rfl) rfl,fun M w vs _ hM hl hd=>?_⟩
 match vs,hl with
 |[v0,v1],_ =>
  have h0:=jk (hd 0 _ v0 rfl rfl)
  have h1:=kq (hd 1 _ v1 rfl rfl)
  subst h1;rcases xa6 h0 with⟨hl0,rfl⟩|⟨ad,cap,u,rfl,g1,g3,g5,g6⟩
  ·have:l=[]:=fu hl0
   subst this;refine(Try.strings_Join_none none 0 ⟨sep.toArray⟩ w).mono ?_;rintro e w' ⟨rfl,rfl⟩;exact⟨_,rfl,Step.refl _ _,.d (.str _)⟩
  ·by_cases hz:l=[]
   ·subst hz;refine(Try.strings_Join_none (some ad) cap ⟨sep.toArray⟩ w).mono ?_;rintro e w' ⟨rfl,rfl⟩;exact⟨_,rfl,Step.refl _ _,.d (.str _)⟩
   ·have hpos:0<l.length:=s8.2 hz
    obtain⟨hb,_⟩:=g3 hpos;have hu:∀ i,i<l.length->u i 0=strV (l[i]?.getD []):=fun i hi=>by
     have:=g6 i 0 (.str (l[i]?.getD [])) hi rfl
     exact kq (β:=noE) (.d this)
    have hc0:=g5 0 0 (.str (l[0]?.getD [])) hpos rfl
    have hspot:ad.spot=none:=by
     rw [show ad.add (0 * 1+0)=ad from rfl] at hc0;unfold World.cell? at hc0;split at hc0
     ·cases hs:ad.spot with
      |none=>rfl
      |some _=>simp [hs] at hc0
     ·cases hc0
    obtain⟨bk,o,sp⟩:=ad;simp only at hspot hb
    subst hspot;have:=Try.strings_Join bk o cap (l.map fun x=>⟨x.toArray⟩) ⟨sep.toArray⟩ w (fun j x hx=>by
     rw [o9,gx] at hx;obtain⟨y,hy,rfl⟩:=hx;have hj:j<l.length:=(po.1 hy).1;have h5:=g5 j 0 (.str (l[j]?.getD [])) hj rfl;rw [hu j hj,yw,hy] at h5;simpa[strV] using h5) hb (by simpa using hn) (by simpa using g1) (by
      simp only[dn,Function.comp_def,s9,List.map_id']
      exact hj)
    simp only [o4,dn,Function.comp_def,s9,List.map_id'] at this
    refine this.mono ?_;rintro e w' ⟨rfl,hw⟩
    exact⟨_,rfl,Step.of_below _ hw,.d (.str _)⟩
theorem xe0(s:List UInt8):FnOk Tryz.prog 140 [.d (.str s)] (.d (.int .i64 (ji s))):=by
 refine qp (TT:=TT) (IN:=qh []) qk qj mixed 1000 Tryz.func140 rfl (qi Tryz.func140 (by kernel_rfl) rfl) rfl 30 (by kernel_rfl) ?_
 conv=>whnf
 refine .inv Nat (fun k=>FAt s k) (fun k=>[(3,.d (.int .i64 k))]) (fun k=>[]) (fun k=>600 - k) ⟨0,[],FAt.zero s,?_⟩ ?_
 ·conv=>whnf
  repeat'(first|exact ⟨⟩|exact rfl|apply And.intro)
 intro k hk;have hk1:=hk.1
 have hby:=u3 s k
 conv=>whnf
 refine⟨fun hlt=>?_,fun hge=>?_⟩
 ·conv=>whnf
  refine⟨fun hlt2=>?_,fun hge2=>?_⟩
  ·have h1:k<s.length:=by simpa using hlt
   have h2:k<255:=by simp at hlt2;omega
   obtain⟨e1,e2⟩:=hk.step h1 h2;conv=>whnf
   refine⟨by simp;omega,?_⟩
   conv=>whnf
   rw[z1];refine⟨fun hb=>?_,fun hb=>?_⟩
   ·have hb':bt s k≠0:=by simpa using hb
    conv=>whnf
    refine⟨by simp;omega,?_⟩
    conv=>whnf
    refine⟨k+1+bt s k,[],e2 hb',by show 600 - (k+1+bt s k)<600 - k;omega,?_⟩
    have hnx:IntKind.i64.wrap ((k:Int)+IntKind.i64.wrap (1+IntKind.i64.wrap (zc s (k:Int))))=((k+1+bt s k:Nat):Int):=by simp(disch:=omega) only[z1,qe];omega
    conv=>whnf
    repeat'(first|exact ⟨⟩|exact rfl|apply And.intro)
    all_goals exact congrArg SV.d (congrArg (DV.int _) hnx)
   ·have hb':bt s k=0:=by simpa using hb
    rw [if_pos hb'] at e1;have hw:=w64s k (by omega)
    conv=>whnf
    rw[hw];refine⟨by omega,?_⟩
    conv=>whnf
    refine od (zw _) rfl rfl ?_;have hsub:sub s 0 ((k+1:Nat):Int)=s.take (k+1):=by simp[sub]
    rw[hsub];by_cases hn:qb (s.take (k+1))
    ·rw [if_pos hn] at e1 ⊢;conv=>whnf
     refine brF (by decide) ?_
     conv=>whnf
     refine congrArg (DV.int _) ?_;rw[e1,hw]
    ·rw [if_neg hn] at e1 ⊢;conv=>whnf
     refine brT (by decide) ?_
     conv=>whnf
     exact congrArg (DV.int _) (by rw[e1];rfl)
  ·conv=>whnf
   exact congrArg (DV.int _) (by rw [hk.last (by simp at hge2;omega)];rfl)
 ·conv=>whnf
  exact congrArg (DV.int _) (by rw [hk.last (by simp at hge;omega)];rfl)
def qv8:Nat->List UInt8->Option (List (List UInt8))
 |_,[]=>some []
 |0,_ :: _=>none
 |m+1,a :: r=>if a.toNat<=r.length then (qv8 m (r.drop a.toNat)).map (r.take a.toNat :: ·) else none
def qu7(s:List UInt8):Option (List (List UInt8)):=qv8 s.length s
def wu(s:List UInt8):Bool:=match qu7 s with
 |some l=>decide (0<l.length)
 |none=>false
def TAt(s:List UInt8)(k:Nat)(l:List (List UInt8)):Prop:=k<=s.length/\l.length<=k/\∃ m,s.length<=k+m/\(qv8 m (s.drop k)).map (l ++ ·)=qu7 s
theorem TAt.zero(s:List UInt8):TAt s 0 []:=⟨pu _,pu _,s.length,by omega,by simp[qu7]⟩
theorem TAt.step{s:List UInt8}{k:Nat}{l:List (List UInt8)}(h:TAt s k l)(hk:k<s.length):(s.length<k+1+bt s k->qu7 s=none)/\(k+1+bt s k<=s.length->TAt s (k+1+bt s k) (l++[(s.drop (k+1)).take (bt s k)])):=by
 obtain⟨h1,h2,m,h3,h4⟩:=h;have hd:s.drop k=s[k] :: s.drop (k+1):=ly hk;have hb:bt s k=s[k].toNat:=by simp[bt,hk]
 cases m with
 |zero=>omega
 |succ m =>
  rw [hd] at h4;simp only [qv8,ow,<-hb] at h4
  refine⟨fun hlt=>?_,fun hle=>⟨hle,by simp;omega,m,by omega,?_⟩⟩
  ·rw [if_neg (by omega)] at h4
   simpa using h4.symm
  ·rw [if_pos (by omega),gy] at h4
   rw[<-h4];simp[Function.comp_def]
theorem TAt.last{s:List UInt8}{k:Nat}{l:List (List UInt8)}(h:TAt s k l)(hk:k=s.length):qu7 s=some l:=by
 obtain⟨h1,h2,m,h3,h4⟩:=h;rw[<-h4,hk,ao];cases m <;> simp[qv8]
theorem zy9(s:List UInt8)(hs:s.length<=4096):FnOk Tryz.prog 117 [.d (.str s)] (.tup [.any,.d (.bool (wu s))]):=by
 refine qp (TT:=TT) (IN:=qh []) qk qj mixed 1000 Tryz.func117 rfl (qi Tryz.func117 (by kernel_rfl) rfl) rfl 28 (by kernel_rfl) ?_
 conv=>whnf
 refine .nilT 4 9 1 (fun _=>[]) _ _ rfl ?_
 conv=>whnf
 refine .inv (Nat × List (List UInt8)) (fun p=>TAt s p.1 p.2) (fun p=>[(0,.d (.str (s.drop p.1))),(4,.all 0)]) (fun p=>[(0,.row 9 1 p.2.length .iff (strs p.2))]) (fun p=>s.length - p.1) ⟨(0,[]),[0],TAt.zero s,?_⟩ ?_
 ·conv=>whnf
  repeat'(first|exact ⟨⟩|exact rfl|apply And.intro)
  intro i hi;exact absurd hi (by simp)
 intro p hk;have hk0:p.1<=s.length:=hk.1
 have hk2:p.2.length<=p.1:=hk.2.1
 have hby:=u3 s p.1
 have hlen:(s.drop p.1).length=s.length - p.1:=by simp
 conv=>whnf
 refine⟨fun hne=>?_,fun heq=>?_⟩
 ·have hlt:p.1<s.length:=by
   rcases pz p.1 s.length with e|e
   ·exact e
   ·rw [dy e] at hne;simp at hne
  obtain⟨e1,e2⟩:=TAt.step hk hlt;have hb0:zc (s.drop p.1) 0=(bt s p.1:Int):=by
   rw[show(0:Int)=((0:Nat):Int) from rfl,z1];simp[bt]
  conv=>whnf
  refine⟨by omega,?_⟩
  have hsz:IntKind.i64.wrap (1+IntKind.i64.wrap (zc (s.drop p.1) 0))=((1+bt s p.1:Nat):Int):=by rw[hb0];simp(disch:=omega) only[qe];omega
  conv=>whnf
  rw[hsz];refine⟨fun hgt=>?_,fun hle=>?_⟩
  ·conv=>whnf
   refine⟨True.intro,?_,True.intro⟩;have:wu s=false:=by unfold wu;rw [e1 (by simp at hgt;omega)]
   rw[this];exact rfl
  ·have hle':p.1+1+bt s p.1<=s.length:=by simp at hle;omega
   conv=>whnf
   refine⟨by omega,?_⟩
   conv=>whnf
   refine⟨by omega,?_⟩
   conv=>whnf
   refine⟨by omega,?_⟩
   conv=>whnf
   refine⟨(p.1+1+bt s p.1,p.2++[(s.drop (p.1+1)).take (bt s p.1)]),[2],e2 hle',by show s.length - (p.1+1+bt s p.1)<s.length - p.1;omega,?_⟩
   conv=>whnf
   repeat'(first|exact ⟨⟩|exact rfl|apply And.intro)
   ·refine congrArg SV.d (congrArg DV.str ?_);show sub (s.drop p.1) _ _=s.drop (p.1+1+bt s p.1);simp only[sub,pp,gy];rw[gt (by simp;omega)]
    congr 1
    omega
   ·simp
   ·refine kp _ _ _ ?_;show[DV.str _]=[DV.str _]
    congr 2
    simp only[sub,pp,gy]
    rw[show(1:Int).toNat=1 from rfl];congr 1;omega
 ·have hke:p.1=s.length:=by
   simp at heq
   omega
  conv=>whnf
  refine⟨True.intro,?_,True.intro⟩;have:wu s=decide (0<p.2.length):=by unfold wu;rw[TAt.last hk hke]
  rw[this];refine congrArg DV.bool ?_;simp
def x7:Nat->List UInt8->Option (List (List UInt8) × List UInt8)
 |0,s=>some ([],s)
 |n+1,s=>if ji s=0 then none else (x7 n (s.drop (ji s))).map (fun p=>(s.take (ji s) :: p.1,p.2))
def cutF(a n c:Nat)(s:List UInt8):Option (List UInt8 × List (List UInt8) × List UInt8) :=
 if s.length<2 * a then none else (x7 n (s.drop (2 * a))).bind fun p=>if p.2.length=4 * c then some (s.take (2 * a),p.1,p.2) else none
def yw9(x:List UInt8)(l:List (List UInt8))(r:List UInt8):SV:=.agg [.d (.str x),.d (.sl (Nat.beq l.length 0) l.length 1 (strs l)),.d (.str r)]
def yu6:SV:=.agg [.d (.str []),nilS,.d (.str [])]
def cutR:Option (List UInt8 × List (List UInt8) × List UInt8)->SV
 |none=>.tup [yu6,.d .ff]
 |some (x,l,r)=>.tup [yw9 x l r,.d .tt]
structure NAt(n:Nat)(s:List UInt8)(i:Nat)(l:List (List UInt8))(r:List UInt8):Prop where
 le:i<=n
 len:l.length=i
 short:r.length<=s.length
 eq:(x7 (n - i) r).map (fun p=>(l++p.1,p.2))=x7 n s
theorem NAt.zero(n:Nat)(s:List UInt8):NAt n s 0 [] s:=⟨pu _,rfl,pq _,by simp⟩
theorem NAt.step{n:Nat}{s:List UInt8}{i:Nat}{l:List (List UInt8)}{r:List UInt8}(h:NAt n s i l r)(hi:i<n):(ji r=0->x7 n s=none)/\(ji r≠0->NAt n s (i+1) (l++[r.take (ji r)]) (r.drop (ji r))):=by
 have e:=h.eq
 rw [show n - i=(n - (i+1))+1 from by omega] at e
 simp only [x7] at e
 refine ⟨fun h0=>by rw [if_pos h0] at e;simpa using e.symm,fun h0=>⟨hi,by simp [h.len],by have:=h.short;simp;omega,?_⟩⟩
 rw [if_neg h0] at e;rw[<-e];simp[Function.comp_def]
theorem NAt.last{n:Nat}{s:List UInt8}{l:List (List UInt8)}{r:List UInt8}(h:NAt n s n l r):x7 n s=some (l,r):=by
 rw[<-h.eq];simp[x7]
theorem yx8(a n c:Nat)(ha:a<=100)(hn:n<=100)(hc:c<=100)(s:List UInt8):FnOk Tryz.prog 119 [.agg [.d (.int .i64 a),.d (.int .i64 n),.d (.int .i64 c)],.d (.str s)] (cutR (cutF a n c s)):=by
 refine qp (TT:=TT) (IN:=qh []) qk qj mixed 1000 Tryz.func119 rfl (qi Tryz.func119 (by kernel_rfl) rfl) rfl 56 (by kernel_rfl) ?_
 have h2a:IntKind.i64.wrap (2 * (a:Int))=((2 * a:Nat):Int):=by rw[qe _ (by omega)];omega
 have h4c:IntKind.i64.wrap (4 * (c:Int))=((4 * c:Nat):Int):=by rw[qe _ (by omega)];omega
 conv=>whnf
 rw[h2a];refine⟨fun hlt=>?_,fun hge=>?_⟩
 ·have:cutF a n c s=none:=by unfold cutF;rw [if_pos (by simp at hlt;omega)]
  rw[this];conv=>whnf
  repeat'(first|exact ⟨⟩|exact rfl|exact Or.inl rfl|exact .inr rfl|exact fun _ _=>rfl|apply And.intro)
 ·have hge':2 * a<=s.length:=by simp at hge;omega
  conv=>whnf
  rw[h2a];refine⟨by omega,?_⟩
  conv=>whnf
  rw[h2a];refine⟨by omega,?_⟩
  conv=>whnf
  refine .nilC 2 1 9 1 (fun _=>[]) _ _ _ _ rfl rfl ?_
  conv=>whnf
  have hr0:sub s ((2 * a:Nat):Int) (s.length:Int)=s.drop (2 * a):=by
   simp only[sub,pp]
   rw[gt (by simp)]
  have hx0:sub s 0 ((2 * a:Nat):Int)=s.take (2 * a):=by simp only[sub,pp];simp
  rw[hr0,hx0];refine .inv (Nat × List (List UInt8) × List UInt8) (fun p=>NAt n (s.drop (2 * a)) p.1 p.2.1 p.2.2) (fun p=>[(7,.d (.str p.2.2)),(29,.d (.int .i64 p.1))]) (fun p=>[(2,.cells 154 [.d (.str (s.take (2 * a))),.all 3,.d (.str [])]),(3,.row 9 1 p.2.1.length .iff (strs p.2.1))]) (fun p=>n - p.1) ⟨(0,[],s.drop (2 * a)),[0,1,2,3],NAt.zero _ _,?_⟩ ?_
  ·conv=>whnf
   repeat'(first|exact ⟨⟩|exact rfl|apply And.intro)
   intro i hi;omega
  intro p hp;have hp1:=hp.le
  have hp2:=hp.len
  have hp3:=hp.short
  have hf:=jb5 p.2.2
  simp only [ow] at hp3
  conv=>whnf
  refine⟨fun hlt=>?_,fun hge=>?_⟩
  ·have hi:p.1<n:=by simpa using hlt
   obtain⟨e1,e2⟩:=hp.step hi;conv=>whnf
   refine od (xe0 _) rfl rfl ?_
   conv=>whnf
   refine⟨fun h0=>?_,fun h0=>?_⟩
   ·have h0':ji p.2.2=0:=by simpa using h0
    have:cutF a n c s=none:=by unfold cutF;rw[if_neg (by omega),e1 h0'];rfl
    rw[this];conv=>whnf
    repeat'(first|exact ⟨⟩|exact rfl|exact Or.inl rfl|exact .inr rfl|exact fun _ _=>rfl|apply And.intro)
   ·have h0':ji p.2.2≠0:=by simpa using h0
    conv=>whnf
    refine⟨by omega,?_⟩
    conv=>whnf
    refine⟨by omega,?_⟩
    conv=>whnf
    refine⟨by omega,?_⟩
    conv=>whnf
    refine⟨(p.1+1,p.2.1++[p.2.2.take (ji p.2.2)],p.2.2.drop (ji p.2.2)),[0,1,2,5],e2 h0',by show n - (p.1+1)<n - p.1;omega,?_⟩
    have hw:IntKind.i64.wrap ((p.1:Int)+1)=((p.1+1:Nat):Int):=by rw[qe _ (by omega)];omega
    conv=>whnf
    repeat'(first|exact ⟨⟩|exact rfl|apply And.intro)
    ·refine congrArg SV.d (congrArg DV.str ?_);simp only[sub,pp];rw[gt (by simp)]
    ·exact congrArg SV.d (congrArg (DV.int _) hw)
    ·simp
    ·refine kp _ _ _ ?_;show[DV.str _]=[DV.str _]
     simp[sub]
  ·have hi:p.1=n:=by simp at hge;omega
   rw [hi] at hp;have hnm:=hp.last
   conv=>whnf
   rw[h4c];refine⟨fun hne=>?_,fun heq=>?_⟩
   ·have:cutF a n c s=none:=by unfold cutF;rw [if_neg (by omega),hnm];simp at hne ⊢;omega
    rw[this];conv=>whnf
    repeat'(first|exact ⟨⟩|exact rfl|exact Or.inl rfl|exact .inr rfl|exact fun _ _=>rfl|apply And.intro)
   ·have:cutF a n c s=some (s.take (2 * a),p.2.1,p.2.2):=by unfold cutF;rw [if_neg (by omega),hnm];simp at heq ⊢;omega
    rw[this];conv=>whnf
    repeat'(first|exact ⟨⟩|exact rfl|exact Or.inl rfl|exact .inr rfl|exact fun _ _=>rfl|apply And.intro)
def jh(t:Int):Option (Nat × Nat × Nat) :=
 if t=2\/t=5\/t=12 then some (0,1,0) else if t=15 then some (1,1,0) else if t=33 then some (3,1,0) else if t=6 then some (0,2,5) else none
def jv3(p:Nat × Nat × Nat):SV:=.agg [.d (.int .i64 p.1),.d (.int .i64 p.2.1),.d (.int .i64 p.2.2)]
def xo6:Option (Nat × Nat × Nat)->SV
 |some p=>.tup [jv3 p,.d .tt]
 |none=>.tup [jv3 (0,0,0),.d .ff]
theorem qt5{t:Int}{p:Nat × Nat × Nat}(h:jh t=some p):p.1<=100/\p.2.1<=100/\p.2.2<=100:=by
 unfold jh at h
 repeat'(split at h)
 all_goals first|(cases h;decide)|cases h
theorem yl4(t:Int):FnOk Tryz.prog 118 [.d (.int .u16 t)] (xo6 (jh t)):=by
 refine qp (TT:=TT) (IN:=qh []) qk qj mixed 1000 Tryz.func118 rfl (qi Tryz.func118 (by kernel_rfl) rfl) rfl 19 (by kernel_rfl) ?_
 have fin1:t=2\/t=5\/t=12->jh t=some (0,1,0):=fun h=>by unfold jh;rw[if_pos h]
 conv=>whnf
 refine⟨fun h1=>?_,fun h1=>?_⟩
 ·rw[fin1 (.inl (by simpa using h1))]
  conv=>whnf
  refine brT h1 ?_;conv=>whnf
  repeat'(first|exact ⟨⟩|exact rfl|apply And.intro)
 simp only [beq_eq_false_iff_ne,ne_eq] at h1
 conv=>whnf
 refine⟨fun h2=>?_,fun h2=>?_⟩
 ·rw[fin1 (.inr (.inl (by simpa using h2)))]
  conv=>whnf
  refine brT h2 ?_;conv=>whnf
  repeat'(first|exact ⟨⟩|exact rfl|apply And.intro)
 simp only [beq_eq_false_iff_ne,ne_eq] at h2
 conv=>whnf
 refine⟨fun h3=>?_,fun h3=>?_⟩
 ·rw[fin1 (.inr (.inr (by simpa using h3)))]
  conv=>whnf
  repeat'(first|exact ⟨⟩|exact rfl|apply And.intro)
 simp only [beq_eq_false_iff_ne,ne_eq] at h3
 conv=>whnf
 refine⟨fun h4=>?_,fun h4=>?_⟩
 ·have:jh t=some (1,1,0):=by unfold jh;simp at h4;simp [h4]
  rw[this];conv=>whnf
  repeat'(first|exact ⟨⟩|exact rfl|apply And.intro)
 simp only [beq_eq_false_iff_ne,ne_eq] at h4
 conv=>whnf
 refine⟨fun h5=>?_,fun h5=>?_⟩
 ·have:jh t=some (3,1,0):=by unfold jh;simp at h5;simp [h5]
  rw[this];conv=>whnf
  repeat'(first|exact ⟨⟩|exact rfl|apply And.intro)
 simp only [beq_eq_false_iff_ne,ne_eq] at h5
 conv=>whnf
 refine⟨fun h6=>?_,fun h6=>?_⟩
 ·have:jh t=some (0,2,5):=by unfold jh;simp at h6;simp [h6]
  rw[this];conv=>whnf
  repeat'(first|exact ⟨⟩|exact rfl|apply And.intro)
 simp only [beq_eq_false_iff_ne,ne_eq] at h6
 have:jh t=none:=by unfold jh;simp[h1,h2,h3,h4,h5,h6]
 rw[this];conv=>whnf
 repeat'(first|exact ⟨⟩|exact rfl|apply And.intro)
def jv(t:Int)(s:List UInt8):Bool :=
 if t=1 then s.length == 4 else if t=28 then s.length == 16 else if t=16 then wu s else match jh t with
 |some p=>(cutF p.1 p.2.1 p.2.2 s).isSome
 |none=>true
def q9(t:Int)(s:List UInt8):Bool:=decide (s.length<=4096) && jv t s
theorem jm6(t:Int)(s:List UInt8):FnOk Tryz.prog 89 [.d (.int .u16 t),.d (.str s)] (.d (.int .i64 (qr4 (q9 t s)))):=by
 refine qp (TT:=TT) (IN:=qh []) qk qj mixed 1000 Tryz.func89 rfl (qi Tryz.func89 (by kernel_rfl) rfl) rfl 43 (by kernel_rfl) ?_
 conv=>whnf
 refine⟨fun h0=>?_,fun h0=>?_⟩
 ·have:q9 t s=false:=by unfold q9;simp at h0;simp;intro h;omega
  rw[this];conv=>whnf
  exact rfl
 have hle:s.length<=4096:=by simp at h0;omega
 have hr:q9 t s=jv t s:=by unfold q9;simp[hle]
 rw[hr];have hlast:∀ b:Bool,jv t s=b->(((!b)=true->(if jv t s=true then (0:Int) else 2)=2)/\((!b)=false->(if jv t s=true then (0:Int) else 2)=0)):=fun b h=>by rw[h];cases b <;> simp
 conv=>whnf
 refine⟨fun h1=>?_,fun h1=>?_⟩
 ·simp only [beq_iff_eq] at h1
  have e:jv t s=((s.length:Int) == 4):=by unfold jv;rw[if_pos h1,<-qq9];rfl
  obtain⟨l1,l2⟩:=hlast _ e;conv=>whnf
  refine⟨fun h=>?_,fun h=>?_⟩
  ·conv=>whnf
   exact congrArg (DV.int _) (l1 h).symm
  ·conv=>whnf
   exact congrArg (DV.int _) (l2 h).symm
 simp only [beq_eq_false_iff_ne,ne_eq] at h1
 conv=>whnf
 refine⟨fun h2=>?_,fun h2=>?_⟩
 ·simp only [beq_iff_eq] at h2
  have e:jv t s=((s.length:Int) == 16):=by unfold jv;rw[if_neg h1,if_pos h2,<-qq9];rfl
  obtain⟨l1,l2⟩:=hlast _ e;conv=>whnf
  refine⟨fun h=>?_,fun h=>?_⟩
  ·conv=>whnf
   exact congrArg (DV.int _) (l1 h).symm
  ·conv=>whnf
   exact congrArg (DV.int _) (l2 h).symm
 simp only [beq_eq_false_iff_ne,ne_eq] at h2
 conv=>whnf
 refine⟨fun h3=>?_,fun h3=>?_⟩
 ·simp only [beq_iff_eq] at h3
  have e:jv t s=wu s:=by unfold jv;rw[if_neg h1,if_neg h2,if_pos h3]
  obtain⟨l1,l2⟩:=hlast _ e;conv=>whnf
  refine od (zy9 s hle) rfl rfl ?_;conv=>whnf
  refine⟨fun h=>?_,fun h=>?_⟩
  ·conv=>whnf
   exact congrArg (DV.int _) (l1 h).symm
  ·conv=>whnf
   exact congrArg (DV.int _) (l2 h).symm
 simp only [beq_eq_false_iff_ne,ne_eq] at h3
 conv=>whnf
 refine .one (.data _ (yl4 t) rfl ?_ ?_)
 ·cases jh t <;> rfl
 cases hf:jh t with
 |none =>
  have e:jv t s=true:=by unfold jv;rw[if_neg h1,if_neg h2,if_neg h3,hf]
  obtain⟨l1,l2⟩:=hlast _ e;conv=>whnf
  refine brF (by simpa using h0) ?_
  conv=>whnf
  exact congrArg (DV.int _) (l2 rfl).symm
 |some p =>
  obtain⟨f1,f2,f3⟩:=qt5 hf;have e:jv t s=(cutF p.1 p.2.1 p.2.2 s).isSome:=by unfold jv;rw[if_neg h1,if_neg h2,if_neg h3,hf]
  obtain⟨l1,l2⟩:=hlast _ e;conv=>whnf
  refine .one (.data _ (yx8 p.1 p.2.1 p.2.2 f1 f2 f3 s) rfl ?_ ?_)
  ·cases cutF p.1 p.2.1 p.2.2 s <;> rfl
  cases hc:cutF p.1 p.2.1 p.2.2 s with
  |none =>
   rw [hc] at l1;conv=>whnf
   exact congrArg (DV.int _) (l1 rfl).symm
  |some q =>
   rw [hc] at l2;conv=>whnf
   exact congrArg (DV.int _) (l2 rfl).symm
def xl(t:Int)(s:List UInt8):Option ((Nat × Nat × Nat) × (List UInt8 × List (List UInt8) × List UInt8)) :=
 if s.length<=4096 then (jh t).bind fun p=>(cutF p.1 p.2.1 p.2.2 s).map fun q=>(p,q) else none
def xo2:Option ((Nat × Nat × Nat) × (List UInt8 × List (List UInt8) × List UInt8))->SV
 |none=>.tup [.agg [.any,.any,.any],yu6,.d .ff]
 |some (p,x,l,r)=>.tup [jv3 p,yw9 x l r,.d .tt]
theorem xi8(t:Int)(s:List UInt8):FnOk Tryz.prog 90 [.d (.int .u16 t),.d (.str s)] (xo2 (xl t s)):=by
 refine qp (TT:=TT) (IN:=qh []) qk qj mixed 1000 Tryz.func90 rfl (qi Tryz.func90 (by kernel_rfl) rfl) rfl 32 (by kernel_rfl) ?_
 conv=>whnf
 refine .one (.data _ (yl4 t) rfl ?_ ?_)
 ·cases jh t <;> rfl
 cases hf:jh t with
 |none =>
  have e:xl t s=none:=by unfold xl;rw[hf];split <;> rfl
  rw[e];conv=>whnf
  repeat'(first|exact ⟨⟩|exact rfl|exact Or.inl rfl|exact .inr rfl|exact fun _ _=>rfl|apply And.intro)
 |some p =>
  obtain⟨f1,f2,f3⟩:=qt5 hf;conv=>whnf
  refine⟨fun hgt=>?_,fun hle=>?_⟩
  ·have e:xl t s=none:=by unfold xl;rw [if_neg (by simp at hgt;omega)]
   rw[e];conv=>whnf
   repeat'(first|exact ⟨⟩|exact rfl|exact Or.inl rfl|exact .inr rfl|exact fun _ _=>rfl|apply And.intro)
  ·have e:xl t s=(cutF p.1 p.2.1 p.2.2 s).map fun q=>(p,q):=by unfold xl;rw [if_pos (by simp at hle;omega),hf];rfl
   rw[e];conv=>whnf
   refine .one (.data _ (yx8 p.1 p.2.1 p.2.2 f1 f2 f3 s) rfl ?_ ?_)
   ·cases cutF p.1 p.2.1 p.2.2 s <;> rfl
   cases hc:cutF p.1 p.2.1 p.2.2 s with
   |none =>
    conv=>whnf
    (apply Exists.intro;apply Exists.intro;apply And.intro;focus ((conv=>whnf);repeat'(first|exact ⟨⟩|exact rfl|apply And.intro)))
    conv=>whnf
    repeat'(first|exact ⟨⟩|exact rfl|exact Or.inl rfl|exact .inr rfl|exact fun _ _=>rfl|apply And.intro)
   |some q =>
    conv=>whnf
    (apply Exists.intro;apply Exists.intro;apply And.intro;focus ((conv=>whnf);repeat'(first|exact ⟨⟩|exact rfl|apply And.intro)))
    conv=>whnf
    repeat'(first|exact ⟨⟩|exact rfl|exact Or.inl rfl|exact .inr rfl|exact fun _ _=>rfl|apply And.intro)
def qx(t:Int)(s:List UInt8):List UInt8:=match xl t s with
 |none=>s
 |some (_,x,l,r)=>x++fold (Lib.join l [])++r
theorem jc9(l:List (List UInt8)):Lib.join l []=l.flatten:=by
 induction l with
 |nil=>rfl
 |cons a l ih=>cases l with
  |nil=>simp[Lib.join]
  |cons b l=>simp [Lib.join] at ih ⊢;rw [ih]
theorem jl0:∀ (n:Nat) (s:List UInt8) (l:List (List UInt8)) (r:List UInt8),x7 n s=some (l,r)->l.length=n/\l.flatten.length+r.length=s.length:=by
 intro n;induction n with
 |zero=>intro s l r h;simp only [x7,mp,Prod.mk.injEq] at h;obtain ⟨rfl,rfl⟩:=h;simp
 |succ n ih =>
  intro s l r h;simp only [x7] at h
  split at h
  ·cases h
  ·cases hn:x7 n (s.drop (ji s)) with
   |none=>rw [hn] at h;cases h
   |some p =>
    rw [hn] at h;simp only [mn,mp,Prod.mk.injEq] at h
    obtain⟨rfl,rfl⟩:=h;obtain⟨h1,h2⟩:=ih _ p.1 p.2 hn;have:=jb5 s
    refine⟨by simp[h1],?_⟩
    simp only [List.flatten_cons,p7,m9,ow] at h2 ⊢
    omega
theorem zu9{t:Int}{s:List UInt8}{p:Nat × Nat × Nat}{x:List UInt8}{l:List (List UInt8)}{r:List UInt8}(h:xl t s=some (p,x,l,r)):s.length<=4096/\l.length<=100/\x.length+l.flatten.length+r.length=s.length:=by
 unfold xl at h
 split at h
 ·rename_i hs
  cases hf:jh t with
  |none=>rw [hf] at h;cases h
  |some q =>
   rw [hf] at h;simp only [f6] at h
   cases hc:cutF q.1 q.2.1 q.2.2 s with
   |none=>rw [hc] at h;cases h
   |some c =>
    rw [hc] at h;simp only [mn,mp,Prod.mk.injEq] at h
    obtain⟨rfl,rfl⟩:=h;unfold cutF at hc
    split at hc
    ·cases hc
    ·cases hn:x7 q.2.1 (s.drop (2 * q.1)) with
     |none=>rw [hn] at hc;cases hc
     |some y =>
      rw [hn] at hc;simp only [f6] at hc
      split at hc
      ·simp only [mp,Prod.mk.injEq] at hc
       obtain⟨rfl,rfl,rfl⟩:=hc;obtain⟨h1,h2⟩:=jl0 _ _ y.1 y.2 hn;have:=(qt5 hf).2.1;refine⟨hs,by omega,?_⟩
       simp only [m9,ow] at h2 ⊢
       omega
      ·cases hc
 ·cases h
theorem qt8(t:Int)(s:List UInt8):FnOk Tryz.prog 54 [.d (.int .u16 t),.d (.str s)] (.d (.str (qx t s))):=by
 refine qp (TT:=TT) (IN:=qh []) qk qj mixed 1000 Tryz.func54 rfl (qi Tryz.func54 (by kernel_rfl) rfl) rfl 26 (by kernel_rfl) ?_
 conv=>whnf
 refine .one (.data _ (xi8 t s) rfl ?_ ?_)
 ·cases xl t s <;> rfl
 cases hf:xl t s with
 |none =>
  have e:qx t s=s:=by unfold qx;rw[hf]
  rw[e];conv=>whnf
 |some p =>
  obtain⟨p,x,l,r⟩:=p;obtain⟨h1,h2,h3⟩:=zu9 hf;have e:qx t s=x++fold (Lib.join l [])++r:=by unfold qx;rw[hf]
  rw[e];conv=>whnf
  refine .data _ (xj1 _ l [] (by omega) (by rw[jc9];omega)) rfl rfl ?_
  conv=>whnf
  refine .data _ (zx _ (by rw[jc9];omega)) rfl rfl ?_
  have hfl:(fold (Lib.join l [])).length=l.flatten.length:=by rw[jc9];simp only[fold,o4]
  conv=>whnf
  refine⟨by omega,?_⟩
  conv=>whnf
  refine⟨by simp only[p7];omega,?_⟩
  conv=>whnf
def wh(t:Int):Bool->List UInt8->List (List UInt8)->Bool
 |_,_,[]=>true
 |b,last,d :: l=>q9 t d && !(b && (Op.bytesLess (qx t d) last || qx t d == last)) && wh t true (qx t d) l
def x6(name:List UInt8)(t ttl:Int)(l:List (List UInt8)):Bool :=
 qb name && decide (ttl<=2147483647) && decide (0<l.length/\l.length<=64) && wh t false [] l
def setV(name:List UInt8)(t ttl:Int)(b:Bool)(l:List (List UInt8)):SV:=.agg [.d (.str name),.d (.int .u16 t),.d (.int .u32 ttl),.d (.sl b l.length 1 (strs l))]
theorem ja4(name:List UInt8)(t ttl:Int)(b:Bool)(l:List (List UInt8)):FnOk Tryz.prog 51 [setV name t ttl b l] (.d (.int .i64 (qr4 (x6 name t ttl l)))):=by
 refine qp (TT:=TT) (IN:=qh []) qk qj mixed 1000 Tryz.func51 rfl (qi Tryz.func51 (by kernel_rfl) rfl) rfl 51 (by kernel_rfl) ?_
 have bad:x6 name t ttl l=false->qr4 (x6 name t ttl l)=2:=fun h=>by rw[h];rfl
 conv=>whnf
 refine od (zw _) rfl rfl ?_;by_cases hn:qb name
 ·rw[if_pos hn];conv=>whnf
  refine brF (by decide) ?_
  conv=>whnf
  refine⟨fun hgt=>?_,fun hle=>?_⟩
  ·rw [bad (by simp only [x6,rq,decide_eq_false_iff_not];simp at hgt;omega)]
   conv=>whnf
  conv=>whnf
  refine⟨fun h0=>?_,fun h0=>?_⟩
  ·rw [bad (by simp only [x6,rq,decide_eq_false_iff_not];simp at h0;simp [h0])]
   conv=>whnf
  conv=>whnf
  refine⟨fun h1=>?_,fun h1=>?_⟩
  ·rw [bad (by simp only [x6,rq,decide_eq_false_iff_not];simp at h1;omega)]
   conv=>whnf
  have hl:0<l.length/\l.length<=64:=by simp at h0 h1;exact ⟨by rw [s8];exact h0,by omega⟩
  have hsc:x6 name t ttl l=wh t false [] l:=by
   unfold x6
   rw[decide_eq_true hl];have:ttl<=2147483647:=by simpa using hle
   simp[hn,this]
  rw[hsc];conv=>whnf
  refine .inv (Nat × List UInt8) (fun p=>p.1<=l.length/\wh t (decide (0<p.1)) p.2 (l.drop p.1)=wh t false [] l) (fun p=>[(3,.d (.str p.2)),(29,.d (.int .i64 p.1))]) (fun p=>[]) (fun p=>l.length - p.1) ⟨(0,[]),[0],⟨by omega,rfl⟩,?_⟩ ?_
  ·conv=>whnf
   repeat'(first|exact ⟨⟩|exact rfl|apply And.intro)
  intro p hp;obtain⟨hp1,hp2⟩:=hp;conv=>whnf
  refine⟨fun hlt=>?_,fun hge=>?_⟩
  ·have hi:p.1<l.length:=by simpa using hlt
   have hd:l.drop p.1=l[p.1] :: l.drop (p.1+1):=ly hi
   rw [hd] at hp2;simp only [wh] at hp2
   conv=>whnf
   refine⟨by omega,?_⟩
   conv=>whnf
   have hel:l[((p.1:Nat):Int).toNat]?.getD []=l[p.1]:=by simp[hi]
   rw[hel];generalize hdd:l[p.1]=d at hp2 ⊢;refine od (jm6 t d) rfl rfl ?_;cases hr:q9 t d with
   |false =>
    rw [hr,lz,lz] at hp2;rw[show wh t false [] l=false from hp2.symm];conv=>whnf
    refine brT (by decide) ?_
    conv=>whnf
    exact rfl
   |true =>
    rw [hr,m6] at hp2;conv=>whnf
    refine brF (by decide) ?_
    conv=>whnf
    refine od (qt8 t d) rfl rfl ?_;conv=>whnf
    have fin:∀ z:Bool,((decide (0<p.1) && (Op.bytesLess (qx t d) p.2 || qx t d == p.2))=z)->z=false->wh t true (qx t d) (l.drop (p.1+1))=wh t false [] l:=fun z h1 h2=>by rw [h2] at h1;rw [h1] at hp2;simpa using hp2
    have hw:IntKind.i64.wrap ((p.1:Int)+1)=((p.1+1:Nat):Int):=by rw[qe _ (by omega)];omega
    refine⟨fun hg=>?_,fun hg=>?_⟩
    ·have hg':0<p.1:=by simp at hg;omega
     conv=>whnf
     refine⟨fun hle=>?_,fun hle=>?_⟩
     ·have:(Op.bytesLess (qx t d) p.2 || qx t d == p.2)=true:=hle
      rw [this] at hp2;rw [decide_eq_true hg'] at hp2;rw[show wh t false [] l=false from hp2.symm];conv=>whnf
      exact rfl
     ·conv=>whnf
      refine⟨(p.1+1,qx t d),[0],⟨hi,?_⟩,by show l.length - (p.1+1)<l.length - p.1;omega,?_⟩
      ·rw[decide_eq_true (Nat.succ_pos _)];exact fin _ rfl (by rw[show(Op.bytesLess (qx t d) p.2 || qx t d == p.2)=false from hle,lr])
      conv=>whnf
      repeat'(first|exact ⟨⟩|exact rfl|apply And.intro)
      all_goals exact congrArg SV.d (congrArg (DV.int _) hw)
    ·have hg':p.1=0:=by simp at hg;omega
     conv=>whnf
     refine⟨(p.1+1,qx t d),[0],⟨hi,?_⟩,by show l.length - (p.1+1)<l.length - p.1;omega,?_⟩
     ·rw[decide_eq_true (Nat.succ_pos _)];exact fin _ rfl (by rw[hg'];rfl)
     conv=>whnf
     repeat'(first|exact ⟨⟩|exact rfl|apply And.intro)
     all_goals exact congrArg SV.d (congrArg (DV.int _) hw)
  ·have hi:p.1=l.length:=by simp at hge;omega
   rw [hi,ao] at hp2;rw[<-hp2];conv=>whnf
   exact congrArg (DV.int _) rfl
 ·rw[if_neg hn];rw[bad (by simp[x6,hn])]
  conv=>whnf
  refine brT (by decide) ?_
  conv=>whnf
structure RR where
 nm:List UInt8
 ty:Int
 cl:Int
 ttl:Int
 d:List UInt8
deriving Inhabited,DecidableEq
def RR.enc(r:RR):List DV:=[.str r.nm,.int .u16 r.ty,.int .u16 r.cl,.int .u32 r.ttl,.str r.d]
def RR.V(r:RR):SV:=.agg [.d (.str r.nm),.d (.int .u16 r.ty),.d (.int .u16 r.cl),.d (.int .u32 r.ttl),.d (.str r.d)]
def RR.check(r:RR):Bool:=decide (qb r.nm) && q9 r.ty r.d && (decide (r.ttl<=2147483647) || r.ty == 41)
theorem qy8(r:RR):FnOk Tryz.prog 71 [r.V] (.d (.int .i64 (qr4 r.check))):=by
 refine qp (TT:=TT) (IN:=qh []) qk qj mixed 1000 Tryz.func71 rfl (qi Tryz.func71 (by kernel_rfl) rfl) rfl 22 (by kernel_rfl) ?_
 conv=>whnf
 refine od (zw r.nm) rfl rfl ?_;by_cases hn:qb r.nm
 ·rw[if_pos hn];conv=>whnf
  refine brF rfl ?_;conv=>whnf
  refine od (jm6 r.ty r.d) rfl rfl ?_;cases hc:q9 r.ty r.d
  ·have e:r.check=false:=by simp[RR.check,hc]
   rw[e];conv=>whnf
   refine brT rfl ?_;conv=>whnf
   exact rfl
  ·conv=>whnf
   refine brF rfl ?_;conv=>whnf
   refine⟨fun c1=>?_,fun c1=>?_⟩
   ·have c1':¬ r.ttl<=2147483647:=by
     have:r.ttl > 2147483647:=of_decide_eq_true c1
     omega
    conv=>whnf
    refine⟨fun c2=>?_,fun c2=>?_⟩
    ·have e:r.check=false:=by
      have:¬ r.ty=41:=by simpa using c2
      simp[RR.check,c1',this]
     rw[e];conv=>whnf
     exact rfl
    ·have e:r.check=true:=by
      have:r.ty=41:=by simpa using c2
      simp only[RR.check,hn,hc,decide_true,m6,dp,beq_iff_eq]
      exact .inr this
     rw[e];conv=>whnf
     exact rfl
   ·have c1':r.ttl<=2147483647:=by
     have:¬ r.ttl > 2147483647:=of_decide_eq_false c1
     omega
    have e:r.check=true:=by simp[RR.check,hn,hc,c1']
    rw[e];conv=>whnf
    exact rfl
 ·rw[if_neg hn];have e:r.check=false:=by simp[RR.check,hn]
  rw[e];conv=>whnf
  refine brT rfl ?_;conv=>whnf
  exact rfl
def rrsD(z:Bool)(l:List RR):DV:=.sl z l.length 5 (fun i=>(l.getD i default).enc)
theorem jg0(l:List RR)(q:RR)(j:Nat)(hj:j<l.length+1):catF l.length (fun j=>(l.getD j default).enc) (jd q.enc 5) j=((l++[q]).getD j default).enc:=by
 unfold catF
 split
 ·rename_i h
  show(l.getD j default).enc=_
  rw[List.getD,List.getD,p9 h]
 ·rename_i h
  have:j=l.length:=by omega
  subst this;rw[dq,List.getD,oz (pq _),dq];rfl
structure RR.Ok(r:RR):Prop where
 ty:0<=r.ty/\r.ty<=65535
 cl:0<=r.cl/\r.cl<=65535
 ttl:0<=r.ttl/\r.ttl<=4294967295
def jq(a b:List UInt8):Bool:=decide (qb a) && (decide (qb b) && fold a == fold b)
theorem qu4(s:List UInt8):(fold s).length=s.length:=by simp[fold]
theorem qy4{s:List UInt8}(h:qb s):s.length<9223372036854775808:=by have:=h.2.1;omega
def okL(l:List UInt8):Prop:=1<=l.length/\l.length<=63
def lab(l:List UInt8):List UInt8:=UInt8.ofNat l.length :: l
def mk:List (List UInt8)->List UInt8
 |[]=>[0]
 |l :: ls=>lab l++mk ls
theorem qg5(s:List UInt8)(k j:Nat):bt (s.drop k) j=bt s (k+j):=by simp[bt]
theorem yk2(s:List UInt8)(k:Nat):more s k↔more (s.drop k) 0:=by
 unfold more
 rw[qg5,f7,ow];omega
theorem ja1:∀ (m:Nat) (s:List UInt8) (k:Nat),k8 s m k=k+k8 (s.drop k) m 0
 |0,s,k=>rfl
 |m+1,s,k=>by
  simp only[k8]
  by_cases h:more s k
  ·rw[if_pos h,if_pos ((yk2 s k).1 h),ja1 m s,ja1 m (s.drop k),qg5,gy,show k+0=k from rfl];have e:k+(0+1+bt s k)=k+1+bt s k:=by omega
   rw[e];omega
  ·rw[if_neg h,if_neg (fun e=>h ((yk2 s k).2 e))]
   rfl
theorem jz1{n:Nat}(h:n<256):(UInt8.ofNat n).toNat=n:=by
 rw[UInt8.toNat_ofNat'];exact rt h
theorem uo(l t:List UInt8)(h:okL l):bt (lab l++t) 0=l.length:=by
 simp only[bt,lab,List.cons_append,aq,du]
 exact jz1 (by have:=h.2;omega)
theorem vw(l:List UInt8):(lab l).length=1+l.length:=by simp[lab];omega
theorem ql6(ls:List (List UInt8)):0<(mk ls).length:=by cases ls <;> simp[mk,lab]
theorem qu6(l t:List UInt8):(lab l++t).drop (1+l.length)=t:=by
 rw[<-vw l,sq]
theorem yn9(l t:List UInt8):(lab l++t).take (1+l.length)=lab l:=by
 rw[<-vw l,List.take_left]
theorem yu7:∀ (m:Nat) (s:List UInt8),0<s.length->k8 s m 0=s.length - 1->bt s (s.length - 1)=0->∃ ls,(∀ l ∈ ls,okL l)/\s=mk ls
 |m,s,h0,h1,h2=>by
  have leaf:s.length=1->∃ ls,(∀ l ∈ ls,okL l)/\s=mk ls:=fun hl=>by
   match s,hl with
   |[b],_ =>
    refine⟨[],(fun l h=>by cases h),?_⟩
    have:b.toNat=0:=by simpa[bt] using h2
    rw[mk,UInt8.toNat_inj.1 (show b.toNat=(0:UInt8).toNat from this)]
  cases m with
  |zero=>exact leaf (by simp [k8] at h1;omega)
  |succ m =>
   simp only [k8] at h1
   split at h1
   ·rename_i hm
    obtain⟨a1,a2,a3,a4⟩:=hm;rw [ja1] at h1;have hb:1+bt s 0<s.length:=by omega
    obtain⟨ls,i1,i2⟩:=yu7 m (s.drop (0+1+bt s 0)) (by rw[ow];omega) (by rw[ow];omega) (by
     rw[qg5,ow,show 0+1+bt s 0+(s.length - (0+1+bt s 0) - 1)=s.length - 1 by omega]
     exact h2)
    refine⟨(s.drop 1).take (bt s 0) :: ls,fun l hl=>?_,?_⟩
    ·rcases pr.1 hl with rfl|hl
     ·have:((s.drop 1).take (bt s 0)).length=bt s 0:=by simp;omega
      unfold okL
      omega
     ·exact i1 l hl
    ·rw[mk,<-i2];have hlen:((s.drop 1).take (bt s 0)).length=bt s 0:=by simp;omega
     unfold lab
     rw[hlen];match s,a1 with
     |b :: r,_ =>
      have e:bt (b :: r) 0=b.toNat:=by simp[bt]
      rw[e];simp[show 0+1+b.toNat=b.toNat+1 by omega]
   ·exact leaf (by omega)
theorem xe4(ls:List (List UInt8))(h:∀ l ∈ ls,okL l):∀ m,(mk ls).length<=m->k8 (mk ls) m 0=(mk ls).length - 1:=by
 induction ls with
 |nil =>
  intro m hm;cases m with
  |zero=>rfl
  |succ m =>
   show(if more [0] 0 then k8 [0] m (0+1+bt [0] 0) else 0)=0
   exact if_neg (by rintro ⟨_,h2,_⟩;exact h2 rfl)
 |cons l ls ih =>
  intro m hm;have hl:=h l (mq ..);have hb:=uo l (mk ls) hl;have hlen:(mk (l :: ls)).length=1+l.length+(mk ls).length:=by simp[mk,vw]
  have hp:=ql6 ls
  cases m with
  |zero=>omega
  |succ m =>
   simp only[k8]
   show(if more (mk (l :: ls)) 0 then k8 (mk (l :: ls)) m (0+1+bt (mk (l :: ls)) 0) else 0)=_
   have hbm:bt (mk (l :: ls)) 0=l.length:=hb
   rw[if_pos ⟨by omega,by rw[hbm];have:=hl.1;omega,by rw[hbm];exact hl.2,by rw[hbm];omega⟩,hbm,ja1,oo]
   have:(mk (l :: ls)).drop (1+l.length)=mk ls:=qu6 l (mk ls)
   rw[this,ih (fun x hx=>h x (mw _ hx)) m (by omega)]
   omega
theorem xi9(ls:List (List UInt8)):bt (mk ls) ((mk ls).length - 1)=0:=by
 induction ls with
 |nil=>rfl
 |cons l ls ih =>
  have hlen:(mk (l :: ls)).length=1+l.length+(mk ls).length:=by simp[mk,vw]
  have hp:=ql6 ls
  have e:(mk (l :: ls)).drop (1+l.length)=mk ls:=qu6 l (mk ls)
  have:=qg5 (mk (l :: ls)) (1+l.length) ((mk ls).length - 1)
  rw [e,ih] at this;rw[hlen,show 1+l.length+(mk ls).length - 1=1+l.length+((mk ls).length - 1) by omega]
  exact this.symm
theorem qt0(s:List UInt8):qb s↔s.length<=255/\∃ ls,(∀ l ∈ ls,okL l)/\s=mk ls:=by
 constructor
 ·rintro ⟨h1,h2,h3,h4⟩
  exact⟨h2,yu7 s.length s h1 h3 (by rw[<-h3];exact h4)⟩
 ·rintro ⟨h1,ls,h2,rfl⟩
  have:=xe4 ls h2 (mk ls).length (pq _)
  exact⟨ql6 ls,h1,this,by unfold qw1;rw[this];exact xi9 ls⟩
theorem jg3:∀ {a b:List (List UInt8)},(∀ l ∈ a,okL l)->(∀ l ∈ b,okL l)->mk a=mk b->a=b
 |[],[],_,_,_=>rfl
 |[],l :: b,_,hb,h=>by
  have h1:=hb l (mq ..)
  have:=uo l (mk b) h1
  rw [show lab l++mk b=mk (l :: b) from rfl,<-h] at this;have h2:=h1.1;have:(0:Nat)=l.length:=this;omega
 |l :: a,[],ha,_,h=>by
  have h1:=ha l (mq ..)
  have:=uo l (mk a) h1
  rw [show lab l++mk a=mk (l :: a) from rfl,h] at this;have h2:=h1.1;have:(0:Nat)=l.length:=this;omega
 |l :: a,k :: b,ha,hb,h=>by
  have h1:=uo l (mk a) (ha l (mq ..))
  have h2:=uo k (mk b) (hb k (mq ..))
  have hlen:l.length=k.length:=by
   rw[<-h1,<-h2];show bt (mk (l :: a)) 0=bt (mk (k :: b)) 0;rw[h]
  have e1:lab l=lab k:=by
   have:=congrArg (List.take (1+l.length)) h
   rw [show mk (l :: a)=lab l++mk a from rfl,yn9,hlen,show mk (k :: b)=lab k++mk b from rfl,yn9] at this;exact this
  have e2:mk a=mk b:=by
   have:=congrArg (List.drop (1+l.length)) h
   rw [show mk (l :: a)=lab l++mk a from rfl,qu6,hlen,show mk (k :: b)=lab k++mk b from rfl,qu6] at this;exact this
  have e3:l=k:=(my e1).2
  rw[e3,jg3 (fun x hx=>ha x (mw _ hx)) (fun x hx=>hb x (mw _ hx)) e2]
def labs:List (List UInt8)->List UInt8
 |[]=>[]
 |l :: ls=>lab l++labs ls
theorem ya8(a b:List (List UInt8)):labs (a++b)=labs a++labs b:=by
 induction a with
 |nil=>rfl
 |cons l a ih=>simp[labs,ih]
theorem jf3(a:List (List UInt8)):labs a++[0]=mk a:=by
 induction a with
 |nil=>rfl
 |cons l a ih=>simp[labs,mk,<-ih]
theorem jn1(ls:List (List UInt8))(l:List UInt8):labs (ls++[l])=labs ls++lab l:=by
 rw[ya8];simp[labs]
theorem yb3(s:List UInt8):∀ m k,kx s m k≠0->qb (s.take (kx s m k)):=by
 intro m;induction m with
 |zero=>intro k h;exact absurd rfl h
 |succ m ih =>
  intro k h;simp only [kx] at h ⊢
  split at h
  ·rename_i h1
   rw[if_pos h1];split at h
   ·rename_i h2
    rw[if_pos h2];split at h
    ·rename_i h3
     rw[if_pos h3];exact h3
    ·exact absurd rfl h
   ·rename_i h2
    rw[if_neg h2];exact ih _ h
  ·exact absurd rfl h
theorem ya7:∀ (l:List (List UInt8)),l.length<=(labs l).length
 |[]=>pq _
 |x :: l=>by
  show l.length+1<=(lab x++labs l).length
  rw[p7,vw];have:=ya7 l
  omega
def qa7:Nat->List UInt8->Option (List (List UInt8))
 |0,_=>none
 |m+1,r=>if r.length=0 then none else if bt r 0=0 then (if r.length=1 then some [] else none) else
  if bt r 0 > 63\/1+bt r 0 > r.length then none else (qa7 m (r.drop (1+bt r 0))).map (fun ls=>(r.drop 1).take (bt r 0) :: ls)
def je(s:List UInt8):Option (List (List UInt8)):=if s.length > 255 then none else qa7 (s.length+1) s
theorem qy3(l:List UInt8)(ls:List (List UInt8)):(mk (l :: ls)).length=1+l.length+(mk ls).length:=by simp[mk,vw]
theorem yh5:∀ (m:Nat) (r:List UInt8) (ls:List (List UInt8)),qa7 m r=some ls->(∀ l ∈ ls,okL l)/\r=mk ls
 |0,_,_,h=>by cases h
 |m+1,r,ls,h=>by
  unfold qa7 at h
  split at h
  ·cases h
  ·rename_i h0
   split at h
   ·rename_i h1
    split at h
    ·rename_i h2
     cases h
     refine⟨fun l hl=>(by cases hl),?_⟩
     match r,h2 with
     |[b],_ =>
      have:b.toNat=0:=by simpa[bt] using h1
      rw[mk,UInt8.toNat_inj.1 (show b.toNat=(0:UInt8).toNat from this)]
    ·cases h
   ·rename_i h1
    split at h
    ·cases h
    ·rename_i h2
     obtain⟨ks,hk,rfl⟩:=gx.1 h;obtain⟨a1,a2⟩:=yh5 m _ ks hk
     have hlen:((r.drop 1).take (bt r 0)).length=bt r 0:=by simp;omega
     refine⟨fun l hl=>?_,?_⟩
     ·rcases pr.1 hl with rfl|hl
      ·unfold okL;omega
      ·exact a1 l hl
     ·rw[mk,<-a2];unfold lab
      rw[hlen];match r,h0 with
      |b :: r,_ =>
       have e:bt (b :: r) 0=b.toNat:=by simp[bt]
       rw[e];simp[show 1+b.toNat=b.toNat+1 by omega]
theorem yh4:∀ (ls:List (List UInt8)) (m:Nat),(∀ l ∈ ls,okL l)->(mk ls).length<=m->qa7 m (mk ls)=some ls
 |[],m,_,hm=>by
  cases m with
  |zero =>
   have:(mk []).length=1:=rfl
   omega
  |succ m=>rfl
 |l :: ls,m,h,hm=>by
  have hl:=h l (mq ..)
  have hlen:=qy3 l ls
  have hp:=ql6 ls
  cases m with
  |zero=>omega
  |succ m =>
   have hb:bt (mk (l :: ls)) 0=l.length:=uo l (mk ls) hl
   have h1:=hl.1
   have h2:=hl.2
   unfold qa7
   rw[if_neg (by omega),hb,if_neg (by omega),if_neg (by omega)]
   have hd:(mk (l :: ls)).drop (1+l.length)=mk ls:=qu6 l (mk ls)
   rw[hd,yh4 ls m (fun x hx=>h x (mw _ hx)) (by omega)]
   show some ((((mk (l :: ls)).drop 1).take l.length) :: ls)=_
   have:((mk (l :: ls)).drop 1)=l++mk ls:=rfl
   rw[this,List.take_left]
theorem ya9{s:List UInt8}{ls:List (List UInt8)}(h:je s=some ls):s.length<=255/\(∀ l ∈ ls,okL l)/\s=mk ls:=by
 unfold je at h
 split at h
 ·cases h
 ·exact⟨by omega,yh5 _ _ _ h⟩
theorem zh5{ls:List (List UInt8)}(h:∀ l ∈ ls,okL l)(hl:(mk ls).length<=255):je (mk ls)=some ls:=by
 unfold je
 rw[if_neg (by omega)]
 exact yh4 ls _ h (by omega)
theorem qs1(s:List UInt8):qb s↔(je s).isSome=true:=by
 rw[qt0];constructor
 ·rintro ⟨h1,ls,h2,rfl⟩
  rw[zh5 h2 h1];rfl
 ·intro h;obtain⟨ls,hls⟩:=ru.1 h;obtain⟨h1,h2,h3⟩:=ya9 hls;exact⟨h1,ls,h2,h3⟩
def labN(n:List UInt8):List (List UInt8):=(je n).getD []
def fl(n:List UInt8):List (List UInt8):=(labN n).map fold
theorem xp{n:List UInt8}(h:qb n):n.length<=255/\(∀ l ∈ labN n,okL l)/\n=mk (labN n):=by
 obtain⟨ls,e⟩:=ru.1 ((qs1 n).1 h);have:=ya9 e;unfold labN;rw[e];exact this
theorem qz1(s:List UInt8):(fold s).length=s.length:=by simp[fold]
theorem xb8{l:List UInt8}(h:okL l):okL (fold l):=by unfold okL at *;rw [qz1];exact h
theorem zu8{k:Nat}(h:k<=63):low (UInt8.ofNat k)=UInt8.ofNat k:=by
 apply UInt8.toNat_inj.1;rw[qd2,jz1 (by omega)]
 rw[if_neg (by omega)]
theorem xd8{l:List UInt8}(h:okL l):fold (lab l)=lab (fold l):=by
 unfold lab
 rw[qz1];show low (UInt8.ofNat l.length) :: fold l=_;rw[zu8 h.2]
theorem zh9(a b:List UInt8):fold (a++b)=fold a++fold b:=by unfold fold;rw[fx]
theorem jr9:∀ {ls:List (List UInt8)},(∀ l ∈ ls,okL l)->fold (mk ls)=mk (ls.map fold)
 |[],_=>rfl
 |l :: ls,h=>by
  show fold (lab l++mk ls)=lab (fold l)++mk (ls.map fold)
  rw[zh9,xd8 (h l (by simp)),jr9 (fun x hx=>h x (by simp[hx]))]
theorem qx4{n:List UInt8}(h:qb n):∀ l ∈ fl n,okL l:=fun l hl=>by
 obtain⟨x,hx,rfl⟩:=o5.1 hl;exact xb8 ((xp h).2.1 x hx)
theorem vx{n:List UInt8}(h:qb n):fold n=mk (fl n):=by
 obtain⟨_,h2,h3⟩:=xp h;conv=>lhs;rw[h3]
 exact jr9 h2
def qu(ls:List (List UInt8))(i:Nat):Nat:=(labs (ls.take i)).length
theorem qz8{ls:List (List UInt8)}{i:Nat}{l:List UInt8}(h:ls[i]? = some l):qu ls (i+1)=qu ls i+1+l.length:=by
 unfold qu
 rw[mr,h];show(labs (ls.take i++[l])).length=_;rw[ya8,p7];show _+(lab l++[]).length=_;rw[mv,vw];omega
theorem jf1:∀ (a b:List (List UInt8)),mk (a++b)=labs a++mk b
 |[],_=>rfl
 |l :: a,b=>by
  show lab l++mk (a++b)=(lab l++labs a)++mk b
  rw[jf1 a b,gv]
theorem jd3(ls:List (List UInt8))(i:Nat):(mk ls).drop (qu ls i)=mk (ls.drop i):=by
 have e:mk ls=labs (ls.take i)++mk (ls.drop i):=by rw[<-jf1,cn]
 unfold qu
 conv=>lhs;rw[e]
 rw[sq]
theorem jt3(ls:List (List UInt8))(i:Nat):qu ls i<(mk ls).length:=by
 have e:mk ls=labs (ls.take i)++mk (ls.drop i):=by rw[<-jf1,cn]
 rw[e,p7];have:=ql6 (ls.drop i);unfold qu;omega
theorem yu2(ls:List (List UInt8))(i:Nat):qu ls i+(mk (ls.drop i)).length=(mk ls).length:=by
 have e:mk ls=labs (ls.take i)++mk (ls.drop i):=by rw[<-jf1,cn]
 conv=>rhs;rw[e]
 rw[p7];rfl
theorem ju1{ls:List (List UInt8)}(h:∀ l ∈ ls,okL l){i:Nat}{l:List UInt8}(hi:ls[i]? = some l):bt (mk ls) (qu ls i)=l.length:=by
 have hd:=jd3 ls i
 have hlt:=(po.1 hi).1
 have e:ls.drop i=l :: ls.drop (i+1):=by
  rw[ly hlt,(po.1 hi).2]
 have:=qg5 (mk ls) (qu ls i) 0
 rw [f7] at this;rw[<-this,hd,e];exact uo l (mk (ls.drop (i+1))) (h l (py hi))
theorem ju2(ls:List (List UInt8)):bt (mk ls) (qu ls ls.length)=0:=by
 have hd:=jd3 ls ls.length
 have:=qg5 (mk ls) (qu ls ls.length) 0
 rw [f7] at this;rw[<-this,hd,ao];rfl
theorem yu3(ls:List (List UInt8)):qu ls ls.length+1=(mk ls).length:=by
 have:=yu2 ls ls.length
 rw [ao] at this;exact this
theorem jp2{ls:List (List UInt8)}{i j:Nat}(h:i<j)(hj:j<=ls.length):qu ls i<qu ls j:=by
 induction j with
 |zero=>omega
 |succ j ih =>
  have hs:ls[j]? = some ls[j]:=pn (by omega)
  have:=qz8 hs
  rcases pz i j with hl|hl
  ·have:=ih hl (by omega);omega
  ·have:i=j:=by omega
   subst this;omega
def qd(n z:List UInt8):Bool:=decide (qb n) && (decide (qb z) && (fl z).isSuffixOf (fl n))
theorem withinN_iff{n z:List UInt8}:qd n z=true↔qb n/\qb z/\∃ j,j<=(labN n).length/\(fl n).drop j=fl z:=by
 unfold qd
 simp only[px,decide_eq_true_eq,sr]
 refine and_congr_right fun h1=>and_congr_right fun h2=>?_
 constructor
 ·intro h;have hl:=h.length_le
  refine⟨(fl n).length - (fl z).length,by unfold fl;simp,?_⟩
  exact(List.suffix_iff_eq_drop.1 h).symm
 ·rintro ⟨j,_,e⟩
  rw[<-e];exact List.drop_suffix j (fl n)
theorem yh0{n z:List UInt8}(hn:qb n)(hz:qb z){j:Nat}(hp:qu (labN n) j+z.length=n.length):(fold (n.drop (qu (labN n) j))=fold z)↔(fl n).drop j=fl z:=by
 obtain⟨_,h2,h3⟩:=xp hn;have hd:n.drop (qu (labN n) j)=mk ((labN n).drop j):=by
  have:=jd3 (labN n) j
  rw [<-h3] at this;exact this
 have h4:∀ l ∈ (labN n).drop j,okL l:=fun l hl=>h2 l (co hl)
 rw[hd,jr9 h4,vx hz];have e:((labN n).drop j).map fold=(fl n).drop j:=by unfold fl;rw[List.map_drop]
 rw[e];refine⟨fun h=>jg3 (fun l hl=>qx4 hn l (co hl)) (qx4 hz) h,fun h=>by rw[h]⟩
theorem jj7:∀ {ls:List (List UInt8)},(mk (ls.map fold)).length=(mk ls).length
 |[]=>rfl
 |l :: ls=>by
  show(lab (fold l)++mk (ls.map fold)).length=(lab l++mk ls).length
  rw[p7,p7,vw,vw,qz1,jj7]
theorem yc6{n z:List UInt8}(hn:qb n)(hz:qb z){j:Nat}(h:(fl n).drop j=fl z):qu (labN n) j+z.length=n.length:=by
 obtain⟨_,_,h3⟩:=xp hn;obtain⟨_,_,h4⟩:=xp hz;have e:(mk ((labN n).drop j)).length=z.length:=by
  have:mk (((labN n).drop j).map fold)=mk ((labN z).map fold):=by
   rw[List.map_drop];exact congrArg mk h
  have:=congrArg List.length this
  rw [jj7,jj7,<-h4] at this;exact this
 rw[<-e];conv=>rhs;rw[h3]
 exact yu2 (labN n) j
theorem xc7{ls:List (List UInt8)}{i:Nat}{l:List UInt8}(hi:ls[i]? = some l):((mk ls).drop (qu ls i+1)).take l.length=l:=by
 have hd:=jd3 ls i
 have hlt:=(po.1 hi).1
 have e:ls.drop i=l :: ls.drop (i+1):=by
  rw[ly hlt,(po.1 hi).2]
 rw[<-gy,hd,e];show((UInt8.ofNat l.length :: l++mk (ls.drop (i+1))).drop 1).take l.length=l;simp
theorem qj2{n:List UInt8}(h:qb n):qb (fold n):=by
 rw[vx h];refine(qt0 _).2 ⟨?_,fl n,qx4 h,rfl⟩;rw[<-vx h,qz1];exact(xp h).1
theorem qt4{n:List UInt8}(h:qb n):labN (fold n)=fl n:=by
 obtain⟨_,h2,h3⟩:=xp (qj2 h);have h3:=(vx h).symm.trans h3;exact(jg3 (qx4 h) h2 h3).symm
def AnL:List SV->List SV->Prop
 |[],[]=>True
 |a :: l,b :: m=>(b = .any\/a=b)/\AnL l m
 |_,_=>False
theorem AnL.len:∀ {l m:List SV},AnL l m->l.length=m.length
 |[],[],_=>rfl
 |_ :: _,_ :: _,h=>congrArg (· + 1) (AnL.len h.2)
theorem AnL.at:∀ {l m:List SV},AnL l m->∀ (j:Nat) (s t:SV),l[j]? = some s->m[j]? = some t->t = .any\/s=t
 |[],[],_,_,_,_,ht,_=>by simp at ht
 |_ :: _,_ :: _,h,0,s,t,hs,ht=>by simp at hs ht;subst hs ht;exact h.1
 |_ :: l,_ :: m,h,j+1,s,t,hs,ht=>AnL.at (l:=l) (m:=m) h.2 j s t (by simpa using hs) (by simpa using ht)
theorem COk.anyA{P:Program}{f:FuncId}{args args':List SV}{ks:List KB}{R:SV->List KB->Prop}(h:COk P f args ks R)(hc:AnL args' args):COk P f args' ks R :=
 ⟨h.1,fun X w β fp vs hM hl hd=>h.2 X w β fp vs hM (by rw[<-hc.len,hl]) (fun j s u hs hu=>by
  have hj:j<args'.length:=by rw[hc.len];exact(po.1 hs).1
  have hb:=hd j _ u (pn hj) hu
  rcases hc.at j _ s (pn hj) hs with e|e
  ·subst e;exact .any u
  ·rw[<-e];exact hb)⟩
theorem qa{n:Nat}(z:Z):SubZ n z z:=by cases z <;> exact True.intro
def iV(x:Nat):SV:=.d (.int .i64 (x:Int))
instance (s:List UInt8):Decidable (qb s):=by unfold qb;infer_instance
theorem jc1(s:List UInt8)(a:Nat):sub s (a:Int) (s.length:Int)=s.drop a:=by
 unfold sub
 rw[pp,pp,gt (by simp)]
def qg(n:List UInt8):Nat:=if qb n then (labN n).length else 0
theorem jd4(n:List UInt8):FnOk Tryz.prog 24 [.d (.str n)] (.d (.int .i64 (qg n:Nat))):=by
 refine qp (TT:=TT) (IN:=qh [(56,Tryz.f56,1),(92,Tryz.f92,2),(27,Tryz.f27,1),(59,Tryz.f59,2)]) qk (jj (jj (jj (jj qj Tryz.func59 (by kernel_rfl) (by kernel_rfl)) Tryz.func27 (by kernel_rfl) (by kernel_rfl)) Tryz.func92 (by kernel_rfl) (by kernel_rfl)) Tryz.func56 (by kernel_rfl) (by kernel_rfl)) mixed 1000 Tryz.func24 rfl (qi Tryz.func24 (by kernel_rfl) rfl) rfl 9 (by kernel_rfl) ?_
 conv=>whnf
 refine od (zw n) rfl rfl ?_;by_cases hn:qb n;case neg =>
  rw[if_neg hn,show qg n=0 from if_neg hn];conv=>whnf
  refine brT rfl ?_;conv=>whnf
  try exact rfl
 rw[if_pos hn,show qg n=(labN n).length from if_pos hn];conv=>whnf
 refine brF rfl ?_;conv=>whnf
 obtain⟨hn1,hn2,hn3⟩:=xp hn;have hend:∀ i,qu (labN n) i<n.length:=fun i=>by have:=jt3 (labN n) i;rw [<-hn3] at this;exact this
 have hbt:∀ i l,(labN n)[i]? = some l->bt n (qu (labN n) i)=l.length:=fun i l h=>by
  have:=ju1 hn2 h
  rw [<-hn3] at this;exact this
 have hbe:bt n (qu (labN n) (labN n).length)=0:=by
  have:=ju2 (labN n)
  rw [<-hn3] at this;exact this
 have hll:=yu3 (labN n)
 rw [<-hn3] at hll;generalize labN n=ls at hn2 hn3 hend hbt hbe hll;have hcnt:∀ i,i<=ls.length->i<=qu ls i:=fun i=>by
  induction i with
  |zero=>intro _;exact pu _
  |succ i ih =>
   intro h;have:=ih (by omega)
   have:=jp2 (ls:=ls) (i:=i) (j:=i+1) (by omega) h
   omega
 have hlc:=hcnt ls.length (pq _)
 refine .inv Nat (fun i=>i<=ls.length) (fun i=>[(3,iV (qu ls i))]) (fun i=>[(0,.cells 3 [iV i]),(4,.cells 3 [iV (qu ls i)])]) (fun i=>ls.length - i) ⟨0,[0,1,2,3,4,5,6],pu _,?_⟩ ?_
 ·conv=>whnf
  repeat'(first|exact ⟨⟩|exact rfl|exact qa _|exact .inr rfl|exact fun _ _=>rfl|exact noI|apply And.intro)
 intro i hi;have hp:=hend i
 conv=>whnf
 refine brT (decide_eq_true (by omega)) ?_
 conv=>whnf
 refine⟨by omega,?_⟩
 conv=>whnf
 rw[z1,qe (bt n (qu ls i):Int) (by have:=u3 n (qu ls i);omega)]
 rcases pz i ls.length with hlt|hge
 ·have hli:ls[i]? = some ls[i]:=pn hlt
  have hb:=hbt i _ hli
  have hok:=hn2 _ (d5 hlt)
  have hps:=qz8 hli
  have hp2:=hend (i+1)
  rw[hb];generalize ls[i]=l at hli hb hok hps;obtain⟨ho1,ho2⟩:=hok;refine brF (by rw[beq_eq_false_iff_ne];omega) ?_
  conv=>whnf
  refine brF (decide_eq_false (by omega)) ?_
  conv=>whnf
  have e1:IntKind.i64.wrap ((n.length:Int) - (qu ls i:Int))=((n.length - qu ls i:Nat):Int):=by rw[qe _ (by omega)];omega
  rw[e1];refine brF (decide_eq_false (by omega)) ?_
  conv=>whnf
  have e2:IntKind.i64.wrap ((qu ls i:Int)+IntKind.i64.wrap (1+(l.length:Int)))=((qu ls (i+1):Nat):Int):=by rw[qe (1+(l.length:Int)) (by omega),qe _ (by omega)];omega
  rw[e2];have e3:IntKind.i64.wrap ((qu ls i:Int)+1)=((qu ls i+1:Nat):Int):=by rw[qe _ (by omega)];omega
  have e4:=w64s i (by omega)
  rw[e3];refine⟨by omega,?_⟩
  conv=>whnf
  rw[e4];refine⟨i+1,[0,1,2,3,4,5,6],hlt,by omega,?_⟩
  conv=>whnf
  repeat'(first|exact ⟨⟩|exact rfl|exact qa _|exact .inr rfl|exact fun _ _=>rfl|exact noI|apply And.intro)
 ·have hil:i=ls.length:=by omega
  subst hil;rw[hbe];conv=>whnf
  refine brT rfl ?_;conv=>whnf
  try exact rfl
structure Zo where
 apex:List UInt8
 z:Bool
 rrs:List RR
instance:Inhabited Zo:=⟨⟨[],true,[]⟩⟩
def zr(apex:List UInt8)(r:RR):Bool:=r.cl == 1 && (r.ty != 41 && (r.ttl != 0 && (r.check && qd r.nm apex)))
def keyZ(r:RR):List UInt8 × Int × Int × List UInt8:=(fold r.nm,r.ty,r.cl,qx r.ty r.d)
def cntZ(p:RR->Bool)(l:List RR)(n:List UInt8):Nat:=(l.filter fun r=>fold r.nm == n && p r).length
def zn(r:RR):Bool:=r.ty == 6
def isNs(r:RR):Bool:=r.ty == 2
def w5(r:RR):Bool:=r.ty == 5
def jx(r:RR):Bool:=r.ty == 1 || r.ty == 28
def anyR(_:RR):Bool:=true
def upsF:Nat->List UInt8->List (List UInt8)
 |0,_=>[]
 |k+1,n=>n :: (if n=[0] then [] else upsF k (n.drop (1+bt n 0)))
def upsN(n:List UInt8):List (List UInt8):=if qb n then upsF n.length n else []
def zp(l:List RR)(name top:List UInt8):List (List UInt8)->Bool
 |[]=>true
 |u :: r=>if u=top then true else if u≠name/\0<cntZ isNs l u then cntZ anyR l name == cntZ jx l name else zp l name top r
def jb(l:List RR)(top name:List UInt8):Bool :=
 if 0<cntZ w5 l name/\1<cntZ anyR l name then false else if name=top then true
 else if 0<cntZ zn l name\/(0<cntZ isNs l name/\cntZ isNs l name+cntZ jx l name<cntZ anyR l name) then false
 else zp l name top (upsN name)
def xu(z:Zo):Bool:=cntZ zn z.rrs (fold z.apex) == 1 && (cntZ isNs z.rrs (fold z.apex) != 0 && z.rrs.all fun r=>jb z.rrs (fold z.apex) (fold r.nm))
def qd8:List RR->Bool
 |[]=>true
 |r :: l=>(l.all fun x=>keyZ x != keyZ r) && qd8 l
def Zo.ok(z:Zo):Bool:=decide (qb z.apex) && (decide (z.rrs.length<=256) && (z.rrs.all (zr z.apex) && (qd8 z.rrs && xu z)))
def Zo.cutL(z:Zo):List (List UInt8):=(z.rrs.filter fun r=>isNs r && !jq r.nm z.apex).map (·.nm)
section
section
variable{K V:Type}[DecidableEq K]
def aget:List (K × V)->K->Option V
 |[],_=>none
 |e :: l,k=>if k=e.1 then some e.2 else aget l k
def aput:List (K × V)->K->V->List (K × V)
 |[],k,v=>[(k,v)]
 |e :: l,k,v=>if k=e.1 then (k,v) :: l else e :: aput l k v
theorem qo6(l:List (K × V))(k:K)(v:V)(k':K):aget (aput l k v) k'=if k'=k then some v else aget l k':=by
 induction l with
 |nil=>simp[aput,aget]
 |cons e l ih =>
  simp only[aput]
  split
  ·rename_i h
   subst h;simp only[aget]
   split <;> simp_all
  ·rename_i h
   simp only[aget,ih]
   split
   ·rename_i h1
    rw[if_neg (fun e1:k'=k=>h (e1.symm.trans h1))]
   ·rfl
def aenc(ek:K->List DV)(ev:V->List SV)(l:List (K × V)):List (List DV × List SV):=l.map fun e=>(ek e.1,ev e.2)
theorem zv{ek:K->List DV}{ev:V->List SV}(hk:∀ a b,jm (ek a) (ek b)=decide (a=b))(l:List (K × V))(k:K):zo (aenc ek ev l) (ek k)=(aget l k).map ev:=by
 induction l with
 |nil=>rfl
 |cons e l ih =>
  show(if jm (ek k) (ek e.1) then some (ev e.2) else zo (aenc ek ev l) (ek k))=_
  rw[hk,ih,aget];by_cases h:k=e.1
  ·simp[h]
  ·simp[h]
theorem qa5{ek:K->List DV}{ev:V->List SV}(hk:∀ a b,jm (ek a) (ek b)=decide (a=b))(l:List (K × V))(k:K)(v:V):putM (aenc ek ev l) (ek k) (ev v)=aenc ek ev (aput l k v):=by
 induction l with
 |nil=>rfl
 |cons e l ih =>
  show(if jm (ek k) (ek e.1) then _ else (ek e.1,ev e.2) :: putM (aenc ek ev l) (ek k) (ev v))=_
  rw[hk,ih,aput];by_cases h:k=e.1
  ·simp[h,aenc]
  ·simp[h,aenc]
end
def strK(s:List UInt8):List DV:=[.str s]
theorem yt(a b:List UInt8):jm (strK a) (strK b)=decide (a=b):=by
 rw[lw];simp[strK,jm,dEq]
def xk(k:List UInt8 × Int × Int × List UInt8):List DV:=[.str k.1,.int .u16 k.2.1,.int .u16 k.2.2.1,.str k.2.2.2]
theorem yo4(a b:List UInt8 × Int × Int × List UInt8):jm (xk a) (xk b)=decide (a=b):=by
 rw[lw];obtain⟨a1,a2,a3,a4⟩:=a;obtain⟨b1,b2,b3,b4⟩:=b;simp[xk,jm,dEq,kEq]
structure Hd where
 all:Nat
 soa:Nat
 ns:Nat
 alias:Nat
 addr:Nat
deriving DecidableEq
def Hd.no:Hd:=⟨0,0,0,0,0⟩
def Hd.enc(h:Hd):List SV:=[.d (.int .i64 (h.all:Nat)),.d (.int .i64 (h.soa:Nat)),.d (.int .i64 (h.ns:Nat)),.d (.int .i64 (h.alias:Nat)),.d (.int .i64 (h.addr:Nat))]
def Hd.add(h:Hd)(r:RR):Hd:=⟨h.all+1,if r.ty=6 then h.soa+1 else h.soa,if r.ty=2 then h.ns+1 else h.ns,if r.ty=5 then h.alias+1 else h.alias,if r.ty=1\/r.ty=28 then h.addr+1 else h.addr⟩
def yd(l:List RR)(n:List UInt8):Hd:=⟨cntZ anyR l n,cntZ zn l n,cntZ isNs l n,cntZ w5 l n,cntZ jx l n⟩
def qf:List RR->List (List UInt8 × Hd)
 |l=>l.foldl (fun m r=>aput m (fold r.nm) (((aget m (fold r.nm)).getD Hd.no).add r)) []
theorem xf0(p:RR->Bool)(l:List RR)(r:RR)(n:List UInt8):cntZ p (l++[r]) n=cntZ p l n+(if fold r.nm=n/\p r=true then 1 else 0):=by
 unfold cntZ
 rw[f8,p7];congr 1
 by_cases h:fold r.nm=n <;> cases hp:p r <;> simp[h,hp]
theorem u9(l:List RR)(r:RR):qf (l++[r])=aput (qf l) (fold r.nm) (((aget (qf l) (fold r.nm)).getD Hd.no).add r):=by
 unfold qf
 rw[List.foldl_append];rfl
theorem zo0(l:List RR)(r:RR)(n:List UInt8):yd (l++[r]) n=if n=fold r.nm then (yd l n).add r else yd l n:=by
 unfold yd Hd.add
 simp only[xf0]
 by_cases h:n=fold r.nm
 ·rw[if_pos h];have h':fold r.nm=n:=h.symm
  simp only[h',true_and,anyR,zn,isNs,w5,jx,if_true,beq_iff_eq,dp]
  congr 1 <;> (split <;> rfl)
 ·rw[if_neg h];have h':¬ fold r.nm=n:=fun e=>h e.symm
  simp[h']
theorem qk4{α:Type}{P:List α->Prop}(h0:P [])(h1:∀ l a,P l->P (l++[a])):∀ l,P l:=fun l=>by
 rw[<-l.reverse_reverse];induction l.reverse with
 |nil=>exact h0
 |cons a m ih=>rw[List.reverse_cons];exact h1 _ _ ih
theorem qj9(l:List RR)(n:List UInt8):(aget (qf l) n).getD Hd.no=yd l n:=by
 refine qk4 (P:=fun l=>(aget (qf l) n).getD Hd.no=yd l n) rfl (fun l r ih=>?_) l
 ·rw[u9,qo6,zo0];by_cases h:n=fold r.nm
  ·rw[if_pos h,if_pos h,<-h,ih];rfl
  ·rw[if_neg h,if_neg h,ih]
theorem xg3{K V:Type}[DecidableEq K]{l:List (K × V)}{k:K}{v:V}(h:aget l k=some v):(k,v) ∈ l:=by
 induction l with
 |nil=>cases h
 |cons e l ih =>
  simp only [aget] at h
  split at h
  ·rename_i e1
   simp only [mp] at h
   subst e1 h;exact mq ..
  ·exact mw _ (ih h)
def Keys{K V:Type}(l:List (K × V)):Prop:=l.Pairwise fun e e'=>e.1≠e'.1
theorem yp8{K V:Type}[DecidableEq K]{l:List (K × V)}(hk:Keys l){e:K × V}(h:e ∈ l):aget l e.1=some e.2:=by
 induction l with
 |nil=>cases h
 |cons x l ih =>
  obtain⟨h1,h2⟩:=gz.1 hk;simp only[aget]
  rcases pr.1 h with rfl|h
  ·rw[if_pos rfl]
  ·rw[if_neg (fun e1=>h1 e h e1.symm),ih h2 h]
theorem ys4{K V:Type}[DecidableEq K]{l:List (K × V)}{k:K}{v:V}{e:K × V}(h:e ∈ aput l k v):e=(k,v)\/e ∈ l:=by
 induction l with
 |nil=>exact .inl (by simpa[aput] using h)
 |cons x l ih =>
  simp only [aput] at h
  split at h
  ·rcases pr.1 h with rfl|h
   ·exact .inl rfl
   ·exact .inr (mw _ h)
  ·rcases pr.1 h with rfl|h
   ·exact .inr (mq ..)
   ·exact(ih h).imp id (mw _)
theorem zx6{K V:Type}[DecidableEq K]{l:List (K × V)}(hk:Keys l)(k:K)(v:V):Keys (aput l k v):=by
 induction l with
 |nil=>exact List.pairwise_singleton _ _
 |cons x l ih =>
  obtain⟨h1,h2⟩:=gz.1 hk;simp only[aput]
  split
  ·rename_i e
   subst e;exact gz.2 ⟨h1,h2⟩
  ·rename_i e
   refine gz.2 ⟨fun y hy=>?_,ih h2⟩
   rcases ys4 hy with rfl|hy
   ·exact fun e1=>e e1.symm
   ·exact h1 y hy
theorem ya3(l:List RR):Keys (qf l):=by
 refine qk4 (P:=fun l=>Keys (qf l)) List.Pairwise.nil (fun l r ih=>?_) l
 rw[u9];exact zx6 ih _ _
theorem zn2{l:List RR}{e:List UInt8 × Hd}(h:e ∈ qf l):e.2=yd l e.1:=by
 have:=qj9 l e.1
 rw [yp8 (ya3 l) h] at this;exact this
theorem yk1{l:List RR}{e:List UInt8 × Hd}(h:e ∈ qf l):∃ r ∈ l,fold r.nm=e.1:=by
 revert e
 refine qk4 (P:=fun l=>∀ {e:List UInt8 × Hd},e ∈ qf l->∃ r ∈ l,fold r.nm=e.1) (fun h=>by cases h) (fun l r ih e h=>?_) l
 rw [u9] at h;rcases ys4 h with rfl|h
 ·exact⟨r,by simp,rfl⟩
 ·obtain⟨x,hx,e1⟩:=ih h;exact⟨x,by simp[hx],e1⟩
theorem zn3{l:List RR}{r:RR}(h:r ∈ l):∃ e ∈ qf l,e.1=fold r.nm:=by
 revert r
 refine qk4 (P:=fun l=>∀ {r:RR},r ∈ l->∃ e ∈ qf l,e.1=fold r.nm) (fun h=>by cases h) (fun l x ih r h=>?_) l
 have hget:∀ k,(aget (qf (l++[x])) k).isSome->∃ e ∈ qf (l++[x]),e.1=k:=fun k hk=>by
  obtain⟨v,hv⟩:=ru.1 hk;exact⟨(k,v),xg3 hv,rfl⟩
 refine hget _ ?_;rw[u9,qo6];split
 ·rfl
 ·rename_i hne
  rcases ox.1 h with h|h
  ·obtain⟨e,he,e1⟩:=ih h;rw[<-e1,yp8 (ya3 l) he];rfl
  ·simp at h
   subst h;exact absurd rfl hne
theorem zu2(l:List RR)(p:List UInt8->Bool):((qf l).all fun e=>p e.1)=l.all fun r=>p (fold r.nm):=by
 rw[lw,gn,gn];constructor
 ·intro h r hr;obtain⟨e,he,e1⟩:=zn3 hr;rw[<-e1];exact h e he
 ·intro h e he;obtain⟨r,hr,e1⟩:=yk1 he;rw[<-e1];exact h r hr
theorem ys3{K V:Type}[DecidableEq K]{l:List (K × V)}{k:K}(h:aget l k=none)(v:V):aput l k v=l++[(k,v)]:=by
 induction l with
 |nil=>rfl
 |cons x l ih =>
  simp only [aget] at h
  split at h
  ·cases h
  ·rename_i hne
   simp only[aput]
   rw[if_neg hne,ih h];rfl
def j4(l:List RR):List ((List UInt8 × Int × Int × List UInt8) × Nat):=l.map fun r=>(keyZ r,1)
theorem xa1(l:List RR)(k:List UInt8 × Int × Int × List UInt8):aget (j4 l) k=if l.any (fun r=>keyZ r == k) then some 1 else none:=by
 induction l with
 |nil=>rfl
 |cons r l ih =>
  show(if k=keyZ r then some 1 else aget (j4 l) k)=_
  rw[ih,List.any_cons];by_cases h:k=keyZ r
  ·subst h;simp
  ·have h':(keyZ r == k)=false:=by simpa using fun e=>h e.symm
   rw[if_neg h,h',rv]
theorem zr8(l:List RR)(r:RR):j4 (l++[r])=j4 l++[(keyZ r,1)]:=by unfold j4;simp
theorem zu0(l:List RR)(r:RR):qd8 (l++[r])=(qd8 l && !l.any (fun x=>keyZ x == keyZ r)):=by
 induction l with
 |nil=>rfl
 |cons x l ih =>
  show(((l++[r]).all fun y=>keyZ y != keyZ x) && qd8 (l++[r]))=((l.all fun y=>keyZ y != keyZ x) && qd8 l && !((keyZ x == keyZ r) || l.any fun y=>keyZ y == keyZ r))
  rw[ih,bn,List.all_cons,List.all_nil,Bool.and_true];have e:(keyZ r != keyZ x) = !(keyZ x == keyZ r):=by
   rw[lw];simp only[bne_iff_ne,ct,beq_eq_false_iff_ne]
   exact⟨fun h e=>h e.symm,fun h e=>h e.symm⟩
  rw[e];cases (l.all fun y=>keyZ y != keyZ x) <;> cases qd8 l <;> cases (keyZ x == keyZ r) <;> cases (l.any fun y=>keyZ y == keyZ r) <;> rfl
def xr(apex:List UInt8)(l:List RR):Bool:=l.all (zr apex) && qd8 l
theorem yd0(apex:List UInt8)(l:List RR)(r:RR):xr apex (l++[r])=(xr apex l && (zr apex r && !l.any (fun x=>keyZ x == keyZ r))):=by
 unfold xr
 rw[zu0,bn,List.all_cons,List.all_nil,Bool.and_true];cases l.all (zr apex) <;> cases qd8 l <;> cases zr apex r <;> cases (l.any fun y=>keyZ y == keyZ r) <;> rfl
theorem zq7{apex:List UInt8}{l:List RR}{i:Nat}(h:xr apex (l.take i)=false):xr apex l=false:=by
 have hl:l=l.take i++l.drop i:=(cn i l).symm
 cases e:xr apex l with
 |false=>rfl
 |true =>
  exfalso
  have:∀ (m n:List RR),xr apex (m++n)=true->xr apex m=true:=by
   intro m n;refine qk4 (P:=fun n=>xr apex (m++n)=true->xr apex m=true) (fun h=>by rwa [mv] at h) (fun n r ih h=>?_) n
   rw [<-gv,yd0,px] at h;exact ih h.1
  rw [hl] at e;rw [this _ _ e] at h;cases h
theorem Zo.ok_eq(z:Zo):z.ok=(decide (qb z.apex) && (decide (z.rrs.length<=256) && (xr z.apex z.rrs && xu z))):=by
 unfold Zo.ok xr
 rw[Bool.and_assoc (z.rrs.all (zr z.apex))]
end
theorem zk2{n z:List UInt8}(hn:qb n)(hz:qb z)(hl:z.length<=n.length)(b:Bool)(hb:b=true↔∃ j,j<=(labN n).length/\qu (labN n) j=n.length - z.length) :
 (b && (fold (n.drop (n.length - z.length)) == fold z))=qd n z:=by
 rw[lw,withinN_iff,px,hb,beq_iff_eq];constructor
 ·rintro ⟨⟨j,hj,hp⟩,hf⟩
  refine⟨hn,hz,j,hj,?_⟩;exact(yh0 hn hz (j:=j) (by omega)).1 (by rw[hp];exact hf)
 ·rintro ⟨_,_,j,hj,hf⟩
  have hp:=yc6 hn hz hf
  refine⟨⟨j,hj,by omega⟩,?_⟩
  have:=(yh0 hn hz (j:=j) hp).2 hf
  rwa [show qu (labN n) j=n.length - z.length by omega] at this
theorem zf1{n z:List UInt8}(hl:n.length<z.length):qd n z=false:=by
 cases h:qd n z
 ·rfl
 ·obtain⟨hn,hz,j,_,hf⟩:=withinN_iff.1 h;have:=yc6 hn hz hf
  omega
theorem qa1(n z:List UInt8):FnOk Tryz.prog 13 [.d (.str n),.d (.str z)] (.d (.bool (qd n z))):=by
 refine qp (TT:=TT) (IN:=qh [(27,Tryz.f27,1),(59,Tryz.f59,2)]) qk (jj (jj qj Tryz.func59 (by kernel_rfl) (by kernel_rfl)) Tryz.func27 (by kernel_rfl) (by kernel_rfl)) mixed 1000 Tryz.func13 rfl (qi Tryz.func13 (by kernel_rfl) rfl) rfl 50 (by kernel_rfl) ?_
 conv=>whnf
 refine od (zw n) rfl rfl ?_;by_cases hn:qb n;case neg =>
  rw[if_neg hn,show qd n z=false by unfold qd;rw[decide_eq_false hn];rfl]
  conv=>whnf
  repeat(first|(refine brT rfl ?_;conv=>whnf))
  try exact rfl
 rw[if_pos hn];conv=>whnf
 refine brF rfl ?_;conv=>whnf
 refine od (zw z) rfl rfl ?_;by_cases hz:qb z;case neg =>
  rw[if_neg hz,show qd n z=false by unfold qd;rw[decide_eq_false hz,lz,lr]]
  conv=>whnf
  repeat(first|(refine brT rfl ?_;conv=>whnf))
  try exact rfl
 rw[if_pos hz];conv=>whnf
 refine brF rfl ?_;conv=>whnf
 refine⟨fun h1=>?_,fun h1=>?_⟩
 ·have h1:(z.length:Int) > n.length:=of_decide_eq_true h1
  rw[zf1 (by omega)]
  conv=>whnf
  try exact rfl
 have h1:¬ (z.length:Int) > n.length:=of_decide_eq_false h1
 obtain⟨hn1,hn2,hn3⟩:=xp hn;have hz1:=hz.2.1
 have hmw:IntKind.i64.wrap ((n.length:Int) - (z.length:Int))=((n.length - z.length:Nat):Int):=by rw[qe _ (by omega)];omega
 have hlaw:=zk2 hn hz (by omega)
 have hzero:(((n.length - z.length:Nat):Int) == 0)=decide (n.length - z.length=0):=by rw[lw];simp
 conv=>whnf
 rw[hmw,hzero];have hend:∀ i,qu (labN n) i<n.length:=fun i=>by have:=jt3 (labN n) i;rw [<-hn3] at this;exact this
 have hbt:∀ i l,(labN n)[i]? = some l->bt n (qu (labN n) i)=l.length:=fun i l h=>by
  have:=ju1 hn2 h
  rw [<-hn3] at this;exact this
 have hbe:bt n (qu (labN n) (labN n).length)=0:=by
  have:=ju2 (labN n)
  rw [<-hn3] at this;exact this
 generalize labN n=ls at hn2 hn3 hlaw hend hbt hbe;obtain⟨m,hm⟩:∃ m,n.length - z.length=m:=⟨_,rfl⟩;rw [hm] at hlaw ⊢;refine .inv Nat (fun i=>i<=ls.length/\∀ j,0<j->j<=i->qu ls j<m) (fun i=>[(3,iV (qu ls i))]) (fun _=>[]) (fun i=>ls.length - i) ⟨0,[0,1,2,3],⟨pu _,fun j h1 h2=>by omega⟩,?_⟩ ?_
 ·conv=>whnf
  repeat'(first|exact ⟨⟩|exact rfl|exact qa _|exact .inr rfl|exact fun _ _=>rfl|exact noI|apply And.intro)
 intro i hi;obtain⟨hi1,hi2⟩:=hi;have hp:=hend i
 conv=>whnf
 refine brT (decide_eq_true (by omega)) ?_
 conv=>whnf
 refine⟨by omega,?_⟩
 conv=>whnf
 rw[z1,qe (bt n (qu ls i):Int) (by have:=u3 n (qu ls i);omega)]
 rcases pz i ls.length with hlt|hge
 ·have hli:ls[i]? = some ls[i]:=pn hlt
  have hb:=hbt i _ hli
  have hok:=hn2 _ (d5 hlt)
  have hps:=qz8 hli
  have hp2:=hend (i+1)
  rw[hb];generalize ls[i]=l at hli hb hok hps;obtain⟨ho1,ho2⟩:=hok;refine brF (by rw[beq_eq_false_iff_ne];omega) ?_
  conv=>whnf
  refine brF (decide_eq_false (by omega)) ?_
  conv=>whnf
  have e1:IntKind.i64.wrap ((n.length:Int) - (qu ls i:Int))=((n.length - qu ls i:Nat):Int):=by rw[qe _ (by omega)];omega
  rw[e1];refine brF (decide_eq_false (by omega)) ?_
  conv=>whnf
  have e2:IntKind.i64.wrap ((qu ls i:Int)+IntKind.i64.wrap (1+(l.length:Int)))=((qu ls (i+1):Nat):Int):=by rw[qe (1+(l.length:Int)) (by omega),qe _ (by omega)];omega
  rw[e2];refine⟨fun h2=>?_,fun h2=>?_⟩
  ·have h2:m<=qu ls (i+1):=by
    have h:((qu ls (i+1):Nat):Int) >= (m:Int):=of_decide_eq_true h2
    omega
   conv=>whnf
   refine⟨fun h3=>?_,fun h3=>?_⟩
   ·have h3:m=0:=of_decide_eq_true h3
    conv=>whnf
    rw[<-hlaw true ⟨fun _=>⟨0,pu _,h3.symm⟩,fun _=>rfl⟩]
    refine⟨by omega,?_⟩
    conv=>whnf
    rw[jc1];refine od (zx _ (by rw[ow];omega)) rfl rfl ?_
    conv=>whnf
    refine od (zx z (by omega)) rfl rfl ?_
    conv=>whnf
    try exact rfl
   ·have h3:¬ m=0:=of_decide_eq_false h3
    conv=>whnf
    refine⟨fun h4=>?_,fun h4=>?_⟩
    ·have h4:qu ls (i+1)=m:=by simp at h4;omega
     conv=>whnf
     rw[<-hlaw true ⟨fun _=>⟨i+1,hlt,h4⟩,fun _=>rfl⟩]
     refine⟨by omega,?_⟩
     conv=>whnf
     rw[jc1];refine od (zx _ (by rw[ow];omega)) rfl rfl ?_
     conv=>whnf
     refine od (zx z (by omega)) rfl rfl ?_
     conv=>whnf
     try exact rfl
    ·have h4:¬ qu ls (i+1)=m:=by simp at h4;omega
     have hno:¬ ∃ j,j<=ls.length/\qu ls j=m:=by
      rintro ⟨j,j1,j2⟩
      rcases d6 j (i+1) with x|x|x
      ·rcases gw j with y|y
       ·subst y;exact h3 j2.symm
       ·have:=hi2 j y (by omega);omega
      ·subst x;exact h4 j2
      ·have:=jp2 x j1;omega
     rw[<-hlaw false ⟨fun h=>(by cases h),fun h=>absurd h hno⟩]
     conv=>whnf
     try exact rfl
  ·have h2:qu ls (i+1)<m:=by
    have h:¬ ((qu ls (i+1):Nat):Int) >= (m:Int):=of_decide_eq_false h2
    omega
   conv=>whnf
   refine⟨i+1,[0,1,2,3],⟨hlt,fun j k1 k2=>?_⟩,by omega,?_⟩
   ·rcases pz j (i+1) with x|x
    ·exact hi2 j k1 (by omega)
    ·rw[show j=i+1 by omega];exact h2
   conv=>whnf
   repeat'(first|exact ⟨⟩|exact rfl|exact qa _|exact .inr rfl|exact fun _ _=>rfl|exact noI|apply And.intro)
 ·have hil:i=ls.length:=by omega
  subst hil;rw[hbe];conv=>whnf
  refine brT rfl ?_;conv=>whnf
  refine⟨fun h3=>?_,fun h3=>?_⟩
  ·have h3:m=0:=of_decide_eq_true h3
   conv=>whnf
   rw[<-hlaw true ⟨fun _=>⟨0,pu _,h3.symm⟩,fun _=>rfl⟩]
   refine⟨by omega,?_⟩
   conv=>whnf
   rw[jc1];refine od (zx _ (by rw[ow];omega)) rfl rfl ?_
   conv=>whnf
   refine od (zx z (by omega)) rfl rfl ?_
   conv=>whnf
   try exact rfl
  ·have h3:¬ m=0:=of_decide_eq_false h3
   have hno:¬ ∃ j,j<=ls.length/\qu ls j=m:=by
    rintro ⟨j,j1,j2⟩
    rcases gw j with y|y
    ·subst y;exact h3 j2.symm
    ·have:=hi2 j y j1;omega
   rw[<-hlaw false ⟨fun h=>(by cases h),fun h=>absurd h hno⟩]
   conv=>whnf
   try exact rfl
section
def rot{α:Type}(p:Nat->α)(a m b:Nat):Nat->α:=fun x=>if a<=x/\x<a+(b - m) then p (x+(m - a)) else if a+(b - m)<=x/\x<b then p (x - (b - m)) else p x
def swp{α:Type}(p:Nat->α)(a b n:Nat):Nat->α:=fun x=>if a<=x/\x<a+n then p (x+(b - a)) else if b<=x/\x<b+n then p (x - (b - a)) else p x
theorem qo9{α:Type}(p:Nat->α)(a b:Nat)(h:a<=b):rot p a a b=p:=by
 funext x;unfold rot;(try dsimp only);repeat' split
 all_goals first|rfl|(exfalso;omega)|(congr 1;omega)
theorem je7{α:Type}(p:Nat->α)(a b:Nat)(h:a<=b):rot p a b b=p:=by
 funext x;unfold rot;(try dsimp only);repeat' split
 all_goals first|rfl|(exfalso;omega)|(congr 1;omega)
theorem yo1{α:Type}(p:Nat->α)(a b:Nat):swp p a b 0=p:=by
 funext x;unfold swp;(try dsimp only);repeat' split
 all_goals first|rfl|(exfalso;omega)
theorem yo7{α:Type}(p:Nat->α)(m i j:Nat)(hi:j<i)(him:i<=m):rot (swp p (m - i) m j) (m - (i - j)) m (m+j)=rot p (m - i) m (m+j):=by
 funext x;unfold rot swp;try dsimp only
 repeat' split
 all_goals first|rfl|(exfalso;omega)|(congr 1;omega)
theorem yi5{α:Type}(p:Nat->α)(m i j:Nat)(hi:i<j)(him:i<=m):rot (swp p (m - i) (m+j - i) i) (m - i) m (m+(j - i))=rot p (m - i) m (m+j):=by
 funext x;unfold rot swp;try dsimp only
 repeat' split
 all_goals first|rfl|(exfalso;omega)|(congr 1;omega)
theorem yo6{α:Type}(p:Nat->α)(m i:Nat)(him:i<=m):swp p (m - i) m i=rot p (m - i) m (m+i):=by
 funext x;unfold rot swp;try dsimp only
 repeat' split
 all_goals first|rfl|(exfalso;omega)|(congr 1;omega)
theorem yt9{α:Type}(p:Nat->α)(a b n:Nat)(hb:a+n<b):swp (swp p a b n) (a+n) (b+n) 1=swp p a b (n+1):=by
 funext x;unfold swp;try dsimp only
 repeat' split
 all_goals first|rfl|(exfalso;omega)|(congr 1;omega)
theorem yw6{α:Type}(p:Nat->α)(a k:Nat)(h:a<=k):swp (rot p a (a+1) (k+1)) k (k+1) 1=rot p a (a+1) (k+2):=by
 funext x;unfold rot swp;try dsimp only
 repeat' split
 all_goals first|rfl|(exfalso;omega)|(congr 1;omega)
theorem jc2{α:Type}(p:Nat->α)(m k:Nat)(h:k+1<=m):swp (rot p (k+1) m (m+1)) k (k+1) 1=rot p k m (m+1):=by
 funext x;unfold rot swp;try dsimp only
 repeat' split
 all_goals first|rfl|(exfalso;omega)|(congr 1;omega)
structure Inj(n:Nat)(p:Nat->Nat):Prop where
 lt:∀ i,i<n->p i<n
 un:∀ i j,i<n->j<n->p i=p j->i=j
theorem Inj.surj:∀ {n:Nat} {p:Nat->Nat},Inj n p->∀ j,j<n->∃ i,i<n/\p i=j
 |0,_,_=>fun j h=>absurd h (by omega)
 |n+1,p,h=>fun j hj=>by
  have ih:=Inj.surj (n:=n) (p:=fun i=>if p i=n then p n else p i) ⟨fun i hi=>by
   have:=h.lt i (by omega)
   have:=h.lt n (by omega)
   show(if p i=n then p n else p i)<n
   split
   ·rename_i e
    rcases pz (p n) n with hl|hl
    ·exact hl
    ·have:=h.un i n (by omega) (by omega) (by omega)
     omega
   ·omega,fun i k hi hk e=>by
   have e:(if p i=n then p n else p i)=(if p k=n then p n else p k):=e
   split at e <;> split at e
   ·exact h.un i k (by omega) (by omega) (by omega)
   ·have:=h.un n k (by omega) (by omega) e
    omega
   ·have:=h.un i n (by omega) (by omega) e
    omega
   ·exact h.un i k (by omega) (by omega) e⟩
  rcases pz j n with hl|hl
  ·obtain⟨i,hi,e⟩:=ih j hl;have e:(if p i=n then p n else p i)=j:=e;split at e
   ·exact⟨n,by omega,e⟩
   ·exact⟨i,by omega,e⟩
  ·have hj:j=n:=by omega
   subst hj;rcases pz (p j) j with hl|hl
   ·obtain⟨i,hi,e⟩:=ih (p j) hl;have e:(if p i=j then p j else p i)=p j:=e;split at e
    ·rename_i e2;exact⟨i,by omega,e2⟩
    ·have:=h.un i j (by omega) (by omega) e
     omega
   ·have:=h.lt j (by omega)
    exact⟨j,by omega,by omega⟩
structure Same(p q:Nat->Nat)(a b:Nat):Prop where
 out:∀ i,¬ (a<=i/\i<b)->q i=p i
 fwd:∀ i,a<=i->i<b->∃ j,a<=j/\j<b/\q i=p j
 bwd:∀ i,a<=i->i<b->∃ j,a<=j/\j<b/\p i=q j
theorem Same.refl(p:Nat->Nat)(a b:Nat):Same p p a b:=⟨fun _ _=>rfl,fun i h1 h2=>⟨i,h1,h2,rfl⟩,fun i h1 h2=>⟨i,h1,h2,rfl⟩⟩
theorem Same.trans{p q r:Nat->Nat}{a b:Nat}(h:Same p q a b)(k:Same q r a b):Same p r a b :=
 ⟨fun i hi=>(k.out i hi).trans (h.out i hi),fun i h1 h2=>by
  obtain⟨j,a1,a2,a3⟩:=k.fwd i h1 h2;obtain⟨l,b1,b2,b3⟩:=h.fwd j a1 a2;exact⟨l,b1,b2,a3.trans b3⟩,fun i h1 h2=>by
  obtain⟨j,a1,a2,a3⟩:=h.bwd i h1 h2;obtain⟨l,b1,b2,b3⟩:=k.bwd j a1 a2;exact⟨l,b1,b2,a3.trans b3⟩⟩
theorem Same.wide{p q:Nat->Nat}{a b a' b':Nat}(h:Same p q a b)(ha:a'<=a)(hb:b<=b'):Same p q a' b' :=
 ⟨fun i hi=>h.out i (fun e=>hi (by omega)),fun i h1 h2=>by
  by_cases hi:a<=i/\i<b
  ·obtain⟨j,a1,a2,a3⟩:=h.fwd i hi.1 hi.2;exact⟨j,by omega,by omega,a3⟩
  ·exact⟨i,h1,h2,h.out i hi⟩,fun i h1 h2=>by
  by_cases hi:a<=i/\i<b
  ·obtain⟨j,a1,a2,a3⟩:=h.bwd i hi.1 hi.2;exact⟨j,by omega,by omega,a3⟩
  ·exact⟨i,h1,h2,(h.out i hi).symm⟩⟩
theorem jo9(p:Nat->Nat)(a m b:Nat)(h1:a<=m)(h2:m<=b):Same p (rot p a m b) a b:=by
 refine⟨fun i hi=>?_,fun i ha hb=>?_,fun i ha hb=>?_⟩
 ·unfold rot;repeat' split
  all_goals first|rfl|(exfalso;omega)
 ·unfold rot
  split
  ·exact⟨i+(m - a),by omega,by omega,rfl⟩
  ·split
   ·exact⟨i - (b - m),by omega,by omega,rfl⟩
   ·omega
 ·by_cases hm:i<m
  ·refine⟨i+(b - m),by omega,by omega,?_⟩
   unfold rot
   rw[if_neg (by omega),if_pos (by omega)]
   congr 1;omega
  ·refine⟨i - (m - a),by omega,by omega,?_⟩
   unfold rot
   rw[if_pos (by omega)]
   congr 1;omega
theorem Inj.rot{n:Nat}{p:Nat->Nat}(h:Inj n p){a m b:Nat}(h1:a<=m)(h2:m<=b)(h3:b<=n):Inj n (rot p a m b):=by
 have key:∀ i,i<n->∃ j,j<n/\YtnfoihdifohkeaaGreat.rot p a m b i=p j/\((a<=i/\i<a+(b - m)/\j=i+(m - a))\/(a+(b - m)<=i/\i<b/\j=i - (b - m))\/(¬ (a<=i/\i<b)/\j=i)):=fun i hi=>by
  unfold YtnfoihdifohkeaaGreat.rot
  split
  ·exact⟨_,by omega,rfl,by omega⟩
  ·split
   ·exact⟨_,by omega,rfl,by omega⟩
   ·exact⟨_,hi,rfl,by omega⟩
 refine⟨fun i hi=>?_,fun i j hi hj e=>?_⟩
 ·obtain⟨k,a1,a2,_⟩:=key i hi;rw[a2];exact h.lt k a1
 ·obtain⟨k,a1,a2,a3⟩:=key i hi;obtain⟨l,b1,b2,b3⟩:=key j hj;rw [a2,b2] at e;have:=h.un k l a1 b1 e
  omega
section
variable(L:Nat->Nat->Prop)
def Rise(p:Nat->Nat)(a b:Nat):Prop:=∀ i j,a<=i->i<j->j<b->L (p i) (p j)
def Sep(p:Nat->Nat)(a m b:Nat):Prop:=∀ i j,a<=i->i<m->m<=j->j<b->p i<p j
structure Ord(n:Nat):Prop where
 trans:∀ i j k,i<n->j<n->k<n->L i j->L j k->L i k
 irr:∀ i,i<n->¬ L i i
 tot:∀ i j,i<n->j<n->i≠j->L i j\/L j i
variable{L}{n:Nat}{p:Nat->Nat}
theorem Rise.sub{a b a' b':Nat}(h:Rise L p a b)(ha:a<=a')(hb:b'<=b):Rise L p a' b':=fun i j h1 h2 h3=>h i j (by omega) h2 (by omega)
theorem Rise.congr{q:Nat->Nat}{a b:Nat}(h:Rise L p a b)(he:∀ i,a<=i->i<b->q i=p i):Rise L q a b:=fun i j h1 h2 h3=>by
 rw[he i h1 (by omega),he j (by omega) h3];exact h i j h1 h2 h3
structure Cut(p:Nat->Nat)(a m b s e:Nat):Prop where
 sa:a<=s
 sm:s<=m
 me:m<=e
 eb:e<=b
 lo:∀ i j,a<=i->i<s->e<=j->j<b->L (p i) (p j)
 hi:∀ i j,s<=i->i<m->m<=j->j<e->L (p j) (p i)
structure Merged(p q:Nat->Nat)(n a b:Nat):Prop where
 inj:Inj n q
 same:Same p q a b
 rise:Rise L q a b
theorem ja8{a m b s e mid:Nat}(h1:Rise L p a m)(h2:Rise L p m b)(hc:Cut (L:=L) p a m b s e)(hmid:mid=s+(e - m)){q r:Nat->Nat}(hq:Merged (L:=L) (rot p s m e) q n a mid)(hr:Merged (L:=L) q r n mid b):Merged (L:=L) p r n a b:=by
 have hsa:=hc.sa
 have hsm:=hc.sm
 have hme:=hc.me
 have heb:=hc.eb
 have hs:Same p (rot p s m e) a b:=(jo9 p s m e hsm hme).wide hsa heb
 have hpq:Same p q a b:=hs.trans (hq.same.wide (pq _) (by omega))
 refine⟨hr.inj,hpq.trans (hr.same.wide (by omega) (pq _)),fun i j hi hij hj=>?_⟩
 -- what stands below mid,and what above
 have low:∀ i,a<=i->i<mid->∃ k,((a<=k/\k<s)\/(m<=k/\k<e))/\r i=p k:=fun i h3 h4=>by
  rw[hr.same.out i (by omega)]
  obtain⟨k,b1,b2,b3⟩:=hq.same.fwd i h3 h4;rw[b3];unfold rot
  split
  ·exact⟨_,by omega,rfl⟩
  ·split
   ·omega
   ·exact⟨_,by omega,rfl⟩
 have high:∀ i,mid<=i->i<b->∃ k,((s<=k/\k<m)\/(e<=k/\k<b))/\r i=p k:=fun i h3 h4=>by
  obtain⟨k,b1,b2,b3⟩:=hr.same.fwd i h3 h4;rw[b3,hq.same.out k (by omega)]
  unfold rot
  split
  ·omega
  ·split
   ·exact⟨_,by omega,rfl⟩
   ·exact⟨_,by omega,rfl⟩
 by_cases hjm:j<mid
 ·rw[hr.same.out i (by omega),hr.same.out j (by omega)]
  exact hq.rise i j hi hij hjm
 ·by_cases him:mid<=i
  ·exact hr.rise i j him hij hj
  ·obtain⟨k,a1,a2⟩:=low i hi (by omega)
   obtain⟨l,b1,b2⟩:=high j (by omega) hj
   rw[a2,b2];rcases a1 with a1|a1 <;> rcases b1 with b1|b1
   ·exact h1 k l a1.1 (by omega) b1.2
   ·exact hc.lo k l a1.1 a1.2 b1.1 b1.2
   ·exact hc.hi l k b1.1 b1.2 a1.1 a1.2
   ·exact h2 k l a1.1 (by omega) b1.2
theorem xc0{a b i:Nat}(hp:Inj n p)(hbn:b<=n)(hai:a+1<=i)(hib:i<=b)(h2:Rise L p (a+1) b)(hlo:∀ j,a+1<=j->j<i->L (p j) (p a))(hhi:∀ j,i<=j->j<b->L (p a) (p j)):Merged (L:=L) p (rot p a (a+1) i) n a b:=by
 refine⟨hp.rot (by omega) hai (by omega),(jo9 p a (a+1) i (by omega) hai).wide (pq _) hib,fun x y hx hxy hy=>?_⟩
 unfold rot
 repeat' split
 ·exact h2 _ _ (by omega) (by omega) (by omega)
 ·have e:y - (i - (a+1))=a:=by omega
  rw[e];exact hlo _ (by omega) (by omega)
 ·exact h2 _ _ (by omega) (by omega) (by omega)
 ·omega
 ·omega
 ·have e:x - (i - (a+1))=a:=by omega
  rw[e];exact hhi _ (by omega) (by omega)
 ·omega
 ·omega
 ·exact h2 _ _ (by omega) (by omega) (by omega)
theorem zn6{a m i:Nat}(hp:Inj n p)(hmn:m<n)(hai:a<=i)(him:i<=m)(h1:Rise L p a m)(hlo:∀ j,a<=j->j<i->L (p j) (p m))(hhi:∀ j,i<=j->j<m->L (p m) (p j)):Merged (L:=L) p (rot p i m (m+1)) n a (m+1):=by
 refine⟨hp.rot him (by omega) (by omega),(jo9 p i m (m+1) him (by omega)).wide hai (pq _),fun x y hx hxy hy=>?_⟩
 unfold rot
 repeat' split
 ·omega
 ·have e:x+(m - i)=m:=by omega
  rw[e];exact hhi _ (by omega) (by omega)
 ·omega
 ·omega
 ·exact h1 _ _ (by omega) (by omega) (by omega)
 ·omega
 ·have e:y+(m - i)=m:=by omega
  rw[e];exact hlo _ (by omega) (by omega)
 ·exact h1 _ _ (by omega) (by omega) (by omega)
 ·exact h1 _ _ (by omega) (by omega) (by omega)
end
structure Weak(n:Nat)(lt:Nat->Nat->Bool):Prop where
 asym:∀ i j,i<n->j<n->lt i j=true->lt j i=false
 trans:∀ i j k,i<n->j<n->k<n->lt i j=true->lt j k=true->lt i k=true
 ntrans:∀ i j k,i<n->j<n->k<n->lt i j=false->lt j k=false->lt i k=false
def LL(lt:Nat->Nat->Bool)(i j:Nat):Prop:=lt i j=true\/(lt j i=false/\i<j)
theorem Weak.irr{n:Nat}{lt:Nat->Nat->Bool}(h:Weak n lt)(i:Nat)(hi:i<n):lt i i=false:=by
 cases e:lt i i
 ·rfl
 ·have:=h.asym i i hi hi e;rw [e] at this;cases this
theorem Weak.ord{n:Nat}{lt:Nat->Nat->Bool}(h:Weak n lt):Ord (LL lt) n:=by
 refine⟨fun i j k hi hj hk a b=>?_,fun i hi a=>?_,fun i j hi hj hne=>?_⟩
 ·rcases a with a|⟨a,a'⟩ <;> rcases b with b|⟨b,b'⟩
  ·exact .inl (h.trans i j k hi hj hk a b)
  ·left
   cases e:lt i k
   ·have:=h.ntrans i k j hi hk hj e b;rw [a] at this;cases this
   ·rfl
  ·left
   cases e:lt i k
   ·have:=h.ntrans j i k hj hi hk a e;rw [b] at this;cases this
   ·rfl
  ·exact .inr ⟨h.ntrans k j i hk hj hi b a,by omega⟩
 ·rcases a with a|⟨_,a⟩
  ·rw [h.irr i hi] at a;cases a
  ·omega
 ·cases e:lt i j
  ·cases e':lt j i
   ·rcases pz i j with hl|hl
    ·exact .inl (.inr ⟨e',hl⟩)
    ·exact .inr (.inr ⟨e,by omega⟩)
   ·exact .inr (.inl e')
  ·exact .inl (.inl e)
theorem yx9{L:Nat->Nat->Prop}{n a m b s e:Nat}{p:Nat->Nat}(hO:Ord L n)(hp:Inj n p)(hbn:b<=n)(h1:Rise L p a m)(h2:Rise L p m b)(sa:a<=s)(sm:s<=m)(me:m<=e)(eb:e<=b)
 (hlo:s=a\/e=b\/L (p (s - 1)) (p e)) (hhi:s=m\/e=m\/L (p (e - 1)) (p s)):Cut (L:=L) p a m b s e:=by
 refine⟨sa,sm,me,eb,fun i j hi his hj hjb=>?_,fun i j hi him hj hje=>?_⟩
 ·have hl:L (p (s - 1)) (p e):=by
   rcases hlo with h|h|h
   ·omega
   ·omega
   ·exact h
  have hx:L (p i) (p e):=by
   rcases pz i (s - 1) with h|h
   ·exact hO.trans _ _ _ (hp.lt i (by omega)) (hp.lt _ (by omega)) (hp.lt _ (by omega)) (h1 i (s - 1) hi h (by omega)) hl
   ·have:i=s - 1:=by omega
    rw[this];exact hl
  rcases pz e j with h|h
  ·exact hO.trans _ _ _ (hp.lt i (by omega)) (hp.lt _ (by omega)) (hp.lt _ (by omega)) hx (h2 e j me h hjb)
  ·have:j=e:=by omega
   rw[this];exact hx
 ·have hl:L (p (e - 1)) (p s):=by
   rcases hhi with h|h|h
   ·omega
   ·omega
   ·exact h
  have hx:L (p j) (p s):=by
   rcases pz j (e - 1) with h|h
   ·exact hO.trans _ _ _ (hp.lt j (by omega)) (hp.lt _ (by omega)) (hp.lt _ (by omega)) (h2 j (e - 1) hj h (by omega)) hl
   ·have:j=e - 1:=by omega
    rw[this];exact hl
  rcases pz s i with h|h
  ·exact hO.trans _ _ _ (hp.lt j (by omega)) (hp.lt _ (by omega)) (hp.lt _ (by omega)) hx (h1 s i sa h him)
  ·have:i=s:=by omega
   rw[this];exact hx
theorem yy2{L:Nat->Nat->Prop}{n a b i:Nat}{p:Nat->Nat}(hO:Ord L n)(hp:Inj n p)(hbn:b<=n)(hai:a+1<=i)(hib:i<=b)(h2:Rise L p (a+1) b)(hlo:i=a+1\/L (p (i - 1)) (p a))(hhi:i=b\/L (p a) (p i)):Merged (L:=L) p (rot p a (a+1) i) n a b:=by
 refine xc0 hp hbn hai hib h2 (fun j h3 h4=>?_) (fun j h3 h4=>?_)
 ·have hl:L (p (i - 1)) (p a):=by
   rcases hlo with h|h
   ·omega
   ·exact h
  rcases pz j (i - 1) with h|h
  ·exact hO.trans _ _ _ (hp.lt _ (by omega)) (hp.lt _ (by omega)) (hp.lt _ (by omega)) (h2 j (i - 1) h3 h (by omega)) hl
  ·have:j=i - 1:=by omega
   rw[this];exact hl
 ·have hl:L (p a) (p i):=by
   rcases hhi with h|h
   ·omega
   ·exact h
  rcases pz i j with h|h
  ·exact hO.trans _ _ _ (hp.lt _ (by omega)) (hp.lt _ (by omega)) (hp.lt _ (by omega)) hl (h2 i j hai h h4)
  ·have:j=i:=by omega
   rw[this];exact hl
theorem jf5{L:Nat->Nat->Prop}{n a m i:Nat}{p:Nat->Nat}(hO:Ord L n)(hp:Inj n p)(hmn:m<n)(hai:a<=i)(him:i<=m)(h1:Rise L p a m)(hlo:i=a\/L (p (i - 1)) (p m))(hhi:i=m\/L (p m) (p i)):Merged (L:=L) p (rot p i m (m+1)) n a (m+1):=by
 refine zn6 hp hmn hai him h1 (fun j h3 h4=>?_) (fun j h3 h4=>?_)
 ·have hl:L (p (i - 1)) (p m):=by
   rcases hlo with h|h
   ·omega
   ·exact h
  rcases pz j (i - 1) with h|h
  ·exact hO.trans _ _ _ (hp.lt _ (by omega)) (hp.lt _ (by omega)) (hp.lt _ (by omega)) (h1 j (i - 1) h3 h (by omega)) hl
  ·have:j=i - 1:=by omega
   rw[this];exact hl
 ·have hl:L (p m) (p i):=by
   rcases hhi with h|h
   ·omega
   ·exact h
  rcases pz i j with h|h
  ·exact hO.trans _ _ _ (hp.lt _ (by omega)) (hp.lt _ (by omega)) (hp.lt _ (by omega)) hl (h1 i j hai h h4)
  ·have:j=i:=by omega
   rw[this];exact hl
theorem Sep.congr{q p:Nat->Nat}{a m b:Nat}(h:Sep p a m b)(he:∀ i,a<=i->i<b->q i=p i):Sep q a m b:=fun i j h1 h2 h3 h4=>by
 by_cases hx:i<b
 ·by_cases hy:a<=j
  ·rw[he i h1 hx,he j hy h4];exact h i j h1 h2 h3 h4
  ·omega
 ·omega
theorem qw8{α:Type}(p:Nat->α){a m b i:Nat}(h:a<=i)(h2:i<a+(b - m)):rot p a m b i=p (i+(m - a)):=by
 unfold rot;rw[if_pos ⟨h,h2⟩]
theorem ju9{α:Type}(p:Nat->α){a m b i:Nat}(h:a+(b - m)<=i)(h2:i<b):rot p a m b i=p (i - (b - m)):=by
 unfold rot;rw[if_neg (by omega),if_pos ⟨h,h2⟩]
theorem qh8{α:Type}(p:Nat->α){a m b i:Nat}(h0:a<=m)(h1:m<=b)(h:i<a\/b<=i):rot p a m b i=p i:=by
 unfold rot;rw[if_neg (by omega),if_neg (by omega)]
theorem yr7{L:Nat->Nat->Prop}{a m b s e mid:Nat}{p:Nat->Nat}(h1:Rise L p a m)(h2:Rise L p m b)(hs:Sep p a m b)(hc:Cut (L:=L) p a m b s e)(hmid:mid=s+(e - m)):Rise L (rot p s m e) a s/\Rise L (rot p s m e) s mid/\Sep (rot p s m e) a s mid:=by
 obtain⟨sa,sm,me,eb,_,_⟩:=hc;refine⟨fun i j hi hij hj=>?_,fun i j hi hij hj=>?_,fun i j hi hij hj hjb=>?_⟩
 ·rw[qh8 p sm me (by omega),qh8 p sm me (by omega)];exact h1 i j hi hij (by omega)
 ·rw[qw8 p hi (by omega),qw8 p (by omega) (by omega)];exact h2 _ _ (by omega) (by omega) (by omega)
 ·rw[qh8 p sm me (by omega),qw8 p hj (by omega)];exact hs _ _ hi (by omega) (by omega) (by omega)
theorem ym6{L:Nat->Nat->Prop}{a m b s e mid:Nat}{p:Nat->Nat}(h1:Rise L p a m)(h2:Rise L p m b)(hs:Sep p a m b)(hc:Cut (L:=L) p a m b s e)(hmid:mid=s+(e - m)):Rise L (rot p s m e) mid e/\Rise L (rot p s m e) e b/\Sep (rot p s m e) mid e b:=by
 obtain⟨sa,sm,me,eb,_,_⟩:=hc;refine⟨fun i j hi hij hj=>?_,fun i j hi hij hj=>?_,fun i j hi hij hj hjb=>?_⟩
 ·rw[ju9 p (by omega) (by omega),ju9 p (by omega) (by omega)];exact h1 _ _ (by omega) (by omega) (by omega)
 ·rw[qh8 p sm me (by omega),qh8 p sm me (by omega)];exact h2 _ _ (by omega) hij hj
 ·rw[ju9 p (by omega) (by omega),qh8 p sm me (by omega)];exact hs _ _ (by omega) (by omega) (by omega) (by omega)
theorem Merged.stay{L:Nat->Nat->Prop}{n a b:Nat}{q:Nat->Nat}(hi:Inj n q)(h:Rise L q a b):Merged (L:=L) q q n a b:=⟨hi,.refl _ _ _,h⟩
def Lc(k lo n:Nat)(p:Nat->Nat):Prop:=∀ i,lo<=i->i<n->p i / k=i / k
def Rs(L:Nat->Nat->Prop)(k lo hi:Nat)(p:Nat->Nat):Prop:=∀ i j,lo<=i->i<j->j<hi->i / k=j / k->L (p i) (p j)
theorem ky{k c i:Nat}(h1:c * k<=i)(h2:i<c * k+k):i / k=c:=by
 have hk:0<k:=by omega
 apply Nat.le_antisymm
 ·exact Nat.lt_succ_iff.1 (Nat.div_lt_of_lt_mul (by rw[cu];rw[cw];exact h2))
 ·exact(Nat.le_div_iff_mul_le hk).2 h1
theorem yv5(i k:Nat):i / (2 * k)=(i / k) / 2:=by rw[Nat.div_div_eq_div_mul,cu]
structure Mg(L:Nat->Nat->Prop)(k n c:Nat)(p:Nat->Nat):Prop where
 inj:Inj n p
 big:Lc (2 * k) 0 n p
 done:Rs L (2 * k) 0 (min (c * (2 * k)) n) p
 rest:Rs L k (c * (2 * k)) n p
 small:Lc k (c * (2 * k)) n p
theorem Mg.begin{L:Nat->Nat->Prop}{k n:Nat}{p:Nat->Nat}(h1:Inj n p)(h2:Lc k 0 n p)(h3:Rs L k 0 n p):Mg L k n 0 p :=
 ⟨h1,fun i hi hn=>by rw[yv5,yv5,h2 i hi hn],fun i j hi hij hj _=>by omega,fun i j hi=>h3 i j (by omega),fun i hi=>h2 i (by omega)⟩
theorem Mg.left{L:Nat->Nat->Prop}{k n c:Nat}{p:Nat->Nat}(h:Mg L k n c p)(hm:c * (2 * k)+k<=n):Rise L p (c * (2 * k)) (c * (2 * k)+k):=fun i j hi hij hj=>by
 have e:c * (2 * k)=(c * 2) * k:=by rw[Nat.mul_assoc]
 refine h.rest i j hi hij (by omega) ?_
 rw[ky (c:=c * 2) (by omega) (by omega),ky (c:=c * 2) (by omega) (by omega)]
theorem Mg.right{L:Nat->Nat->Prop}{k n c b:Nat}{p:Nat->Nat}(h:Mg L k n c p)(hb:b<=n)(hb2:b<=c * (2 * k)+2 * k):Rise L p (c * (2 * k)+k) b:=fun i j hi hij hj=>by
 have e:c * (2 * k)=(c * 2) * k:=by rw[Nat.mul_assoc]
 have e2:(c * 2+1) * k=(c * 2) * k+k:=by rw[cw]
 refine h.rest i j (by omega) hij (by omega) ?_
 rw[ky (c:=c * 2+1) (by omega) (by omega),ky (c:=c * 2+1) (by omega) (by omega)]
theorem Mg.sep{L:Nat->Nat->Prop}{k n c b:Nat}{p:Nat->Nat}(h:Mg L k n c p)(hb:b<=n)(hb2:b<=c * (2 * k)+2 * k):Sep p (c * (2 * k)) (c * (2 * k)+k) b:=fun i j hi him hj hjb=>by
 have hk:0<k:=by omega
 have e:c * (2 * k)=(c * 2) * k:=by rw[Nat.mul_assoc]
 have e2:(c * 2+1) * k=(c * 2) * k+k:=by rw[cw]
 have a1:=h.small i hi (by omega)
 have a2:=h.small j (by omega) (by omega)
 rw [ky (c:=c * 2) (i:=i) (by omega) (by omega)] at a1
 rw [ky (c:=c * 2+1) (i:=j) (by omega) (by omega)] at a2
 rcases pz (p i) (p j) with hl|hl
 ·exact hl
 ·have:=Nat.div_le_div_right (c:=k) hl
  omega
theorem Mg.next{L:Nat->Nat->Prop}{k n c b:Nat}{p r:Nat->Nat}(hk:0<k)(h:Mg L k n c p)(hb:b<=n)(hb2:b<=c * (2 * k)+2 * k)(hb3:b=n\/b=c * (2 * k)+2 * k)(hab:c * (2 * k)<=b)(hr:Merged (L:=L) p r n (c * (2 * k)) b):Mg L k n (c+1) r:=by
 have e:(c+1) * (2 * k)=c * (2 * k)+2 * k:=by rw[cw]
 refine⟨hr.inj,fun i hi hin=>?_,fun i j hi hij hj hd=>?_,fun i j hi hij hj hd=>?_,fun i hi hin=>?_⟩
 ·by_cases hc:c * (2 * k)<=i/\i<b
  ·obtain⟨j,b1,b2,b3⟩:=hr.same.fwd i hc.1 hc.2;rw[b3,h.big j (by omega) (by omega),ky (c:=c) b1 (by omega),ky (c:=c) hc.1 (by omega)]
  ·rw[hr.same.out i hc];exact h.big i hi hin
 ·by_cases hc:c * (2 * k)<=i
  ·exact hr.rise i j hc hij (by omega)
  ·by_cases hjc:j<c * (2 * k)
   ·rw[hr.same.out i (by omega),hr.same.out j (by omega)]
    exact h.done i j hi hij (by omega) hd
   ·exfalso
    rw [ky (c:=c) (i:=j) (by omega) (by omega)] at hd
    have:=Nat.div_mul_le_self i (2 * k)
    rw [hd] at this;omega
 ·rw[hr.same.out i (by omega),hr.same.out j (by omega)]
  exact h.rest i j (by omega) hij hj hd
 ·rw[hr.same.out i (by omega)]
  exact h.small i (by omega) hin
theorem Mg.over{L:Nat->Nat->Prop}{k n c:Nat}{p:Nat->Nat}(hk:0<k)(h:Mg L k n c p)(hn:n<=c * (2 * k)+k):Lc (2 * k) 0 n p/\Rs L (2 * k) 0 n p:=by
 refine⟨h.big,fun i j hi hij hj hd=>?_⟩
 have e:c * (2 * k)=(c * 2) * k:=by rw[Nat.mul_assoc]
 by_cases hjc:j<c * (2 * k)
 ·exact h.done i j hi hij (by omega) hd
 ·have hj2:=ky (k:=2 * k) (c:=c) (i:=j) (by omega) (by omega)
  by_cases hic:c * (2 * k)<=i
  ·refine h.rest i j hic hij hj ?_;rw[ky (c:=c * 2) (by omega) (by omega),ky (c:=c * 2) (by omega) (by omega)]
  ·exfalso
   rw [hj2] at hd;have:=Nat.div_mul_le_self i (2 * k);rw [hd] at this;omega
structure Fst(L:Nat->Nat->Prop)(k n c:Nat)(p:Nat->Nat):Prop where
 inj:Inj n p
 loc:Lc k 0 n p
 done:Rs L k 0 (min (c * k) n) p
 rest:∀ i,c * k<=i->p i=i
theorem Fst.zero{L:Nat->Nat->Prop}(k n:Nat):Fst L k n 0 id:=⟨⟨fun i h=>h,fun i j _ _ h=>h⟩,fun i _ _=>rfl,fun i j hi hij hj _=>by omega,fun i _=>rfl⟩
theorem Fst.next{L:Nat->Nat->Prop}{k n c b:Nat}{p r:Nat->Nat}(h:Fst L k n c p)(hb:b<=n)(hb2:b<=c * k+k)(hb3:b=n\/b=c * k+k)(hr:Merged (L:=L) p r n (c * k) b):Fst L k n (c+1) r:=by
 have e:(c+1) * k=c * k+k:=by rw[cw]
 refine⟨hr.inj,fun i hi hin=>?_,fun i j hi hij hj hd=>?_,fun i hi=>?_⟩
 ·by_cases hc:c * k<=i/\i<b
  ·obtain⟨j,b1,b2,b3⟩:=hr.same.fwd i hc.1 hc.2;rw[b3,h.rest j b1,ky (c:=c) b1 (by omega),ky (c:=c) hc.1 (by omega)]
  ·rw[hr.same.out i hc];exact h.loc i hi hin
 ·by_cases hc:c * k<=i
  ·exact hr.rise i j hc hij (by omega)
  ·by_cases hjc:j<c * k
   ·rw[hr.same.out i (by omega),hr.same.out j (by omega)]
    exact h.done i j hi hij (by omega) hd
   ·exfalso
    rw [ky (c:=c) (i:=j) (by omega) (by omega)] at hd
    have:=Nat.div_mul_le_self i k
    rw [hd] at this;omega
 ·rw[hr.same.out i (by omega)]
  exact h.rest i (by omega)
theorem Rs.all{L:Nat->Nat->Prop}{k n:Nat}{p:Nat->Nat}(h:Rs L k 0 n p)(hk:n<=k):Rise L p 0 n:=fun i j hi hij hj=>h i j hi hij hj (by rw[Nat.div_eq_of_lt (by omega),Nat.div_eq_of_lt (by omega)])
end
theorem yw3(a b:UInt8)(h1:¬ a<b)(h2:¬ b<a):a=b:=by
 rw [UInt8.lt_iff_toNat_lt] at h1 h2;exact UInt8.toNat_inj.1 (by omega)
theorem x9:∀ a:List UInt8,Op.bytesLess a a=false
 |[]=>rfl
 |a :: l=>by
  have:¬ a<a:=by rw[UInt8.lt_iff_toNat_lt];omega
  simp[Op.bytesLess,this,x9 l]
theorem ql0:∀ a b c:List UInt8,Op.bytesLess a b=true->Op.bytesLess b c=true->Op.bytesLess a c=true
 |_,_,[]=>fun _ h=>by simp [Op.bytesLess] at h
 |_,[],_ :: _=>fun h _=>by simp [Op.bytesLess] at h
 |[],_ :: _,_ :: _=>fun _ _=>rfl
 |a :: l,b :: m,c :: n=>fun h k=>by
  have ih:=ql0 l m n
  simp only [Op.bytesLess,dp,px,decide_eq_true_eq,beq_iff_eq] at h k ⊢
  rcases h with h|⟨rfl,h⟩ <;> rcases k with k|⟨rfl,k⟩
  ·left;rw [UInt8.lt_iff_toNat_lt] at *;omega
  ·exact .inl h
  ·exact .inl k
  ·exact .inr ⟨rfl,ih h k⟩
theorem qv4(a b:List UInt8)(h:Op.bytesLess a b=true):Op.bytesLess b a=false:=by
 cases e:Op.bytesLess b a
 ·rfl
 ·have:=ql0 a b a h e
  rw [x9] at this;cases this
theorem qh5:∀ a b:List UInt8,Op.bytesLess a b=false->Op.bytesLess b a=false->a=b
 |[],[]=>fun _ _=>rfl
 |[],_ :: _=>fun h _=>by simp [Op.bytesLess] at h
 |_ :: _,[]=>fun _ h=>by simp [Op.bytesLess] at h
 |a :: l,b :: m=>fun h k=>by
  have ih:=qh5 l m
  simp only [Op.bytesLess,ar,rq,decide_eq_false_iff_not,beq_eq_false_iff_ne] at h k
  have e:a=b:=yw3 a b h.1 k.1
  subst e;rw[ih (h.2.resolve_left (fun h=>h rfl)) (k.2.resolve_left (fun h=>h rfl))]
theorem jo2(a b c:List UInt8)(h:Op.bytesLess a b=false)(k:Op.bytesLess b c=false):Op.bytesLess a c=false:=by
 cases e:Op.bytesLess a c
 ·rfl
 ·cases e2:Op.bytesLess b a
  ·rw [qh5 a b h e2] at e;rw [e] at k;cases k
  ·rw [ql0 b a c e2 e] at k;cases k
theorem ju0:∀ a b:List UInt8,Lib.compareBytes a b=if Op.bytesLess a b then -1 else if Op.bytesLess b a then 1 else 0
 |[],[]=>rfl
 |[],_ :: _=>rfl
 |_ :: _,[]=>rfl
 |a :: l,b :: m=>by
  have ih:=ju0 l m
  unfold Lib.compareBytes
  by_cases h1:a<b
  ·simp[Op.bytesLess,h1]
  ·by_cases h2:b<a
   ·have:¬ a=b:=fun e=>by rw [UInt8.lt_iff_toNat_lt,e] at h2;omega
    simp[Op.bytesLess,h1,h2,this]
   ·have e:=yw3 a b h1 h2
    subst e;simp[Op.bytesLess,h1,ih]
theorem ql8(a b:List UInt8):(Lib.compareBytes a b<0)↔Op.bytesLess a b=true:=by
 rw[ju0];cases h:Op.bytesLess a b
 ·cases h2:Op.bytesLess b a <;> simp
 ·simp
theorem qp5(a b:List UInt8):(Lib.compareBytes a b=0)↔a=b:=by
 rw[ju0];constructor
 ·intro h;cases h1:Op.bytesLess a b
  ·cases h2:Op.bytesLess b a
   ·exact qh5 a b h1 h2
   ·rw [h1,h2] at h;simp at h
  ·rw [h1] at h;simp at h
 ·rintro rfl;rw[x9];rfl
def ltF(F:Nat->List UInt8)(i j:Nat):Bool:=Op.bytesLess (F i) (F j)
theorem xc1(n:Nat)(F:Nat->List UInt8):Weak n (ltF F) :=
 ⟨fun _ _ _ _ h=>qv4 _ _ h,fun _ _ _ _ _ _ h k=>ql0 _ _ _ h k,fun _ _ _ _ _ _ h k=>jo2 _ _ _ h k⟩
structure Firsts(F:List UInt8->List UInt8)(xs D:List (List UInt8)):Prop where
 rise:D.Pairwise (fun a b=>Op.bytesLess (F a) (F b)=true)
 mem:∀ x,x ∈ D↔∃ i:Nat,xs[i]? = some x/\∀ (j:Nat) (y:List UInt8),j<i->xs[j]? = some y->F y≠F x
theorem yi8(F:List UInt8->List UInt8):∀ (A B:List (List UInt8)),A.Pairwise (fun a b=>Op.bytesLess (F a) (F b)=true)->B.Pairwise (fun a b=>Op.bytesLess (F a) (F b)=true)->(∀ x,x ∈ A↔x ∈ B)->A=B
 |[],[]=>fun _ _ _=>rfl
 |[],b :: B=>fun _ _ h=>by have:=(h b).2 (by simp);simp at this
 |a :: A,[]=>fun _ _ h=>by have:=(h a).1 (by simp);simp at this
 |a :: A,b :: B=>fun hA hB h=>by
  obtain⟨a1,a2⟩:=gz.1 hA;obtain⟨b1,b2⟩:=gz.1 hB;have e:a=b:=by
   rcases pr.1 ((h a).1 (by simp)) with e|e
   ·exact e
   ·rcases pr.1 ((h b).2 (by simp)) with e'|e'
    ·exact e'.symm
    ·have:=qv4 _ _ (b1 a e)
     rw [a1 b e'] at this;cases this
  subst e;have:A=B:=yi8 F A B a2 b2 fun x=>by
   constructor
   ·intro hx;rcases pr.1 ((h x).1 (mw _ hx)) with e|e
    ·subst e;have:=a1 x hx;rw [x9] at this;cases this
    ·exact e
   ·intro hx;rcases pr.1 ((h x).2 (mw _ hx)) with e|e
    ·subst e;have:=b1 x hx;rw [x9] at this;cases this
    ·exact e
  rw[this]
theorem Firsts.uniq{F:List UInt8->List UInt8}{xs A B:List (List UInt8)}(h:Firsts F xs A)(k:Firsts F xs B):A=B :=
 yi8 F A B h.rise k.rise fun x=>(h.mem x).trans (k.mem x).symm
theorem Firsts.self{F:List UInt8->List UInt8}{xs:List (List UInt8)}(h:xs.Pairwise (fun a b=>Op.bytesLess (F a) (F b)=true)):Firsts F xs xs:=by
 refine⟨h,fun x=>⟨fun hx=>?_,fun⟨i,hi,_⟩=>py hi⟩⟩
 obtain⟨i,hi⟩:=List.getElem?_of_mem hx;refine⟨i,hi,fun j y hj hy e=>?_⟩
 obtain⟨hi1,rfl⟩:=po.1 hi;obtain⟨hj1,rfl⟩:=po.1 hy;have:=wa0.1 h j i hj1 hi1 hj
 rw [e,x9] at this;cases this
theorem Firsts.cover{F:List UInt8->List UInt8}{xs D:List (List UInt8)}(h:Firsts F xs D):∀ (i:Nat) (y:List UInt8),xs[i]? = some y->∃ a ∈ D,F a=F y:=by
 intro i;induction i using Nat.strongRecOn with
 |_ i ih =>
  intro y hy;by_cases hx:∃ j z,j<i/\xs[j]? = some z/\F z=F y
  ·obtain⟨j,z,hj,hz,e⟩:=hx;obtain⟨a,ha,e2⟩:=ih j hj z hz;exact⟨a,ha,e2.trans e⟩
  ·exact⟨y,(h.mem y).2 ⟨i,hy,fun j z hj hz e=>hx ⟨j,z,hj,hz,e⟩⟩,rfl⟩
theorem Firsts.from{F:List UInt8->List UInt8}{xs D:List (List UInt8)}(h:Firsts F xs D){a:List UInt8}(ha:a ∈ D):∃ i:Nat,xs[i]? = some a:=by
 obtain⟨i,hi,_⟩:=(h.mem a).1 ha;exact⟨i,hi⟩
theorem Firsts.skip{F:List UInt8->List UInt8}{xs D:List (List UInt8)}(h:Firsts F xs D){x a:List UInt8}(ha:a ∈ D)(e:F a=F x):Firsts F (xs++[x]) D:=by
 refine⟨h.rise,fun z=>(h.mem z).trans ⟨fun⟨i,hi,hf⟩=>?_,fun⟨i,hi,hf⟩=>?_⟩⟩
 ·have hil:=(po.1 hi).1
  refine⟨i,by rw[p9 hil];exact hi,fun j y hj hy=>hf j y hj ?_⟩
  rwa [p9 (by omega)] at hy
 ·rcases pz i xs.length with hl|hl
  ·rw [p9 hl] at hi;exact⟨i,hi,fun j y hj hy=>hf j y hj (by rw[p9 (by omega)];exact hy)⟩
  ·exfalso
   obtain⟨q,hq⟩:=h.from ha;have hql:=(po.1 hq).1;have hx:z=x:=by
    rw [oz hl] at hi;have:i - xs.length=0:=by
     rcases gw (i - xs.length) with h|h
     ·exact h
     ·rw [gq (by simp;omega)] at hi;cases hi
    rw [this] at hi;exact(pw hi).symm
   refine hf q a (by omega) (by rw[p9 hql];exact hq) (by rw[hx];exact e)
theorem Firsts.put{F:List UInt8->List UInt8}{xs A B:List (List UInt8)}(h:Firsts F xs (A++B)){x:List UInt8}(hA:∀ a ∈ A,Op.bytesLess (F a) (F x)=true)(hB:∀ b ∈ B,Op.bytesLess (F x) (F b)=true):Firsts F (xs++[x]) (A++x :: B):=by
 have hr:=List.pairwise_append.1 h.rise
 have hno:∀ i y,xs[i]? = some y->F y≠F x:=fun i y hy e=>by
  obtain⟨a,ha,e2⟩:=h.cover i y hy;rcases ox.1 ha with ha|ha
  ·have:=hA a ha;rw [e2,e,x9] at this;cases this
  ·have:=hB a ha;rw [e2,e,x9] at this;cases this
 refine⟨?_,fun z=>?_⟩
 ·refine List.pairwise_append.2 ⟨hr.1,gz.2 ⟨hB,hr.2.1⟩,fun a ha b hb=>?_⟩
  rcases pr.1 hb with rfl|hb
  ·exact hA a ha
  ·exact hr.2.2 a ha b hb
 ·have:z ∈ A++x :: B↔z ∈ A++B\/z=x:=by
   simp only[ox,pr]
   constructor
   ·rintro (h|h|h)
    ·exact .inl (.inl h)
    ·exact .inr h
    ·exact .inl (.inr h)
   ·rintro ((h|h)|h)
    ·exact .inl h
    ·exact .inr (.inr h)
    ·exact .inr (.inl h)
  rw[this,h.mem z];constructor
  ·rintro (⟨i,hi,hf⟩|rfl)
   ·have hil:=(po.1 hi).1
    refine⟨i,by rw[p9 hil];exact hi,fun j y hj hy=>hf j y hj ?_⟩
    rwa [p9 (by omega)] at hy
   ·refine⟨xs.length,by simp,fun j y hj hy=>hno j y ?_⟩
    rwa [p9 hj] at hy
  ·rintro ⟨i,hi,hf⟩
   rcases pz i xs.length with hl|hl
   ·left
    rw [p9 hl] at hi;exact⟨i,hi,fun j y hj hy=>hf j y hj (by rw[p9 (by omega)];exact hy)⟩
   ·right
    rw [oz hl] at hi;have:i - xs.length=0:=by
     rcases gw (i - xs.length) with h|h
     ·exact h
     ·rw [gq (by simp;omega)] at hi;cases hi
    rw [this] at hi;exact(pw hi).symm
theorem Firsts.len{F:List UInt8->List UInt8}{xs D:List (List UInt8)}(h:Firsts F xs D)(hx:xs≠[]):0<D.length:=by
 cases xs with
 |nil=>exact absurd rfl hx
 |cons x l =>
  obtain⟨a,ha,_⟩:=h.cover 0 x rfl;exact List.length_pos_of_mem ha
def insF(F:List UInt8->List UInt8):List (List UInt8)->List UInt8->List (List UInt8)
 |[],x=>[x]
 |d :: D,x=>if Op.bytesLess (F d) (F x) then d :: insF F D x else if F d=F x then d :: D else x :: d :: D
theorem ye8(F:List UInt8->List UInt8):∀ (D:List (List UInt8)) (x:List UInt8),D.Pairwise (fun a b=>Op.bytesLess (F a) (F b)=true) ->
 (insF F D x=D/\∃ a ∈ D,F a=F x)\/∃ A B,D=A++B/\insF F D x=A++x :: B/\(∀ a ∈ A,Op.bytesLess (F a) (F x)=true)/\∀ b ∈ B,Op.bytesLess (F x) (F b)=true
 |[],x=>fun _=>.inr ⟨[],[],rfl,rfl,fun _ h=>(by cases h),fun _ h=>(by cases h)⟩
 |d :: D,x=>fun h=>by
  obtain⟨h1,h2⟩:=gz.1 h;unfold insF
  cases e:Op.bytesLess (F d) (F x)
  ·by_cases e2:F d=F x
   ·left
    rw[if_neg (by simp),if_pos e2]
    exact⟨rfl,d,by simp,e2⟩
   ·right
    rw[if_neg (by simp),if_neg e2]
    have e3:Op.bytesLess (F x) (F d)=true:=by
     cases e4:Op.bytesLess (F x) (F d)
     ·exact absurd (qh5 _ _ e e4) e2
     ·rfl
    refine⟨[],d :: D,rfl,rfl,fun _ h=>by(cases h),fun b hb=>?_⟩
    rcases pr.1 hb with rfl|hb
    ·exact e3
    ·exact ql0 _ _ _ e3 (h1 b hb)
  ·rw[if_pos rfl];rcases ye8 F D x h2 with⟨h3,a,ha,h4⟩|⟨A,B,h3,h4,h5,h6⟩
   ·left
    rw[h3];exact⟨rfl,a,by simp[ha],h4⟩
   ·right
    refine⟨d :: A,B,by rw[h3];rfl,by rw[h4];rfl,fun a ha=>?_,h6⟩
    rcases pr.1 ha with rfl|ha
    ·exact e
    ·exact h5 a ha
theorem Firsts.ins{F:List UInt8->List UInt8}{xs D:List (List UInt8)}(h:Firsts F xs D)(x:List UInt8):Firsts F (xs++[x]) (insF F D x):=by
 rcases ye8 F D x h.rise with⟨h3,a,ha,h4⟩|⟨A,B,h3,h4,h5,h6⟩
 ·rw[h3];exact h.skip ha h4
 ·rw[h4];exact Firsts.put (h3 ▸ h) h5 h6
def uh(F:List UInt8->List UInt8)(xs:List (List UInt8)):List (List UInt8):=xs.foldl (insF F) []
theorem yb2(F:List UInt8->List UInt8):∀ (ys xs D:List (List UInt8)),Firsts F xs D->Firsts F (xs++ys) (ys.foldl (insF F) D)
 |[],xs,D=>fun h=>by rw[mv];exact h
 |y :: ys,xs,D=>fun h=>by
  have:=yb2 F ys (xs++[y]) (insF F D y) (h.ins y)
  rw [gv] at this;exact this
theorem jb4(F:List UInt8->List UInt8)(xs:List (List UInt8)):Firsts F xs (uh F xs):=by
 have:=yb2 F xs [] [] ⟨.nil,fun x=>⟨fun h=>(by cases h),fun ⟨i,hi,_⟩=>(by simp at hi)⟩⟩
 exact this
def kept(F:Nat->List UInt8)(p:Nat->Nat):Nat->List Nat
 |0=>[]
 |n+1=>if n=0\/F (p n)≠F (p (n - 1)) then kept F p n++[p n] else kept F p n
theorem yv1(F:Nat->List UInt8)(p:Nat->Nat):∀ n,(kept F p n).length<=n
 |0=>pq _
 |n+1=>by
  have:=yv1 F p n
  unfold kept;split
  ·simp;omega
  ·omega
theorem yq4(F:Nat->List UInt8)(p:Nat->Nat):∀ n,0<n->0<(kept F p n).length
 |0=>fun h=>absurd h (by omega)
 |1=>fun _=>by simp[kept]
 |n+2=>fun _=>by
  have:=yq4 F p (n+1) (by omega)
  unfold kept;split
  ·simp
  ·exact this
theorem jb0{n:Nat}{F:Nat->List UInt8}{p:Nat->Nat}(hp:Inj n p)(hr:Rise (LL (ltF F)) p 0 n):∀ m,m<=n ->
 (kept F p m).Pairwise (fun a b=>Op.bytesLess (F a) (F b)=true)/\(∀ a ∈ kept F p m,∃ i,i<m/\a=p i/\∀ j,j<n->F j=F a->a<=j)/\(∀ i,i<m->∃ a ∈ kept F p m,F a=F (p i))
 |0=>fun _=>⟨.nil,fun _ h=>(by cases h),fun i h=>absurd h (by omega)⟩
 |m+1=>fun hm=>by
  obtain⟨h1,h2,h3⟩:=jb0 hp hr m (by omega)
  have surj:∀ j,j<n->∃ i,i<n/\p i=j:=Inj.surj hp
  unfold kept
  split
  ·rename_i hne
   have hne2:∀ i,i<m->Op.bytesLess (F (p i)) (F (p m))=true:=fun i hi=>by
    have hne:F (p m)≠F (p (m - 1)):=hne.resolve_left (by omega)
    have e1:Op.bytesLess (F (p (m - 1))) (F (p m))=true:=by
     rcases hr (m - 1) m (by omega) (by omega) (by omega) with h|⟨h,_⟩
     ·exact h
     ·cases e:Op.bytesLess (F (p (m - 1))) (F (p m))
      ·exact absurd (qh5 _ _ h e) hne
      ·rfl
    rcases pz i (m - 1) with hl|hl
    ·rcases hr i (m - 1) (by omega) hl (by omega) with h|⟨h,_⟩
     ·exact ql0 _ _ _ h e1
     ·cases e:Op.bytesLess (F (p i)) (F (p m))
      ·have:=jo2 _ _ _ h e;rw [e1] at this;cases this
      ·rfl
    ·have:i=m - 1:=by omega
     rw[this];exact e1
   refine⟨List.pairwise_append.2 ⟨h1,by simp,fun a ha b hb=>?_⟩,fun a ha=>?_,fun i hi=>?_⟩
   ·simp only [gp] at hb
    subst hb;obtain⟨i,hi,rfl,_⟩:=h2 a ha;exact hne2 i hi
   ·rcases ox.1 ha with ha|ha
    ·obtain⟨i,hi,e⟩:=h2 a ha;exact⟨i,by omega,e⟩
    ·simp only [gp] at ha
     subst ha;refine⟨m,by omega,rfl,fun j hj he=>?_⟩
     obtain⟨i,hi,rfl⟩:=surj j hj;rcases d6 i m with h|h|h
     ·have:=hne2 i h;rw [he,x9] at this;cases this
     ·rw[h];exact pq _
     ·rcases hr m i (by omega) h hi with h'|⟨_,h'⟩
      ·unfold ltF at h';rw [he,x9] at h';cases h'
      ·omega
   ·rcases pz i m with h|h
    ·obtain⟨a,ha,e⟩:=h3 i h;exact⟨a,au _ ha,e⟩
    ·have:i=m:=by omega
     exact⟨p m,by simp,by rw[this]⟩
  ·rename_i hne
   refine⟨h1,fun a ha=>?_,fun i hi=>?_⟩
   ·obtain⟨i,hi,e⟩:=h2 a ha;exact⟨i,by omega,e⟩
   ·rcases pz i m with h|h
    ·exact h3 i h
    ·have hm0:¬ m=0:=fun e=>hne (.inl e)
     have he:F (p m)=F (p (m - 1)):=Classical.byContradiction fun e=>hne (.inr e)
     have:i=m:=by omega
     rw[this,he];exact h3 (m - 1) (by omega)
theorem zh6{F:List UInt8->List UInt8}{xs:List (List UInt8)}{p:Nat->Nat}(hp:Inj xs.length p)(hr:Rise (LL (ltF fun i=>F (xs[i]?.getD []))) p 0 xs.length):Firsts F xs ((kept (fun i=>F (xs[i]?.getD [])) p xs.length).map fun i=>xs[i]?.getD []):=by
 obtain⟨h1,h2,h3⟩:=jb0 hp hr xs.length (pq _);refine⟨?_,fun x=>?_⟩
 ·rw[List.pairwise_map];exact h1
 ·rw[o5];constructor
  ·rintro ⟨a,ha,rfl⟩
   obtain⟨i,hi,rfl,hmin⟩:=h2 a ha;have hlt:=hp.lt i hi
   refine⟨p i,by rw[pn hlt];rfl,fun j y hj hy e=>?_⟩
   have:=hmin j (by omega) (by rw[hy];exact e)
   omega
  ·rintro ⟨i,hi,hf⟩
   have hil:i<xs.length:=(po.1 hi).1
   obtain⟨k,hk,e⟩:=Inj.surj hp i hil;obtain⟨a,ha,e2⟩:=h3 k hk;obtain⟨q,hq,e3,hmin⟩:=h2 a ha;have h4:=hmin i hil (by rw[e2,e])
   refine⟨a,ha,?_⟩;rcases pz a i with h|h
   ·have hal:a<xs.length:=by omega
    exfalso
    refine hf a (xs[a]?.getD []) h (by rw[pn hal];rfl) ?_
    rw[e2,e,hi];rfl
   ·have:a=i:=by omega
    rw[this,hi];rfl
def cel(x:Nat):List DV:=[.int .i64 (x:Int)]
def rowP(n:Nat)(z:Z)(p:Nat->Nat):KB:=.row 3 1 n z (fun i=>cel (p i))
theorem qu1(q:Nat->Nat)(j y:Nat):oneF j 0 (cel y) (fun i=>cel (q i))=fun i=>cel (upd q j y i):=by
 funext i
 unfold oneF upd
 split
 ·rfl
 ·rfl
theorem yt6{α:Type}(q:Nat->α)(j k:Nat)(h:j<k):upd (upd q j (q k)) k (q j)=swp q j k 1:=by
 funext x;unfold upd swp;(try dsimp only);repeat' split
 all_goals first|rfl|(exfalso;omega)|(congr 1;omega)
theorem yp0(q:Nat->Nat)(j k:Nat)(h:j<k):oneF k 0 (cel (q j)) (oneF j 0 (cel (q k)) (fun x=>cel (q x)))=fun x=>cel (swp q j k 1 x):=by
 rw[qu1,qu1,yt6 q j k h]
theorem yj3(q:Nat->Nat)(j k:Nat)(h:j<k):oneF j 0 (cel (q k)) (oneF k 0 (cel (q j)) (fun x=>cel (q x)))=fun x=>cel (swp q j k 1 x):=by
 rw[qu1,qu1,<-yt6 q j k h];funext x;unfold upd;repeat' split
 all_goals first|rfl|omega|(congr 1;omega)
theorem jr2(n:Nat)(hn:n<1152921504606846976)(z:Z)(p:Nat->Nat)(a b m:Nat)(ha:a+m<=n)(hb:b+m<=n)(hab:a+m<=b):COk Tryz.prog 162 [.all 0,iV a,iV b,iV m,.any] [rowP n z p] (fun s k=>s = .tup []/\k=[rowP n z (swp p a b m)]):=by
 refine j7 (TT:=TT) (IN:=qh []) qk qj mixed 1000 Tryz.func162 rfl (qi Tryz.func162 (by kernel_rfl) rfl) 33 (by kernel_rfl) ?_
 conv=>whnf
 refine .inv Nat (fun i=>i<=m) (fun i=>[(10,iV i)]) (fun i=>[(0,rowP n z (swp p a b i))]) (fun i=>m - i) ⟨0,[0],by omega,?_⟩ ?_
 ·conv=>whnf
  rw[yo1];repeat'(first|exact ⟨⟩|exact rfl|exact qa _|exact .inr rfl|exact fun _ _=>rfl|exact noI|apply And.intro)
 intro i hi;conv=>whnf
 refine⟨fun h1=>?_,fun h1=>?_⟩
 ·have h1:i<m:=by
   have h:(i:Int)<m:=of_decide_eq_true h1
   omega
  have e1:IntKind.i64.wrap ((a:Int)+(i:Int))=((a+i:Nat):Int):=by rw[qe _ (by omega)];omega
  have e2:IntKind.i64.wrap ((b:Int)+(i:Int))=((b+i:Nat):Int):=by rw[qe _ (by omega)];omega
  conv=>whnf
  refine⟨?_,?_,?_,?_⟩;rotate_left 2
  ·conv=>whnf
   rw[e1,e2];repeat'(first|exact⟨rfl,rfl⟩|(refine⟨⟨by omega,by omega⟩,?_⟩;conv=>whnf)|exact ⟨⟩|apply And.intro|(conv=>whnf))
  ·conv=>whnf
   refine⟨i+1,[0],by omega,by show m - (i+1)<m - i;omega,?_⟩
   have e3:=w64s i (by omega)
   rw[e3];conv=>whnf
   repeat'(first|exact ⟨⟩|exact rfl|exact qa _|exact .inr rfl|exact fun _ _=>rfl|exact noI|apply And.intro)
   intro x hx;rw[e1];exact(congrFun (yp0 (swp p a b i) (a+i) (b+i) (by omega)) x).trans (congrArg (fun f=>cel (f x)) (yt9 p a b i (by omega)))
 ·have h1:i=m:=by
   have h:¬ ((i:Int)<m):=of_decide_eq_false h1
   omega
  subst h1;conv=>whnf
  refine⟨[0],_,_,rfl,rfl,?_,?_,rfl,rfl⟩
  ·exact rfl
  ·conv=>whnf
   repeat'(first|exact ⟨⟩|exact rfl|exact qa _|exact .inr rfl|exact fun _ _=>rfl|exact noI|apply And.intro)
theorem zr9(n:Nat)(hn:n<1152921504606846976)(z:Z)(p:Nat->Nat)(a m b:Nat)(ha:a<m)(hb:m<b)(hbn:b<=n):COk Tryz.prog 157 [.all 0,iV a,iV m,iV b,.any] [rowP n z p] (fun s k=>s = .tup []/\k=[rowP n z (rot p a m b)]):=by
 refine j7 (TT:=TT) (IN:=qh []) qk qj mixed 1000 Tryz.func157 rfl (qi Tryz.func157 (by kernel_rfl) rfl) 53 (by kernel_rfl) ?_
 have e1:IntKind.i64.wrap ((m:Int) - (a:Int))=((m - a:Nat):Int):=by rw[qe _ (by omega)];omega
 have e2:IntKind.i64.wrap ((b:Int) - (m:Int))=((b - m:Nat):Int):=by rw[qe _ (by omega)];omega
 conv=>whnf
 rw[e1,e2];refine .inv (Nat × Nat × (Nat->Nat)) (fun s=>0<s.1/\0<s.2.1/\s.1<=m - a/\s.2.1<=b - m/\rot s.2.2 (m - s.1) m (m+s.2.1)=rot p a m b) (fun s=>[(10,iV s.1),(11,iV s.2.1)]) (fun s=>[(0,rowP n z s.2.2)]) (fun s=>s.1+s.2.1) ⟨(m - a,b - m,p),[0],show 0<m - a/\0<b - m/\m - a<=m - a/\b - m<=b - m/\rot p (m - (m - a)) m (m+(b - m))=rot p a m b from⟨by omega,by omega,by omega,by omega,?_⟩,?_⟩ ?_
 ·rw[show m - (m - a)=a by omega,show m+(b - m)=b by omega]
 ·conv=>whnf
  repeat'(first|exact ⟨⟩|exact rfl|exact qa _|exact .inr rfl|exact fun _ _=>rfl|exact noI|apply And.intro)
 intro s hs;obtain⟨i,j,q⟩:=s;obtain⟨h0,h00,him,hjb,hq⟩:=hs;dsimp only at h0 h00 him hjb hq
 conv=>whnf
 refine⟨fun h1=>?_,fun h1=>?_⟩
 ·have h1:¬ i=j:=fun e=>by subst e;simp at h1
  conv=>whnf
  refine⟨fun h2=>?_,fun h2=>?_⟩
  ·have h2:j<i:=by
    have h:(i:Int) > j:=of_decide_eq_true h2
    omega
   have e3:IntKind.i64.wrap ((m:Int) - (i:Int))=((m - i:Nat):Int):=by rw[qe _ (by omega)];omega
   conv=>whnf
   rw[e3];refine .rel _ (jr2 n hn z q (m - i) m j (by omega) (by omega) (by omega)) (fun r ks' hR=>?_)
   obtain⟨rfl,rfl⟩:=hR;have e4:IntKind.i64.wrap ((i:Int) - (j:Int))=((i - j:Nat):Int):=by rw[qe _ (by omega)];omega
   conv=>whnf
   rw[e4];refine⟨(i - j,j,swp q (m - i) m j),[0],(show 0<i - j/\0<j/\i - j<=m - a/\j<=b - m/\rot (swp q (m - i) m j) (m - (i - j)) m (m+j)=rot p a m b from⟨by omega,by omega,by omega,by omega,(yo7 q m i j h2 (by omega)).trans hq⟩),by show i - j+j<i+j;omega,?_⟩
   conv=>whnf
   repeat'(first|exact ⟨⟩|exact rfl|exact qa _|exact .inr rfl|exact fun _ _=>rfl|exact noI|apply And.intro)
  ·have h2:i<j:=by
    have h:¬ ((i:Int) > j):=of_decide_eq_false h2
    omega
   have e3:IntKind.i64.wrap ((m:Int) - (i:Int))=((m - i:Nat):Int):=by rw[qe _ (by omega)];omega
   have e5:IntKind.i64.wrap (IntKind.i64.wrap ((m:Int)+(j:Int)) - (i:Int))=((m+j - i:Nat):Int):=by rw[qe ((m:Int)+j) (by omega),qe _ (by omega)];omega
   conv=>whnf
   rw[e3,e5];refine .rel _ (jr2 n hn z q (m - i) (m+j - i) i (by omega) (by omega) (by omega)) (fun r ks' hR=>?_)
   obtain⟨rfl,rfl⟩:=hR;have e4:IntKind.i64.wrap ((j:Int) - (i:Int))=((j - i:Nat):Int):=by rw[qe _ (by omega)];omega
   conv=>whnf
   rw[e4];refine⟨(i,j - i,swp q (m - i) (m+j - i) i),[0],(show 0<i/\0<j - i/\i<=m - a/\j - i<=b - m/\rot (swp q (m - i) (m+j - i) i) (m - i) m (m+(j - i))=rot p a m b from⟨by omega,by omega,by omega,by omega,(yi5 q m i j h2 (by omega)).trans hq⟩),by show i+(j - i)<i+j;omega,?_⟩
   conv=>whnf
   repeat'(first|exact ⟨⟩|exact rfl|exact qa _|exact .inr rfl|exact fun _ _=>rfl|exact noI|apply And.intro)
 ·have h1:i=j:=by simp at h1;omega
  subst h1;have e3:IntKind.i64.wrap ((m:Int) - (i:Int))=((m - i:Nat):Int):=by rw[qe _ (by omega)];omega
  conv=>whnf
  rw[e3];refine .rel _ (jr2 n hn z q (m - i) m i (by omega) (by omega) (by omega)) (fun r ks' hR=>?_)
  obtain⟨rfl,rfl⟩:=hR;rw[yo6 q m i (by omega),hq]
  conv=>whnf
  refine⟨[0],_,_,rfl,rfl,?_,?_,rfl,rfl⟩
  ·exact rfl
  ·conv=>whnf
   repeat'(first|exact ⟨⟩|exact rfl|exact qa _|exact .inr rfl|exact fun _ _=>rfl|exact noI|apply And.intro)
def upN(n:List UInt8):List UInt8:=n.drop (1+bt n 0)
def ja(n:List UInt8):List UInt8 × Int:=if qb n then (if n=[0] then ([],3) else (upN n,0)) else ([],2)
theorem we{n:List UInt8}(h:qb n)(hn:n≠[0]):1+bt n 0<=n.length/\bt n 0<=63:=by
 obtain⟨h1,h2,h3⟩:=xp h;cases hl:labN n with
 |nil=>rw [hl] at h3;exact absurd h3 hn
 |cons l ls =>
  rw [hl] at h2 h3;have hok:=h2 l (by simp)
  have hb:bt n 0=l.length:=by rw[h3];exact uo l (mk ls) hok
  rw[hb];have:=hok.2
  refine⟨?_,this⟩;conv=>rhs;rw[h3]
  show _<=(lab l++mk ls).length
  rw[p7,vw];omega
theorem vn(n:List UInt8):FnOk Tryz.prog 135 [.d (.str n)] (.tup [.d (.str (ja n).1),.d (.int .i64 (ja n).2)]):=by
 refine qp (TT:=TT) (IN:=qh []) qk qj mixed 1000 Tryz.func135 rfl (qi Tryz.func135 (by kernel_rfl) rfl) rfl 14 (by kernel_rfl) ?_
 conv=>whnf
 refine od (zw n) rfl rfl ?_;by_cases hn:qb n
 ·rw[if_pos hn];conv=>whnf
  refine brF rfl ?_;conv=>whnf
  refine⟨fun h1=>?_,fun h1=>?_⟩
  ·have h1:n=[0]:=by simpa using h1
   rw[show ja n=([],3) by unfold ja;rw[if_pos hn,if_pos h1]]
   conv=>whnf
   repeat'(first|exact ⟨⟩|exact rfl|exact .inr rfl|exact .inl rfl|exact fun _ _=>rfl|exact noI|apply And.intro)
  ·have h1:n≠[0]:=by simpa using h1
   rw[show ja n=(upN n,0) by unfold ja;rw[if_pos hn,if_neg h1]]
   obtain⟨k1,k2⟩:=we hn h1;have hpos:=hn.1
   have e1:IntKind.i64.wrap (1+IntKind.i64.wrap (zc n 0))=((1+bt n 0:Nat):Int):=by
    have:=z1 n 0
    rw [show ((0:Nat):Int)=0 from rfl] at this;rw[this,qe (bt n 0:Int) (by omega),qe _ (by omega)];omega
   conv=>whnf
   refine⟨by omega,?_⟩
   conv=>whnf
   rw[e1];refine⟨by omega,?_⟩
   conv=>whnf
   rw[jc1];repeat'(first|exact ⟨⟩|exact rfl|exact .inr rfl|exact .inl rfl|exact fun _ _=>rfl|exact noI|apply And.intro)
 ·rw[if_neg hn];rw[show ja n=([],2) by unfold ja;rw[if_neg hn]]
  conv=>whnf
  refine brT rfl ?_;conv=>whnf
  repeat'(first|exact ⟨⟩|exact rfl|exact .inr rfl|exact .inl rfl|exact fun _ _=>rfl|exact noI|apply And.intro)
theorem COk.frameX{P:Program}{f:FuncId}{as0:List SV}{ks0:List KB}{R0:SV->List KB->Prop}(h:COk P f as0 ks0 R0)(is:List Nat){al:List SV}{ks:List KB}
 (hok:okN (lenB ks) is=true) (ha:mapL (sig is (lenB ks)) as0=al) (hk:qe2 ks is=mapB (sig is (lenB ks)) ks0):COk P f al ks (fun s k=>∃ s0 k0,R0 s0 k0/\s=mapV (sig is (lenB ks)) s0/\k=qi0 ks is (mapB (sig is (lenB ks)) k0)) :=
 COk.frame h is hok ha hk (fun s0 k0 h=>⟨s0,k0,h,rfl,rfl⟩)
theorem je1{K V:Type}{ek:K->List DV}{ev:V->List SV}{σ:Nat->Nat}(hv:∀ v,mapL σ (ev v)=ev v):∀ l:List (K × V),mapM σ (aenc ek ev l)=aenc ek ev l
 |[]=>rfl
 |e :: l=>by
  show(ek e.1,mapL σ (ev e.2)) :: mapM σ (aenc ek ev l)=(ek e.1,ev e.2) :: aenc ek ev l
  rw[hv,je1 hv l]
theorem ql1{K V:Type}{ek:K->List DV}{ev:V->List SV}{ρ:List Nat}(hv:∀ v,renL ρ (ev v)=ev v):∀ l:List (K × V),renM ρ (aenc ek ev l)=aenc ek ev l
 |[]=>rfl
 |e :: l=>by
  show(ek e.1,renL ρ (ev e.2)) :: renM ρ (aenc ek ev l)=(ek e.1,ev e.2) :: aenc ek ev l
  rw[hv,ql1 hv l]
def intV(n:Nat):List SV:=[.d (.int .i64 (n:Nat))]
def xo3(z:Zo)(i:Nat):KB:=.cells 135 [.d (.str z.apex),.d (rrsD z.z z.rrs),.map i,.map (i+1)]
def ua(S:List ((List UInt8 × Int × Int × List UInt8) × Nat)):KB:=.map [.str,.int .u16,.int .u16,.str] true false (aenc xk intV S)
def wo(N:List (List UInt8 × Hd))(st:MS):KB:=.mapx [.str] false true (aenc strK Hd.enc N) st
def lookK(z:Zo)(S:List ((List UInt8 × Int × Int × List UInt8) × Nat))(N:List (List UInt8 × Hd))(st:MS):List KB:=[xo3 z 1,ua S,wo N st]
theorem qo{ρ:List Nat}(S:List ((List UInt8 × Int × Int × List UInt8) × Nat)):renM ρ (aenc xk intV S)=aenc xk intV S:=ql1 (fun _=>rfl) S
theorem qn{ρ:List Nat}(N:List (List UInt8 × Hd)):renM ρ (aenc strK Hd.enc N)=aenc strK Hd.enc N:=ql1 (fun _=>rfl) N
theorem jp0{σ:Nat->Nat}(S:List ((List UInt8 × Int × Int × List UInt8) × Nat)):mapM σ (aenc xk intV S)=aenc xk intV S:=je1 (fun _=>rfl) S
theorem jp5{σ:Nat->Nat}(N:List (List UInt8 × Hd)):mapM σ (aenc strK Hd.enc N)=aenc strK Hd.enc N:=je1 (fun _=>rfl) N
theorem wd{n:List UInt8}(h:qb n)(hn:n≠[0]):qb (upN n):=by
 obtain⟨h1,h2,h3⟩:=xp h;cases hl:labN n with
 |nil=>rw [hl] at h3;exact absurd h3 hn
 |cons l ls =>
  rw [hl] at h2 h3;have hok:=h2 l (by simp)
  have hb:bt n 0=l.length:=by rw[h3];exact uo l (mk ls) hok
  have hu:upN n=mk ls:=by
   unfold upN
   rw[hb,h3];show(UInt8.ofNat l.length :: (l++mk ls)).drop (1+l.length)=_;rw[Nat.add_comm,List.drop_succ_cons,sq]
  rw[hu];refine(qt0 _).2 ⟨?_,ls,fun x hx=>h2 x (by simp[hx]),rfl⟩
  rw [h3] at h1;have:(mk (l :: ls)).length=(lab l).length+(mk ls).length:=by
   show(lab l++mk ls).length=_
   rw[p7]
  omega
theorem qt(N:List (List UInt8 × Hd))(st:MS)(ρ:List Nat):SubK (renK ρ (wo N st)) (wo N st):=by
 cases st
 ·exact⟨⟨rfl,rfl,rfl⟩,qn N⟩
 ·exact⟨⟨⟨rfl,rfl,rfl⟩,qn N⟩,rfl⟩
 ·exact⟨⟨⟨rfl,rfl,rfl⟩,qn N⟩,rfl⟩
theorem qb1(p:RR->Bool)(l:List RR)(n:List UInt8):cntZ p l n<=l.length:=fq _ _
theorem xj8(z:Zo)(S:List ((List UInt8 × Int × Int × List UInt8) × Nat))(l:List RR)(hl:l.length<=300)(st:MS)(name top:List UInt8)(hn:qb name) :
 COk Tryz.prog 128 [.ptr 0 0,.d (.str name),.d (.str top),.agg (yd l name).enc] (lookK z S (qf l) st) (fun s k=>s = .d (.bool (jb l top name))/\k=lookK z S (qf l) st):=by
 refine j7 (TT:=TT) (IN:=qh [(111,Tryz.f111,1),(134,Tryz.f134,2)]) qk (jj (jj qj Tryz.func134 (by kernel_rfl) (by kernel_rfl)) Tryz.func111 (by kernel_rfl) (by kernel_rfl)) mixed 1000 Tryz.func128 rfl (qi Tryz.func128 (by kernel_rfl) rfl) 59 (by kernel_rfl) ?_
 have b1:=qb1 anyR l name
 have b2:=qb1 zn l name
 have b3:=qb1 isNs l name
 have b4:=qb1 w5 l name
 have b5:=qb1 jx l name
 conv=>whnf
 refine⟨fun h1=>?_,fun h1=>?_⟩
 ·have h1:0<cntZ w5 l name:=by
   have h:((cntZ w5 l name:Nat):Int) > 0:=of_decide_eq_true h1
   omega
  conv=>whnf
  refine⟨fun h2=>?_,fun h2=>?_⟩
  ·have h2:1<cntZ anyR l name:=by
    have h:((cntZ anyR l name:Nat):Int) > 1:=of_decide_eq_true h2
    omega
   have hf:jb l top name=false:=by unfold jb;rw[if_pos ⟨h1,h2⟩]
   conv=>whnf
   rw[hf];refine⟨[0,1,2],_,lookK z S (qf l) st,rfl,rfl,?_,?_,rfl,rfl⟩
   ·exact rfl
   ·conv=>whnf
    repeat'(first|exact ⟨⟩|exact rfl|exact qa _|exact .inr rfl|exact fun _ _=>rfl|exact noI|apply And.intro)
    all_goals first
     |exact qo _
     |exact qn _
     |exact qt _ _ _
  ·have h2:¬ 1<cntZ anyR l name:=by
    have h:¬ ((cntZ anyR l name:Nat):Int) > 1:=of_decide_eq_false h2
    omega
   have hA:¬ (0<cntZ w5 l name/\1<cntZ anyR l name):=fun h=>h2 h.2
   conv=>whnf
   refine⟨fun h3=>?_,fun h3=>?_⟩
   ·have h3:name=top:=by simpa using h3
    have hf:jb l top name=true:=by unfold jb;rw[if_neg hA,if_pos h3]
    conv=>whnf
    rw[hf];refine⟨[0,1,2],_,lookK z S (qf l) st,rfl,rfl,?_,?_,rfl,rfl⟩
    ·exact rfl
    ·conv=>whnf
     repeat'(first|exact ⟨⟩|exact rfl|exact qa _|exact .inr rfl|exact fun _ _=>rfl|exact noI|apply And.intro)
     all_goals first
      |exact qo _
      |exact qn _
      |exact qt _ _ _
   ·have h3:name≠top:=by simpa using h3
    conv=>whnf
    refine⟨fun h4=>?_,fun h4=>?_⟩
    ·have h4:0<cntZ zn l name:=by
      have h:((cntZ zn l name:Nat):Int) > 0:=of_decide_eq_true h4
      omega
     have hf:jb l top name=false:=by unfold jb;rw[if_neg hA,if_neg h3,if_pos (.inl h4)]
     conv=>whnf
     rw[hf];refine⟨[0,1,2],_,lookK z S (qf l) st,rfl,rfl,?_,?_,rfl,rfl⟩
     ·exact rfl
     ·conv=>whnf
      repeat'(first|exact ⟨⟩|exact rfl|exact qa _|exact .inr rfl|exact fun _ _=>rfl|exact noI|apply And.intro)
      all_goals first
       |exact qo _
       |exact qn _
       |exact qt _ _ _
    ·have h4:¬ 0<cntZ zn l name:=by
      have h:¬ ((cntZ zn l name:Nat):Int) > 0:=of_decide_eq_false h4
      omega
     conv=>whnf
     refine⟨fun h5=>?_,fun h5=>?_⟩
     ·have h5:0<cntZ isNs l name:=by
       have h:((cntZ isNs l name:Nat):Int) > 0:=of_decide_eq_true h5
       omega
      have hw:IntKind.i64.wrap (((yd l name).ns:Nat)+((yd l name).addr:Nat):Int)=((cntZ isNs l name+cntZ jx l name:Nat):Int):=by
       show IntKind.i64.wrap (((cntZ isNs l name:Nat):Int)+((cntZ jx l name:Nat):Int))=_
       rw[qe _ (by omega)];omega
      conv=>whnf
      rw[hw];refine⟨fun h6=>?_,fun h6=>?_⟩
      ·have h6:cntZ isNs l name+cntZ jx l name<cntZ anyR l name:=by
        have h:((cntZ anyR l name:Nat):Int) > ((cntZ isNs l name+cntZ jx l name:Nat):Int):=of_decide_eq_true h6
        omega
       have hf:jb l top name=false:=by unfold jb;rw[if_neg hA,if_neg h3,if_pos (.inr ⟨h5,h6⟩)]
       conv=>whnf
       rw[hf];refine⟨[0,1,2],_,lookK z S (qf l) st,rfl,rfl,?_,?_,rfl,rfl⟩
       ·exact rfl
       ·conv=>whnf
        repeat'(first|exact ⟨⟩|exact rfl|exact qa _|exact .inr rfl|exact fun _ _=>rfl|exact noI|apply And.intro)
        all_goals first
         |exact qo _
         |exact qn _
         |exact qt _ _ _
      ·have h6:¬ cntZ isNs l name+cntZ jx l name<cntZ anyR l name:=by
        have h:¬ ((cntZ anyR l name:Nat):Int) > ((cntZ isNs l name+cntZ jx l name:Nat):Int):=of_decide_eq_false h6
        omega
       have hf:jb l top name=zp l name top (upsN name):=by unfold jb;rw[if_neg hA,if_neg h3,if_neg (fun h=>h.elim h4 (fun h=>h6 h.2))]
       conv=>whnf
       refine od (zw name) rfl rfl ?_;rw[if_pos hn];conv=>whnf
       refine brF rfl ?_;conv=>whnf
       refine .inv (List UInt8 × Nat) (fun s=>qb s.1/\s.1.length<=s.2/\zp l name top (upsF s.2 s.1)=jb l top name) (fun s=>[(3,.d (.str s.1))]) (fun s=>[]) (fun s=>s.2) ⟨(name,name.length),[0,1,2,3,4,5,6,7,8,9],⟨hn,pq _,by rw[hf];unfold upsN;rw[if_pos hn]⟩,?_⟩ ?_
       ·conv=>whnf
        repeat'(first|exact ⟨⟩|exact rfl|exact qa _|exact .inr rfl|exact fun _ _=>rfl|exact noI|apply And.intro)
        all_goals first
         |exact qo _
         |exact qn _
         |exact qt _ _ _
       clear hf;intro s hs;obtain⟨g1,g2,g3⟩:=hs;conv=>whnf
       generalize s.1=n at g1 g2 g3 ⊢;generalize s.2=k at g2 g3 ⊢;obtain⟨k,rfl⟩:∃ k',k=k'+1:=⟨k - 1,by have:=g1.1;omega⟩
       have hc:zp l name top (upsF (k+1) n)=if n=top then true else if n≠name/\0<cntZ isNs l n then cntZ anyR l name == cntZ jx l name else zp l name top (if n=[0] then [] else upsF k (n.drop (1+bt n 0))):=rfl
       refine⟨fun g4=>?_,fun g4=>?_⟩
       ·have g4:n=top:=by simpa using g4
        have hf:jb l top name=true:=by rw[<-g3,hc,if_pos g4]
        conv=>whnf
        rw[hf];refine⟨[0,1,2],_,lookK z S (qf l) st,rfl,rfl,?_,?_,rfl,rfl⟩
        ·exact rfl
        ·conv=>whnf
         repeat'(first|exact ⟨⟩|exact rfl|exact qa _|exact .inr rfl|exact fun _ _=>rfl|exact noI|apply And.intro)
         all_goals first
          |exact qo _
          |exact qn _
          |exact qt _ _ _
       ·have g4:n≠top:=by simpa using g4
        rw [if_neg g4] at hc;conv=>whnf
        refine⟨fun g5=>?_,fun g5=>?_⟩
        ·have g5:n≠name:=by simpa using g5
         conv=>whnf
         have hg:=qj9 l n
         cases ha:aget (qf l) n with
         |none =>
          rw [ha] at hg;have hns:cntZ isNs l n=0:=(congrArg Hd.ns hg).symm;rw [if_neg (fun h=>by rw [hns] at h;exact absurd h.2 (bp 0))] at hc
          refine ⟨none,by have:=zv (ev:=Hd.enc) yt (qf l) n;rw [ha] at this;exact this,?_⟩
          conv=>whnf
          refine brF rfl ?_;conv=>whnf
          refine od (vn n) rfl rfl ?_;by_cases hz:n=[0]
          ·have hp:ja n=([],3):=by unfold ja;rw[if_pos g1,if_pos hz]
           have hf:jb l top name=true:=by rw[<-g3,hc,if_pos hz];rfl
           rw[hp];conv=>whnf
           refine brT rfl ?_;conv=>whnf
           rw[hf];refine⟨[0,1,2],_,lookK z S (qf l) st,rfl,rfl,?_,?_,rfl,rfl⟩
           ·exact rfl
           ·conv=>whnf
            repeat'(first|exact ⟨⟩|exact rfl|exact qa _|exact .inr rfl|exact fun _ _=>rfl|exact noI|apply And.intro)
            all_goals first
             |exact qo _
             |exact qn _
             |exact qt _ _ _
          ·have hp:ja n=(upN n,0):=by unfold ja;rw[if_pos g1,if_neg hz]
           rw [if_neg hz] at hc;rw[hp];conv=>whnf
           refine brF rfl ?_;conv=>whnf
           refine⟨(upN n,k),[0,1,2,3,4,5,6,7,8,9],⟨wd g1 hz,?_,?_⟩,l8 k,?_⟩
           ·have:=we g1 hz
            show(upN n).length<=k
            unfold upN
            rw[ow];omega
           ·exact(by rw[<-g3,hc];rfl)
           ·conv=>whnf
            repeat'(first|exact ⟨⟩|exact rfl|exact qa _|exact .inr rfl|exact fun _ _=>rfl|exact noI|apply And.intro)
            all_goals first
             |exact qo _
             |exact qn _
             |exact qt _ _ _
         |some h0 =>
          rw [ha] at hg;have hns:h0.ns=cntZ isNs l n:=congrArg Hd.ns hg
          refine ⟨some h0.enc,by have:=zv (ev:=Hd.enc) yt (qf l) n;rw [ha] at this;exact this,?_⟩
          conv=>whnf
          refine⟨fun g6=>?_,fun g6=>?_⟩
          ·have g6:0<cntZ isNs l n:=by
            have h:((h0.ns:Nat):Int) > 0:=of_decide_eq_true g6
            omega
           have hf:jb l top name=((((yd l name).all:Nat):Int) == (((yd l name).addr:Nat):Int)):=by
            rw[<-g3,hc,if_pos ⟨g5,g6⟩,lw,beq_iff_eq,beq_iff_eq];show(cntZ anyR l name=cntZ jx l name)↔((cntZ anyR l name:Nat):Int)=((cntZ jx l name:Nat):Int);omega
           conv=>whnf
           rw[hf];refine⟨[0,1,2],_,lookK z S (qf l) st,rfl,rfl,?_,?_,rfl,rfl⟩
           ·exact rfl
           ·conv=>whnf
            repeat'(first|exact ⟨⟩|exact rfl|exact qa _|exact .inr rfl|exact fun _ _=>rfl|exact noI|apply And.intro)
            all_goals first
             |exact qo _
             |exact qn _
             |exact qt _ _ _
          ·have g6:¬ 0<cntZ isNs l n:=by
            have h:¬ ((h0.ns:Nat):Int) > 0:=of_decide_eq_false g6
            omega
           rw [if_neg (fun h=>g6 h.2)] at hc
           conv=>whnf
           refine od (vn n) rfl rfl ?_;by_cases hz:n=[0]
           ·have hp:ja n=([],3):=by unfold ja;rw[if_pos g1,if_pos hz]
            have hf:jb l top name=true:=by rw[<-g3,hc,if_pos hz];rfl
            rw[hp];conv=>whnf
            refine brT rfl ?_;conv=>whnf
            rw[hf];refine⟨[0,1,2],_,lookK z S (qf l) st,rfl,rfl,?_,?_,rfl,rfl⟩
            ·exact rfl
            ·conv=>whnf
             repeat'(first|exact ⟨⟩|exact rfl|exact qa _|exact .inr rfl|exact fun _ _=>rfl|exact noI|apply And.intro)
             all_goals first
              |exact qo _
              |exact qn _
              |exact qt _ _ _
           ·have hp:ja n=(upN n,0):=by unfold ja;rw[if_pos g1,if_neg hz]
            rw [if_neg hz] at hc;rw[hp];conv=>whnf
            refine brF rfl ?_;conv=>whnf
            refine⟨(upN n,k),[0,1,2,3,4,5,6,7,8,9],⟨wd g1 hz,?_,?_⟩,l8 k,?_⟩
            ·have:=we g1 hz
             show(upN n).length<=k
             unfold upN
             rw[ow];omega
            ·exact(by rw[<-g3,hc];rfl)
            ·conv=>whnf
             repeat'(first|exact ⟨⟩|exact rfl|exact qa _|exact .inr rfl|exact fun _ _=>rfl|exact noI|apply And.intro)
             all_goals first
              |exact qo _
              |exact qn _
              |exact qt _ _ _
        ·have g5:n=name:=by simpa using g5
         rw [if_neg (fun h=>h.1 g5)] at hc
         conv=>whnf
         refine od (vn n) rfl rfl ?_;by_cases hz:n=[0]
         ·have hp:ja n=([],3):=by unfold ja;rw[if_pos g1,if_pos hz]
          have hf:jb l top name=true:=by rw[<-g3,hc,if_pos hz];rfl
          rw[hp];conv=>whnf
          refine brT rfl ?_;conv=>whnf
          rw[hf];refine⟨[0,1,2],_,lookK z S (qf l) st,rfl,rfl,?_,?_,rfl,rfl⟩
          ·exact rfl
          ·conv=>whnf
           repeat'(first|exact ⟨⟩|exact rfl|exact qa _|exact .inr rfl|exact fun _ _=>rfl|exact noI|apply And.intro)
           all_goals first
            |exact qo _
            |exact qn _
            |exact qt _ _ _
         ·have hp:ja n=(upN n,0):=by unfold ja;rw[if_pos g1,if_neg hz]
          rw [if_neg hz] at hc;rw[hp];conv=>whnf
          refine brF rfl ?_;conv=>whnf
          refine⟨(upN n,k),[0,1,2,3,4,5,6,7,8,9],⟨wd g1 hz,?_,?_⟩,l8 k,?_⟩
          ·have:=we g1 hz
           show(upN n).length<=k
           unfold upN
           rw[ow];omega
          ·exact(by rw[<-g3,hc];rfl)
          ·conv=>whnf
           repeat'(first|exact ⟨⟩|exact rfl|exact qa _|exact .inr rfl|exact fun _ _=>rfl|exact noI|apply And.intro)
           all_goals first
            |exact qo _
            |exact qn _
            |exact qt _ _ _
     ·have h5:¬ 0<cntZ isNs l name:=by
       have h:¬ ((cntZ isNs l name:Nat):Int) > 0:=of_decide_eq_false h5
       omega
      have hf:jb l top name=zp l name top (upsN name):=by unfold jb;rw[if_neg hA,if_neg h3,if_neg (fun h=>h.elim h4 (fun h=>h5 h.1))]
      conv=>whnf
      refine od (zw name) rfl rfl ?_;rw[if_pos hn];conv=>whnf
      refine brF rfl ?_;conv=>whnf
      refine .inv (List UInt8 × Nat) (fun s=>qb s.1/\s.1.length<=s.2/\zp l name top (upsF s.2 s.1)=jb l top name) (fun s=>[(3,.d (.str s.1))]) (fun s=>[]) (fun s=>s.2) ⟨(name,name.length),[0,1,2,3,4,5,6,7,8,9],⟨hn,pq _,by rw[hf];unfold upsN;rw[if_pos hn]⟩,?_⟩ ?_
      ·conv=>whnf
       repeat'(first|exact ⟨⟩|exact rfl|exact qa _|exact .inr rfl|exact fun _ _=>rfl|exact noI|apply And.intro)
       all_goals first
        |exact qo _
        |exact qn _
        |exact qt _ _ _
      clear hf;intro s hs;obtain⟨g1,g2,g3⟩:=hs;conv=>whnf
      generalize s.1=n at g1 g2 g3 ⊢;generalize s.2=k at g2 g3 ⊢;obtain⟨k,rfl⟩:∃ k',k=k'+1:=⟨k - 1,by have:=g1.1;omega⟩
      have hc:zp l name top (upsF (k+1) n)=if n=top then true else if n≠name/\0<cntZ isNs l n then cntZ anyR l name == cntZ jx l name else zp l name top (if n=[0] then [] else upsF k (n.drop (1+bt n 0))):=rfl
      refine⟨fun g4=>?_,fun g4=>?_⟩
      ·have g4:n=top:=by simpa using g4
       have hf:jb l top name=true:=by rw[<-g3,hc,if_pos g4]
       conv=>whnf
       rw[hf];refine⟨[0,1,2],_,lookK z S (qf l) st,rfl,rfl,?_,?_,rfl,rfl⟩
       ·exact rfl
       ·conv=>whnf
        repeat'(first|exact ⟨⟩|exact rfl|exact qa _|exact .inr rfl|exact fun _ _=>rfl|exact noI|apply And.intro)
        all_goals first
         |exact qo _
         |exact qn _
         |exact qt _ _ _
      ·have g4:n≠top:=by simpa using g4
       rw [if_neg g4] at hc;conv=>whnf
       refine⟨fun g5=>?_,fun g5=>?_⟩
       ·have g5:n≠name:=by simpa using g5
        conv=>whnf
        have hg:=qj9 l n
        cases ha:aget (qf l) n with
        |none =>
         rw [ha] at hg;have hns:cntZ isNs l n=0:=(congrArg Hd.ns hg).symm;rw [if_neg (fun h=>by rw [hns] at h;exact absurd h.2 (bp 0))] at hc
         refine ⟨none,by have:=zv (ev:=Hd.enc) yt (qf l) n;rw [ha] at this;exact this,?_⟩
         conv=>whnf
         refine brF rfl ?_;conv=>whnf
         refine od (vn n) rfl rfl ?_;by_cases hz:n=[0]
         ·have hp:ja n=([],3):=by unfold ja;rw[if_pos g1,if_pos hz]
          have hf:jb l top name=true:=by rw[<-g3,hc,if_pos hz];rfl
          rw[hp];conv=>whnf
          refine brT rfl ?_;conv=>whnf
          rw[hf];refine⟨[0,1,2],_,lookK z S (qf l) st,rfl,rfl,?_,?_,rfl,rfl⟩
          ·exact rfl
          ·conv=>whnf
           repeat'(first|exact ⟨⟩|exact rfl|exact qa _|exact .inr rfl|exact fun _ _=>rfl|exact noI|apply And.intro)
           all_goals first
            |exact qo _
            |exact qn _
            |exact qt _ _ _
         ·have hp:ja n=(upN n,0):=by unfold ja;rw[if_pos g1,if_neg hz]
          rw [if_neg hz] at hc;rw[hp];conv=>whnf
          refine brF rfl ?_;conv=>whnf
          refine⟨(upN n,k),[0,1,2,3,4,5,6,7,8,9],⟨wd g1 hz,?_,?_⟩,l8 k,?_⟩
          ·have:=we g1 hz
           show(upN n).length<=k
           unfold upN
           rw[ow];omega
          ·exact(by rw[<-g3,hc];rfl)
          ·conv=>whnf
           repeat'(first|exact ⟨⟩|exact rfl|exact qa _|exact .inr rfl|exact fun _ _=>rfl|exact noI|apply And.intro)
           all_goals first
            |exact qo _
            |exact qn _
            |exact qt _ _ _
        |some h0 =>
         rw [ha] at hg;have hns:h0.ns=cntZ isNs l n:=congrArg Hd.ns hg
         refine ⟨some h0.enc,by have:=zv (ev:=Hd.enc) yt (qf l) n;rw [ha] at this;exact this,?_⟩
         conv=>whnf
         refine⟨fun g6=>?_,fun g6=>?_⟩
         ·have g6:0<cntZ isNs l n:=by
           have h:((h0.ns:Nat):Int) > 0:=of_decide_eq_true g6
           omega
          have hf:jb l top name=((((yd l name).all:Nat):Int) == (((yd l name).addr:Nat):Int)):=by
           rw[<-g3,hc,if_pos ⟨g5,g6⟩,lw,beq_iff_eq,beq_iff_eq];show(cntZ anyR l name=cntZ jx l name)↔((cntZ anyR l name:Nat):Int)=((cntZ jx l name:Nat):Int);omega
          conv=>whnf
          rw[hf];refine⟨[0,1,2],_,lookK z S (qf l) st,rfl,rfl,?_,?_,rfl,rfl⟩
          ·exact rfl
          ·conv=>whnf
           repeat'(first|exact ⟨⟩|exact rfl|exact qa _|exact .inr rfl|exact fun _ _=>rfl|exact noI|apply And.intro)
           all_goals first
            |exact qo _
            |exact qn _
            |exact qt _ _ _
         ·have g6:¬ 0<cntZ isNs l n:=by
           have h:¬ ((h0.ns:Nat):Int) > 0:=of_decide_eq_false g6
           omega
          rw [if_neg (fun h=>g6 h.2)] at hc
          conv=>whnf
          refine od (vn n) rfl rfl ?_;by_cases hz:n=[0]
          ·have hp:ja n=([],3):=by unfold ja;rw[if_pos g1,if_pos hz]
           have hf:jb l top name=true:=by rw[<-g3,hc,if_pos hz];rfl
           rw[hp];conv=>whnf
           refine brT rfl ?_;conv=>whnf
           rw[hf];refine⟨[0,1,2],_,lookK z S (qf l) st,rfl,rfl,?_,?_,rfl,rfl⟩
           ·exact rfl
           ·conv=>whnf
            repeat'(first|exact ⟨⟩|exact rfl|exact qa _|exact .inr rfl|exact fun _ _=>rfl|exact noI|apply And.intro)
            all_goals first
             |exact qo _
             |exact qn _
             |exact qt _ _ _
          ·have hp:ja n=(upN n,0):=by unfold ja;rw[if_pos g1,if_neg hz]
           rw [if_neg hz] at hc;rw[hp];conv=>whnf
           refine brF rfl ?_;conv=>whnf
           refine⟨(upN n,k),[0,1,2,3,4,5,6,7,8,9],⟨wd g1 hz,?_,?_⟩,l8 k,?_⟩
           ·have:=we g1 hz
            show(upN n).length<=k
            unfold upN
            rw[ow];omega
           ·exact(by rw[<-g3,hc];rfl)
           ·conv=>whnf
            repeat'(first|exact ⟨⟩|exact rfl|exact qa _|exact .inr rfl|exact fun _ _=>rfl|exact noI|apply And.intro)
            all_goals first
             |exact qo _
             |exact qn _
             |exact qt _ _ _
       ·have g5:n=name:=by simpa using g5
        rw [if_neg (fun h=>h.1 g5)] at hc
        conv=>whnf
        refine od (vn n) rfl rfl ?_;by_cases hz:n=[0]
        ·have hp:ja n=([],3):=by unfold ja;rw[if_pos g1,if_pos hz]
         have hf:jb l top name=true:=by rw[<-g3,hc,if_pos hz];rfl
         rw[hp];conv=>whnf
         refine brT rfl ?_;conv=>whnf
         rw[hf];refine⟨[0,1,2],_,lookK z S (qf l) st,rfl,rfl,?_,?_,rfl,rfl⟩
         ·exact rfl
         ·conv=>whnf
          repeat'(first|exact ⟨⟩|exact rfl|exact qa _|exact .inr rfl|exact fun _ _=>rfl|exact noI|apply And.intro)
          all_goals first
           |exact qo _
           |exact qn _
           |exact qt _ _ _
        ·have hp:ja n=(upN n,0):=by unfold ja;rw[if_pos g1,if_neg hz]
         rw [if_neg hz] at hc;rw[hp];conv=>whnf
         refine brF rfl ?_;conv=>whnf
         refine⟨(upN n,k),[0,1,2,3,4,5,6,7,8,9],⟨wd g1 hz,?_,?_⟩,l8 k,?_⟩
         ·have:=we g1 hz
          show(upN n).length<=k
          unfold upN
          rw[ow];omega
         ·exact(by rw[<-g3,hc];rfl)
         ·conv=>whnf
          repeat'(first|exact ⟨⟩|exact rfl|exact qa _|exact .inr rfl|exact fun _ _=>rfl|exact noI|apply And.intro)
          all_goals first
           |exact qo _
           |exact qn _
           |exact qt _ _ _
 ·have h1:¬ 0<cntZ w5 l name:=by
   have h:¬ ((cntZ w5 l name:Nat):Int) > 0:=of_decide_eq_false h1
   omega
  have hA:¬ (0<cntZ w5 l name/\1<cntZ anyR l name):=fun h=>h1 h.1
  conv=>whnf
  refine⟨fun h3=>?_,fun h3=>?_⟩
  ·have h3:name=top:=by simpa using h3
   have hf:jb l top name=true:=by unfold jb;rw[if_neg hA,if_pos h3]
   conv=>whnf
   rw[hf];refine⟨[0,1,2],_,lookK z S (qf l) st,rfl,rfl,?_,?_,rfl,rfl⟩
   ·exact rfl
   ·conv=>whnf
    repeat'(first|exact ⟨⟩|exact rfl|exact qa _|exact .inr rfl|exact fun _ _=>rfl|exact noI|apply And.intro)
    all_goals first
     |exact qo _
     |exact qn _
     |exact qt _ _ _
  ·have h3:name≠top:=by simpa using h3
   conv=>whnf
   refine⟨fun h4=>?_,fun h4=>?_⟩
   ·have h4:0<cntZ zn l name:=by
     have h:((cntZ zn l name:Nat):Int) > 0:=of_decide_eq_true h4
     omega
    have hf:jb l top name=false:=by unfold jb;rw[if_neg hA,if_neg h3,if_pos (.inl h4)]
    conv=>whnf
    rw[hf];refine⟨[0,1,2],_,lookK z S (qf l) st,rfl,rfl,?_,?_,rfl,rfl⟩
    ·exact rfl
    ·conv=>whnf
     repeat'(first|exact ⟨⟩|exact rfl|exact qa _|exact .inr rfl|exact fun _ _=>rfl|exact noI|apply And.intro)
     all_goals first
      |exact qo _
      |exact qn _
      |exact qt _ _ _
   ·have h4:¬ 0<cntZ zn l name:=by
     have h:¬ ((cntZ zn l name:Nat):Int) > 0:=of_decide_eq_false h4
     omega
    conv=>whnf
    refine⟨fun h5=>?_,fun h5=>?_⟩
    ·have h5:0<cntZ isNs l name:=by
      have h:((cntZ isNs l name:Nat):Int) > 0:=of_decide_eq_true h5
      omega
     have hw:IntKind.i64.wrap (((yd l name).ns:Nat)+((yd l name).addr:Nat):Int)=((cntZ isNs l name+cntZ jx l name:Nat):Int):=by
      show IntKind.i64.wrap (((cntZ isNs l name:Nat):Int)+((cntZ jx l name:Nat):Int))=_
      rw[qe _ (by omega)];omega
     conv=>whnf
     rw[hw];refine⟨fun h6=>?_,fun h6=>?_⟩
     ·have h6:cntZ isNs l name+cntZ jx l name<cntZ anyR l name:=by
       have h:((cntZ anyR l name:Nat):Int) > ((cntZ isNs l name+cntZ jx l name:Nat):Int):=of_decide_eq_true h6
       omega
      have hf:jb l top name=false:=by unfold jb;rw[if_neg hA,if_neg h3,if_pos (.inr ⟨h5,h6⟩)]
      conv=>whnf
      rw[hf];refine⟨[0,1,2],_,lookK z S (qf l) st,rfl,rfl,?_,?_,rfl,rfl⟩
      ·exact rfl
      ·conv=>whnf
       repeat'(first|exact ⟨⟩|exact rfl|exact qa _|exact .inr rfl|exact fun _ _=>rfl|exact noI|apply And.intro)
       all_goals first
        |exact qo _
        |exact qn _
        |exact qt _ _ _
     ·have h6:¬ cntZ isNs l name+cntZ jx l name<cntZ anyR l name:=by
       have h:¬ ((cntZ anyR l name:Nat):Int) > ((cntZ isNs l name+cntZ jx l name:Nat):Int):=of_decide_eq_false h6
       omega
      have hf:jb l top name=zp l name top (upsN name):=by unfold jb;rw[if_neg hA,if_neg h3,if_neg (fun h=>h.elim h4 (fun h=>h6 h.2))]
      conv=>whnf
      refine od (zw name) rfl rfl ?_;rw[if_pos hn];conv=>whnf
      refine brF rfl ?_;conv=>whnf
      refine .inv (List UInt8 × Nat) (fun s=>qb s.1/\s.1.length<=s.2/\zp l name top (upsF s.2 s.1)=jb l top name) (fun s=>[(3,.d (.str s.1))]) (fun s=>[]) (fun s=>s.2) ⟨(name,name.length),[0,1,2,3,4,5,6,7,8,9],⟨hn,pq _,by rw[hf];unfold upsN;rw[if_pos hn]⟩,?_⟩ ?_
      ·conv=>whnf
       repeat'(first|exact ⟨⟩|exact rfl|exact qa _|exact .inr rfl|exact fun _ _=>rfl|exact noI|apply And.intro)
       all_goals first
        |exact qo _
        |exact qn _
        |exact qt _ _ _
      clear hf;intro s hs;obtain⟨g1,g2,g3⟩:=hs;conv=>whnf
      generalize s.1=n at g1 g2 g3 ⊢;generalize s.2=k at g2 g3 ⊢;obtain⟨k,rfl⟩:∃ k',k=k'+1:=⟨k - 1,by have:=g1.1;omega⟩
      have hc:zp l name top (upsF (k+1) n)=if n=top then true else if n≠name/\0<cntZ isNs l n then cntZ anyR l name == cntZ jx l name else zp l name top (if n=[0] then [] else upsF k (n.drop (1+bt n 0))):=rfl
      refine⟨fun g4=>?_,fun g4=>?_⟩
      ·have g4:n=top:=by simpa using g4
       have hf:jb l top name=true:=by rw[<-g3,hc,if_pos g4]
       conv=>whnf
       rw[hf];refine⟨[0,1,2],_,lookK z S (qf l) st,rfl,rfl,?_,?_,rfl,rfl⟩
       ·exact rfl
       ·conv=>whnf
        repeat'(first|exact ⟨⟩|exact rfl|exact qa _|exact .inr rfl|exact fun _ _=>rfl|exact noI|apply And.intro)
        all_goals first
         |exact qo _
         |exact qn _
         |exact qt _ _ _
      ·have g4:n≠top:=by simpa using g4
       rw [if_neg g4] at hc;conv=>whnf
       refine⟨fun g5=>?_,fun g5=>?_⟩
       ·have g5:n≠name:=by simpa using g5
        conv=>whnf
        have hg:=qj9 l n
        cases ha:aget (qf l) n with
        |none =>
         rw [ha] at hg;have hns:cntZ isNs l n=0:=(congrArg Hd.ns hg).symm;rw [if_neg (fun h=>by rw [hns] at h;exact absurd h.2 (bp 0))] at hc
         refine ⟨none,by have:=zv (ev:=Hd.enc) yt (qf l) n;rw [ha] at this;exact this,?_⟩
         conv=>whnf
         refine brF rfl ?_;conv=>whnf
         refine od (vn n) rfl rfl ?_;by_cases hz:n=[0]
         ·have hp:ja n=([],3):=by unfold ja;rw[if_pos g1,if_pos hz]
          have hf:jb l top name=true:=by rw[<-g3,hc,if_pos hz];rfl
          rw[hp];conv=>whnf
          refine brT rfl ?_;conv=>whnf
          rw[hf];refine⟨[0,1,2],_,lookK z S (qf l) st,rfl,rfl,?_,?_,rfl,rfl⟩
          ·exact rfl
          ·conv=>whnf
           repeat'(first|exact ⟨⟩|exact rfl|exact qa _|exact .inr rfl|exact fun _ _=>rfl|exact noI|apply And.intro)
           all_goals first
            |exact qo _
            |exact qn _
            |exact qt _ _ _
         ·have hp:ja n=(upN n,0):=by unfold ja;rw[if_pos g1,if_neg hz]
          rw [if_neg hz] at hc;rw[hp];conv=>whnf
          refine brF rfl ?_;conv=>whnf
          refine⟨(upN n,k),[0,1,2,3,4,5,6,7,8,9],⟨wd g1 hz,?_,?_⟩,l8 k,?_⟩
          ·have:=we g1 hz
           show(upN n).length<=k
           unfold upN
           rw[ow];omega
          ·exact(by rw[<-g3,hc];rfl)
          ·conv=>whnf
           repeat'(first|exact ⟨⟩|exact rfl|exact qa _|exact .inr rfl|exact fun _ _=>rfl|exact noI|apply And.intro)
           all_goals first
            |exact qo _
            |exact qn _
            |exact qt _ _ _
        |some h0 =>
         rw [ha] at hg;have hns:h0.ns=cntZ isNs l n:=congrArg Hd.ns hg
         refine ⟨some h0.enc,by have:=zv (ev:=Hd.enc) yt (qf l) n;rw [ha] at this;exact this,?_⟩
         conv=>whnf
         refine⟨fun g6=>?_,fun g6=>?_⟩
         ·have g6:0<cntZ isNs l n:=by
           have h:((h0.ns:Nat):Int) > 0:=of_decide_eq_true g6
           omega
          have hf:jb l top name=((((yd l name).all:Nat):Int) == (((yd l name).addr:Nat):Int)):=by
           rw[<-g3,hc,if_pos ⟨g5,g6⟩,lw,beq_iff_eq,beq_iff_eq];show(cntZ anyR l name=cntZ jx l name)↔((cntZ anyR l name:Nat):Int)=((cntZ jx l name:Nat):Int);omega
          conv=>whnf
          rw[hf];refine⟨[0,1,2],_,lookK z S (qf l) st,rfl,rfl,?_,?_,rfl,rfl⟩
          ·exact rfl
          ·conv=>whnf
           repeat'(first|exact ⟨⟩|exact rfl|exact qa _|exact .inr rfl|exact fun _ _=>rfl|exact noI|apply And.intro)
           all_goals first
            |exact qo _
            |exact qn _
            |exact qt _ _ _
         ·have g6:¬ 0<cntZ isNs l n:=by
           have h:¬ ((h0.ns:Nat):Int) > 0:=of_decide_eq_false g6
           omega
          rw [if_neg (fun h=>g6 h.2)] at hc
          conv=>whnf
          refine od (vn n) rfl rfl ?_;by_cases hz:n=[0]
          ·have hp:ja n=([],3):=by unfold ja;rw[if_pos g1,if_pos hz]
           have hf:jb l top name=true:=by rw[<-g3,hc,if_pos hz];rfl
           rw[hp];conv=>whnf
           refine brT rfl ?_;conv=>whnf
           rw[hf];refine⟨[0,1,2],_,lookK z S (qf l) st,rfl,rfl,?_,?_,rfl,rfl⟩
           ·exact rfl
           ·conv=>whnf
            repeat'(first|exact ⟨⟩|exact rfl|exact qa _|exact .inr rfl|exact fun _ _=>rfl|exact noI|apply And.intro)
            all_goals first
             |exact qo _
             |exact qn _
             |exact qt _ _ _
          ·have hp:ja n=(upN n,0):=by unfold ja;rw[if_pos g1,if_neg hz]
           rw [if_neg hz] at hc;rw[hp];conv=>whnf
           refine brF rfl ?_;conv=>whnf
           refine⟨(upN n,k),[0,1,2,3,4,5,6,7,8,9],⟨wd g1 hz,?_,?_⟩,l8 k,?_⟩
           ·have:=we g1 hz
            show(upN n).length<=k
            unfold upN
            rw[ow];omega
           ·exact(by rw[<-g3,hc];rfl)
           ·conv=>whnf
            repeat'(first|exact ⟨⟩|exact rfl|exact qa _|exact .inr rfl|exact fun _ _=>rfl|exact noI|apply And.intro)
            all_goals first
             |exact qo _
             |exact qn _
             |exact qt _ _ _
       ·have g5:n=name:=by simpa using g5
        rw [if_neg (fun h=>h.1 g5)] at hc
        conv=>whnf
        refine od (vn n) rfl rfl ?_;by_cases hz:n=[0]
        ·have hp:ja n=([],3):=by unfold ja;rw[if_pos g1,if_pos hz]
         have hf:jb l top name=true:=by rw[<-g3,hc,if_pos hz];rfl
         rw[hp];conv=>whnf
         refine brT rfl ?_;conv=>whnf
         rw[hf];refine⟨[0,1,2],_,lookK z S (qf l) st,rfl,rfl,?_,?_,rfl,rfl⟩
         ·exact rfl
         ·conv=>whnf
          repeat'(first|exact ⟨⟩|exact rfl|exact qa _|exact .inr rfl|exact fun _ _=>rfl|exact noI|apply And.intro)
          all_goals first
           |exact qo _
           |exact qn _
           |exact qt _ _ _
        ·have hp:ja n=(upN n,0):=by unfold ja;rw[if_pos g1,if_neg hz]
         rw [if_neg hz] at hc;rw[hp];conv=>whnf
         refine brF rfl ?_;conv=>whnf
         refine⟨(upN n,k),[0,1,2,3,4,5,6,7,8,9],⟨wd g1 hz,?_,?_⟩,l8 k,?_⟩
         ·have:=we g1 hz
          show(upN n).length<=k
          unfold upN
          rw[ow];omega
         ·exact(by rw[<-g3,hc];rfl)
         ·conv=>whnf
          repeat'(first|exact ⟨⟩|exact rfl|exact qa _|exact .inr rfl|exact fun _ _=>rfl|exact noI|apply And.intro)
          all_goals first
           |exact qo _
           |exact qn _
           |exact qt _ _ _
    ·have h5:¬ 0<cntZ isNs l name:=by
      have h:¬ ((cntZ isNs l name:Nat):Int) > 0:=of_decide_eq_false h5
      omega
     have hf:jb l top name=zp l name top (upsN name):=by unfold jb;rw[if_neg hA,if_neg h3,if_neg (fun h=>h.elim h4 (fun h=>h5 h.1))]
     conv=>whnf
     refine od (zw name) rfl rfl ?_;rw[if_pos hn];conv=>whnf
     refine brF rfl ?_;conv=>whnf
     refine .inv (List UInt8 × Nat) (fun s=>qb s.1/\s.1.length<=s.2/\zp l name top (upsF s.2 s.1)=jb l top name) (fun s=>[(3,.d (.str s.1))]) (fun s=>[]) (fun s=>s.2) ⟨(name,name.length),[0,1,2,3,4,5,6,7,8,9],⟨hn,pq _,by rw[hf];unfold upsN;rw[if_pos hn]⟩,?_⟩ ?_
     ·conv=>whnf
      repeat'(first|exact ⟨⟩|exact rfl|exact qa _|exact .inr rfl|exact fun _ _=>rfl|exact noI|apply And.intro)
      all_goals first
       |exact qo _
       |exact qn _
       |exact qt _ _ _
     clear hf;intro s hs;obtain⟨g1,g2,g3⟩:=hs;conv=>whnf
     generalize s.1=n at g1 g2 g3 ⊢;generalize s.2=k at g2 g3 ⊢;obtain⟨k,rfl⟩:∃ k',k=k'+1:=⟨k - 1,by have:=g1.1;omega⟩
     have hc:zp l name top (upsF (k+1) n)=if n=top then true else if n≠name/\0<cntZ isNs l n then cntZ anyR l name == cntZ jx l name else zp l name top (if n=[0] then [] else upsF k (n.drop (1+bt n 0))):=rfl
     refine⟨fun g4=>?_,fun g4=>?_⟩
     ·have g4:n=top:=by simpa using g4
      have hf:jb l top name=true:=by rw[<-g3,hc,if_pos g4]
      conv=>whnf
      rw[hf];refine⟨[0,1,2],_,lookK z S (qf l) st,rfl,rfl,?_,?_,rfl,rfl⟩
      ·exact rfl
      ·conv=>whnf
       repeat'(first|exact ⟨⟩|exact rfl|exact qa _|exact .inr rfl|exact fun _ _=>rfl|exact noI|apply And.intro)
       all_goals first
        |exact qo _
        |exact qn _
        |exact qt _ _ _
     ·have g4:n≠top:=by simpa using g4
      rw [if_neg g4] at hc;conv=>whnf
      refine⟨fun g5=>?_,fun g5=>?_⟩
      ·have g5:n≠name:=by simpa using g5
       conv=>whnf
       have hg:=qj9 l n
       cases ha:aget (qf l) n with
       |none =>
        rw [ha] at hg;have hns:cntZ isNs l n=0:=(congrArg Hd.ns hg).symm;rw [if_neg (fun h=>by rw [hns] at h;exact absurd h.2 (bp 0))] at hc
        refine ⟨none,by have:=zv (ev:=Hd.enc) yt (qf l) n;rw [ha] at this;exact this,?_⟩
        conv=>whnf
        refine brF rfl ?_;conv=>whnf
        refine od (vn n) rfl rfl ?_;by_cases hz:n=[0]
        ·have hp:ja n=([],3):=by unfold ja;rw[if_pos g1,if_pos hz]
         have hf:jb l top name=true:=by rw[<-g3,hc,if_pos hz];rfl
         rw[hp];conv=>whnf
         refine brT rfl ?_;conv=>whnf
         rw[hf];refine⟨[0,1,2],_,lookK z S (qf l) st,rfl,rfl,?_,?_,rfl,rfl⟩
         ·exact rfl
         ·conv=>whnf
          repeat'(first|exact ⟨⟩|exact rfl|exact qa _|exact .inr rfl|exact fun _ _=>rfl|exact noI|apply And.intro)
          all_goals first
           |exact qo _
           |exact qn _
           |exact qt _ _ _
        ·have hp:ja n=(upN n,0):=by unfold ja;rw[if_pos g1,if_neg hz]
         rw [if_neg hz] at hc;rw[hp];conv=>whnf
         refine brF rfl ?_;conv=>whnf
         refine⟨(upN n,k),[0,1,2,3,4,5,6,7,8,9],⟨wd g1 hz,?_,?_⟩,l8 k,?_⟩
         ·have:=we g1 hz
          show(upN n).length<=k
          unfold upN
          rw[ow];omega
         ·exact(by rw[<-g3,hc];rfl)
         ·conv=>whnf
          repeat'(first|exact ⟨⟩|exact rfl|exact qa _|exact .inr rfl|exact fun _ _=>rfl|exact noI|apply And.intro)
          all_goals first
           |exact qo _
           |exact qn _
           |exact qt _ _ _
       |some h0 =>
        rw [ha] at hg;have hns:h0.ns=cntZ isNs l n:=congrArg Hd.ns hg
        refine ⟨some h0.enc,by have:=zv (ev:=Hd.enc) yt (qf l) n;rw [ha] at this;exact this,?_⟩
        conv=>whnf
        refine⟨fun g6=>?_,fun g6=>?_⟩
        ·have g6:0<cntZ isNs l n:=by
          have h:((h0.ns:Nat):Int) > 0:=of_decide_eq_true g6
          omega
         have hf:jb l top name=((((yd l name).all:Nat):Int) == (((yd l name).addr:Nat):Int)):=by
          rw[<-g3,hc,if_pos ⟨g5,g6⟩,lw,beq_iff_eq,beq_iff_eq];show(cntZ anyR l name=cntZ jx l name)↔((cntZ anyR l name:Nat):Int)=((cntZ jx l name:Nat):Int);omega
         conv=>whnf
         rw[hf];refine⟨[0,1,2],_,lookK z S (qf l) st,rfl,rfl,?_,?_,rfl,rfl⟩
         ·exact rfl
         ·conv=>whnf
          repeat'(first|exact ⟨⟩|exact rfl|exact qa _|exact .inr rfl|exact fun _ _=>rfl|exact noI|apply And.intro)
          all_goals first
           |exact qo _
           |exact qn _
           |exact qt _ _ _
        ·have g6:¬ 0<cntZ isNs l n:=by
          have h:¬ ((h0.ns:Nat):Int) > 0:=of_decide_eq_false g6
          omega
         rw [if_neg (fun h=>g6 h.2)] at hc
         conv=>whnf
         refine od (vn n) rfl rfl ?_;by_cases hz:n=[0]
         ·have hp:ja n=([],3):=by unfold ja;rw[if_pos g1,if_pos hz]
          have hf:jb l top name=true:=by rw[<-g3,hc,if_pos hz];rfl
          rw[hp];conv=>whnf
          refine brT rfl ?_;conv=>whnf
          rw[hf];refine⟨[0,1,2],_,lookK z S (qf l) st,rfl,rfl,?_,?_,rfl,rfl⟩
          ·exact rfl
          ·conv=>whnf
           repeat'(first|exact ⟨⟩|exact rfl|exact qa _|exact .inr rfl|exact fun _ _=>rfl|exact noI|apply And.intro)
           all_goals first
            |exact qo _
            |exact qn _
            |exact qt _ _ _
         ·have hp:ja n=(upN n,0):=by unfold ja;rw[if_pos g1,if_neg hz]
          rw [if_neg hz] at hc;rw[hp];conv=>whnf
          refine brF rfl ?_;conv=>whnf
          refine⟨(upN n,k),[0,1,2,3,4,5,6,7,8,9],⟨wd g1 hz,?_,?_⟩,l8 k,?_⟩
          ·have:=we g1 hz
           show(upN n).length<=k
           unfold upN
           rw[ow];omega
          ·exact(by rw[<-g3,hc];rfl)
          ·conv=>whnf
           repeat'(first|exact ⟨⟩|exact rfl|exact qa _|exact .inr rfl|exact fun _ _=>rfl|exact noI|apply And.intro)
           all_goals first
            |exact qo _
            |exact qn _
            |exact qt _ _ _
      ·have g5:n=name:=by simpa using g5
       rw [if_neg (fun h=>h.1 g5)] at hc
       conv=>whnf
       refine od (vn n) rfl rfl ?_;by_cases hz:n=[0]
       ·have hp:ja n=([],3):=by unfold ja;rw[if_pos g1,if_pos hz]
        have hf:jb l top name=true:=by rw[<-g3,hc,if_pos hz];rfl
        rw[hp];conv=>whnf
        refine brT rfl ?_;conv=>whnf
        rw[hf];refine⟨[0,1,2],_,lookK z S (qf l) st,rfl,rfl,?_,?_,rfl,rfl⟩
        ·exact rfl
        ·conv=>whnf
         repeat'(first|exact ⟨⟩|exact rfl|exact qa _|exact .inr rfl|exact fun _ _=>rfl|exact noI|apply And.intro)
         all_goals first
          |exact qo _
          |exact qn _
          |exact qt _ _ _
       ·have hp:ja n=(upN n,0):=by unfold ja;rw[if_pos g1,if_neg hz]
        rw [if_neg hz] at hc;rw[hp];conv=>whnf
        refine brF rfl ?_;conv=>whnf
        refine⟨(upN n,k),[0,1,2,3,4,5,6,7,8,9],⟨wd g1 hz,?_,?_⟩,l8 k,?_⟩
        ·have:=we g1 hz
         show(upN n).length<=k
         unfold upN
         rw[ow];omega
        ·exact(by rw[<-g3,hc];rfl)
        ·conv=>whnf
         repeat'(first|exact ⟨⟩|exact rfl|exact qa _|exact .inr rfl|exact fun _ _=>rfl|exact noI|apply And.intro)
         all_goals first
          |exact qo _
          |exact qn _
          |exact qt _ _ _
def ke(z:Zo)(l:List RR)(r:RR):Bool:=zr z.apex r && !l.any fun x=>keyZ x == keyZ r
theorem yp5:∀ {l:List (List DV × List SV)} {key:List DV} (z:List SV),zo l key=none->opnM l key z=(l++[(key,z)],z,l.length)
 |[],_,_,_=>rfl
 |(k,v) :: l,key,z,h=>by
  unfold zo at h
  split at h
  ·cases h
  ·rename_i hk
   unfold opnM
   rw[if_neg hk,yp5 z h];rfl
theorem ym0{key:List DV}{v:List SV}(hk:jm key key=true):∀ {l:List (List DV × List SV)},zo l key=none->zo (l++[(key,v)]) key=some v
 |[],_=>by
  show(if jm key key then some v else zo [] key)=some v
  rw[if_pos hk]
 |(k,u) :: l,h=>by
  unfold zo at h
  split at h
  ·cases h
  ·rename_i hn
   show(if jm key k then some u else zo (l++[(key,v)]) key)=some v
   rw[if_neg hn];exact ym0 hk h
theorem yy9{zero:List SV}{o:Option Hd}{F:SV->Prop}(hz:zero=Hd.no.enc)(hF:Eng.lookK false true zero (some (o.getD Hd.no).enc) F):Eng.lookK false true zero (o.map Hd.enc) F:=by
 cases o with
 |none=>subst hz;exact hF
 |some h=>exact hF
theorem yp1(k:List DV)(v v':List SV):∀ l:List (List DV × List SV),putQ (l++[(k,v)]) l.length v'=l++[(k,v')]
 |[]=>rfl
 |p :: l=>by
  show p :: putQ (l++[(k,v)]) l.length v'=_
  rw[yp1 k v v' l];rfl
theorem xh0(z:Zo)(l:List RR)(hl:l.length<=300)(r:RR)(hr:r.nm.length<=100000) :
 COk Tryz.prog 107 [.ptr 0 0,.agg (r.enc.map .d)] (lookK z (j4 l) (qf l) .free) (fun s k=>s = .d (.bool (ke z l r))/\k=if ke z l r then lookK z (j4 (l++[r])) (qf (l++[r])) .free else lookK z (j4 l) (qf l) .free):=by
 refine j7 (TT:=TT) (IN:=qh []) qk qj mixed 1000 Tryz.func107 rfl (qi Tryz.func107 (by kernel_rfl) rfl) 106 (by kernel_rfl) ?_
 conv=>whnf
 refine⟨fun h1=>?_,fun h1=>?_⟩
 ·have hb:ke z l r=false:=by unfold ke zr;rw[show(r.cl == 1)=false by simpa using h1];rfl
  conv=>whnf
  rw[hb];refine⟨[0,1,2],_,lookK z (j4 l) (qf l) .free,rfl,rfl,?_,?_,rfl,rfl⟩
  ·exact rfl
  ·conv=>whnf
   repeat'(first|exact ⟨⟩|exact rfl|exact qa _|exact .inr rfl|exact fun _ _=>rfl|exact noI|apply And.intro)
   all_goals first
    |exact qo _
    |exact qn _
    |exact qt _ _ _
 have h1:(r.cl == 1)=true:=by simpa using h1
 conv=>whnf
 refine⟨fun h2=>?_,fun h2=>?_⟩
 ·have hb:ke z l r=false:=by unfold ke zr;rw[h1,show(r.ty != 41)=false by simpa using h2];rfl
  conv=>whnf
  rw[hb];refine⟨[0,1,2],_,lookK z (j4 l) (qf l) .free,rfl,rfl,?_,?_,rfl,rfl⟩
  ·exact rfl
  ·conv=>whnf
   repeat'(first|exact ⟨⟩|exact rfl|exact qa _|exact .inr rfl|exact fun _ _=>rfl|exact noI|apply And.intro)
   all_goals first
    |exact qo _
    |exact qn _
    |exact qt _ _ _
 have h2:(r.ty != 41)=true:=by simpa using h2
 conv=>whnf
 refine⟨fun h3=>?_,fun h3=>?_⟩
 ·have hb:ke z l r=false:=by unfold ke zr;rw[h1,h2,show(r.ttl != 0)=false by simpa using h3];rfl
  conv=>whnf
  rw[hb];refine⟨[0,1,2],_,lookK z (j4 l) (qf l) .free,rfl,rfl,?_,?_,rfl,rfl⟩
  ·exact rfl
  ·conv=>whnf
   repeat'(first|exact ⟨⟩|exact rfl|exact qa _|exact .inr rfl|exact fun _ _=>rfl|exact noI|apply And.intro)
   all_goals first
    |exact qo _
    |exact qn _
    |exact qt _ _ _
 have h3:(r.ttl != 0)=true:=by simpa using h3
 conv=>whnf
 refine .data _ (qy8 r) rfl rfl ?_;cases h4:r.check with
 |false =>
  have hb:ke z l r=false:=by unfold ke zr;rw[h1,h2,h3,h4];rfl
  conv=>whnf
  refine brT rfl ?_;conv=>whnf
  rw[hb];refine⟨[0,1,2],_,lookK z (j4 l) (qf l) .free,rfl,rfl,?_,?_,rfl,rfl⟩
  ·exact rfl
  ·conv=>whnf
   repeat'(first|exact ⟨⟩|exact rfl|exact qa _|exact .inr rfl|exact fun _ _=>rfl|exact noI|apply And.intro)
   all_goals first
    |exact qo _
    |exact qn _
    |exact qt _ _ _
 |true =>
  conv=>whnf
  refine brF rfl ?_;conv=>whnf
  refine .data _ (qa1 _ _) rfl rfl ?_;cases h5:qd r.nm z.apex with
  |false =>
   have hb:ke z l r=false:=by unfold ke zr;rw[h1,h2,h3,h4,h5];rfl
   conv=>whnf
   refine brT rfl ?_;conv=>whnf
   rw[hb];refine⟨[0,1,2],_,lookK z (j4 l) (qf l) .free,rfl,rfl,?_,?_,rfl,rfl⟩
   ·exact rfl
   ·conv=>whnf
    repeat'(first|exact ⟨⟩|exact rfl|exact qa _|exact .inr rfl|exact fun _ _=>rfl|exact noI|apply And.intro)
    all_goals first
     |exact qo _
     |exact qn _
     |exact qt _ _ _
  |true =>
   have hb:ke z l r = !l.any fun x=>keyZ x == keyZ r:=by unfold ke zr;rw[h1,h2,h3,h4,h5];rfl
   conv=>whnf
   refine brF rfl ?_;conv=>whnf
   refine od (zx r.nm (by omega)) rfl rfl ?_
   conv=>whnf
   refine .data _ (qt8 r.ty r.d) rfl rfl ?_;conv=>whnf
   have hfs:zo (aenc xk intV (j4 l)) [.str (fold r.nm),.int .u16 r.ty,.int .u16 r.cl,.str (qx r.ty r.d)]=(aget (j4 l) (keyZ r)).map intV:=zv yo4 (j4 l) (keyZ r)
   rw [xa1] at hfs;cases h6:l.any fun x=>keyZ x == keyZ r with
   |true =>
    rw [h6] at hfs hb;refine⟨_,hfs,?_⟩;conv=>whnf
    refine brT rfl ?_;conv=>whnf
    rw[hb];refine⟨[0,1,2],_,lookK z (j4 l) (qf l) .free,rfl,rfl,?_,?_,rfl,rfl⟩
    ·exact rfl
    ·conv=>whnf
     repeat'(first|exact ⟨⟩|exact rfl|exact qa _|exact .inr rfl|exact fun _ _=>rfl|exact noI|apply And.intro)
     all_goals first
      |exact qo _
      |exact qn _
      |exact qt _ _ _
   |false =>
    rw [h6] at hfs hb;refine⟨_,hfs,?_⟩;conv=>whnf
    refine brF rfl ?_;conv=>whnf
    have hop:=yp5 [SV.d (.int .i64 0)] hfs
    have hfs2:zo (aenc xk intV (j4 l)++[(xk (keyZ r),[SV.d (.int .i64 0)])]) [.str (fold r.nm),.int .u16 r.ty,.int .u16 r.cl,.str (qx r.ty r.d)]=some [SV.d (.int .i64 0)]:=ym0 ((yo4 (keyZ r) (keyZ r)).trans (decide_eq_true rfl)) hfs
    have hss:putQ (aenc xk intV (j4 l)++[(xk (keyZ r),[SV.d (.int .i64 0)])]) (aenc xk intV (j4 l)).length [SV.d (.int .i64 1)]=aenc xk intV (j4 (l++[r])):=by
     rw[yp1,zr8];unfold aenc
     rw[fx];rfl
    apply Exists.intro;refine⟨?_,?_⟩
    ·conv=>whnf
     repeat'(first|exact ⟨⟩|exact⟨rfl,rfl⟩|refine⟨_,hfs,?_⟩|refine⟨_,hfs2,?_⟩|refine⟨_,_,_,hop,?_⟩|intro s|refine⟨rfl,_,hss,?_⟩|apply And.intro|(conv=>whnf))
    conv=>whnf
    rw[hb];have hfn:zo (aenc strK Hd.enc (qf l)) [.str (fold r.nm)]=(aget (qf l) (fold r.nm)).map Hd.enc:=zv yt (qf l) (fold r.nm);have hg:=qj9 l (fold r.nm);have b1:=qb1 anyR l (fold r.nm);have b2:=qb1 zn l (fold r.nm);have b3:=qb1 isNs l (fold r.nm);have b4:=qb1 w5 l (fold r.nm);have b5:=qb1 jx l (fold r.nm);have hh:(aget (qf l) (fold r.nm)).getD Hd.no=yd l (fold r.nm):=hg;refine⟨_,hfn,?_⟩;refine yy9 rfl ?_;rw[hh];have hg:yd l (fold r.nm)=yd l (fold r.nm):=rfl;generalize hgen:yd l (fold r.nm)=h at hh ⊢;clear hg;have hg:h=yd l (fold r.nm):=hgen.symm;have c1:h.all<=300:=by rw[hg];exact o7 b1 hl
    have c2:h.soa<=300:=by rw[hg];exact o7 b2 hl
    have c3:h.ns<=300:=by rw[hg];exact o7 b3 hl
    have c4:h.alias<=300:=by rw[hg];exact o7 b4 hl
    have c5:h.addr<=300:=by rw[hg];exact o7 b5 hl
    have e0:IntKind.i64.wrap ((h.all:Int)+1)=((h.all+1:Nat):Int):=by rw[qe _ (by omega)];omega
    have e1:IntKind.i64.wrap ((h.soa:Int)+1)=((h.soa+1:Nat):Int):=by rw[qe _ (by omega)];omega
    have e2:IntKind.i64.wrap ((h.ns:Int)+1)=((h.ns+1:Nat):Int):=by rw[qe _ (by omega)];omega
    have e3:IntKind.i64.wrap ((h.alias:Int)+1)=((h.alias+1:Nat):Int):=by rw[qe _ (by omega)];omega
    have e4:IntKind.i64.wrap ((h.addr:Int)+1)=((h.addr+1:Nat):Int):=by rw[qe _ (by omega)];omega
    conv=>whnf
    rw[e0];refine⟨fun k1=>?_,fun k1=>?_⟩
    ·have k1:r.ty=6:=by simpa using k1
     have hadd:h.add r=⟨h.all+1,h.soa+1,h.ns,h.alias,h.addr⟩:=by unfold Hd.add;rw[k1];rfl
     conv=>whnf
     rw[e1];have hput:putM (aenc strK Hd.enc (qf l)) [.str (fold r.nm)] (h.add r).enc=aenc strK Hd.enc (qf (l++[r])):=by
      have:=qa5 (ev:=Hd.enc) yt (qf l) (fold r.nm) (h.add r)
      rw[u9,hh];exact this
     rw [hadd] at hput;refine⟨_,hput,?_⟩;conv=>whnf
     refine⟨[0,1,2],_,lookK z (j4 (l++[r])) (qf (l++[r])) .free,rfl,rfl,?_,?_,rfl,rfl⟩
     ·exact rfl
     ·conv=>whnf
      repeat'(first|exact ⟨⟩|exact rfl|exact qa _|exact .inr rfl|exact fun _ _=>rfl|exact noI|apply And.intro)
      all_goals first
       |exact qo _
       |exact qn _
       |exact qt _ _ _
    have k1:r.ty≠6:=by simpa using k1
    conv=>whnf
    refine⟨fun k2=>?_,fun k2=>?_⟩
    ·have k2:r.ty=2:=by simpa using k2
     have hadd:h.add r=⟨h.all+1,h.soa,h.ns+1,h.alias,h.addr⟩:=by unfold Hd.add;rw[k2];rfl
     conv=>whnf
     rw[e2];have hput:putM (aenc strK Hd.enc (qf l)) [.str (fold r.nm)] (h.add r).enc=aenc strK Hd.enc (qf (l++[r])):=by
      have:=qa5 (ev:=Hd.enc) yt (qf l) (fold r.nm) (h.add r)
      rw[u9,hh];exact this
     rw [hadd] at hput;refine⟨_,hput,?_⟩;conv=>whnf
     refine⟨[0,1,2],_,lookK z (j4 (l++[r])) (qf (l++[r])) .free,rfl,rfl,?_,?_,rfl,rfl⟩
     ·exact rfl
     ·conv=>whnf
      repeat'(first|exact ⟨⟩|exact rfl|exact qa _|exact .inr rfl|exact fun _ _=>rfl|exact noI|apply And.intro)
      all_goals first
       |exact qo _
       |exact qn _
       |exact qt _ _ _
    have k2:r.ty≠2:=by simpa using k2
    conv=>whnf
    refine⟨fun k3=>?_,fun k3=>?_⟩
    ·have k3:r.ty=5:=by simpa using k3
     have hadd:h.add r=⟨h.all+1,h.soa,h.ns,h.alias+1,h.addr⟩:=by unfold Hd.add;rw[k3];rfl
     conv=>whnf
     rw[e3];have hput:putM (aenc strK Hd.enc (qf l)) [.str (fold r.nm)] (h.add r).enc=aenc strK Hd.enc (qf (l++[r])):=by
      have:=qa5 (ev:=Hd.enc) yt (qf l) (fold r.nm) (h.add r)
      rw[u9,hh];exact this
     rw [hadd] at hput;refine⟨_,hput,?_⟩;conv=>whnf
     refine⟨[0,1,2],_,lookK z (j4 (l++[r])) (qf (l++[r])) .free,rfl,rfl,?_,?_,rfl,rfl⟩
     ·exact rfl
     ·conv=>whnf
      repeat'(first|exact ⟨⟩|exact rfl|exact qa _|exact .inr rfl|exact fun _ _=>rfl|exact noI|apply And.intro)
      all_goals first
       |exact qo _
       |exact qn _
       |exact qt _ _ _
    have k3:r.ty≠5:=by simpa using k3
    conv=>whnf
    refine⟨fun k4=>?_,fun k4=>?_⟩
    ·have k4':=k4
     have k4:r.ty=1:=by simpa using k4
     have hadd:h.add r=⟨h.all+1,h.soa,h.ns,h.alias,h.addr+1⟩:=by unfold Hd.add;rw[k4];rfl
     conv=>whnf
     refine brT k4' ?_;conv=>whnf
     rw[e4];have hput:putM (aenc strK Hd.enc (qf l)) [.str (fold r.nm)] (h.add r).enc=aenc strK Hd.enc (qf (l++[r])):=by
      have:=qa5 (ev:=Hd.enc) yt (qf l) (fold r.nm) (h.add r)
      rw[u9,hh];exact this
     rw [hadd] at hput;refine⟨_,hput,?_⟩;conv=>whnf
     refine⟨[0,1,2],_,lookK z (j4 (l++[r])) (qf (l++[r])) .free,rfl,rfl,?_,?_,rfl,rfl⟩
     ·exact rfl
     ·conv=>whnf
      repeat'(first|exact ⟨⟩|exact rfl|exact qa _|exact .inr rfl|exact fun _ _=>rfl|exact noI|apply And.intro)
      all_goals first
       |exact qo _
       |exact qn _
       |exact qt _ _ _
    have k4:r.ty≠1:=by simpa using k4
    conv=>whnf
    refine⟨fun k5=>?_,fun k5=>?_⟩
    ·have k5:r.ty=28:=by simpa using k5
     have hadd:h.add r=⟨h.all+1,h.soa,h.ns,h.alias,h.addr+1⟩:=by unfold Hd.add;rw[k5];rfl
     conv=>whnf
     rw[e4];have hput:putM (aenc strK Hd.enc (qf l)) [.str (fold r.nm)] (h.add r).enc=aenc strK Hd.enc (qf (l++[r])):=by
      have:=qa5 (ev:=Hd.enc) yt (qf l) (fold r.nm) (h.add r)
      rw[u9,hh];exact this
     rw [hadd] at hput;refine⟨_,hput,?_⟩;conv=>whnf
     refine⟨[0,1,2],_,lookK z (j4 (l++[r])) (qf (l++[r])) .free,rfl,rfl,?_,?_,rfl,rfl⟩
     ·exact rfl
     ·conv=>whnf
      repeat'(first|exact ⟨⟩|exact rfl|exact qa _|exact .inr rfl|exact fun _ _=>rfl|exact noI|apply And.intro)
      all_goals first
       |exact qo _
       |exact qn _
       |exact qt _ _ _
    have k5:r.ty≠28:=by simpa using k5
    have hadd:h.add r=⟨h.all+1,h.soa,h.ns,h.alias,h.addr⟩:=by unfold Hd.add;rw[if_neg k1,if_neg k2,if_neg k3,if_neg (fun h=>h.elim k4 k5)]
    conv=>whnf
    have hput:putM (aenc strK Hd.enc (qf l)) [.str (fold r.nm)] (h.add r).enc=aenc strK Hd.enc (qf (l++[r])):=by
     have:=qa5 (ev:=Hd.enc) yt (qf l) (fold r.nm) (h.add r)
     rw[u9,hh];exact this
    rw [hadd] at hput;refine⟨_,hput,?_⟩;conv=>whnf
    refine⟨[0,1,2],_,lookK z (j4 (l++[r])) (qf (l++[r])) .free,rfl,rfl,?_,?_,rfl,rfl⟩
    ·exact rfl
    ·conv=>whnf
     repeat'(first|exact ⟨⟩|exact rfl|exact qa _|exact .inr rfl|exact fun _ _=>rfl|exact noI|apply And.intro)
     all_goals first
      |exact qo _
      |exact qn _
      |exact qt _ _ _
theorem zr1{z:Zo}(h1:cntZ zn z.rrs (fold z.apex)=1)(h2:cntZ isNs z.rrs (fold z.apex)≠0):xu z=(qf z.rrs).all fun e=>jb z.rrs (fold z.apex) e.1:=by
 unfold xu
 rw[h1,zu2 z.rrs (fun n=>jb z.rrs (fold z.apex) n)]
 have:(cntZ isNs z.rrs (fold z.apex) != 0)=true:=by simpa using h2
 rw[this];rfl
instance:Inhabited Hd:=⟨Hd.no⟩
theorem yk6(z:Zo)(S:List ((List UInt8 × Int × Int × List UInt8) × Nat))(N:List (List UInt8 × Hd))(st:MS){σ:Nat->Nat}(h1:σ 1=1)(h2:σ 2=2):mapB σ (lookK z S N st)=lookK z S N st:=by
 show[KB.cells _ [_,_,SV.map (σ 1),SV.map (σ 2)],KB.mapx _ _ _ (mapM _ (aenc xk intV S)) _,KB.mapx _ _ _ (mapM _ (aenc strK Hd.enc N)) _]=_
 rw[h1,h2,jp0,jp5];rfl
theorem zz4(z:Zo)(S:List ((List UInt8 × Int × Int × List UInt8) × Nat))(hl:z.rrs.length<=300)(hn:∀ r ∈ z.rrs,qb r.nm)(ha:z.apex.length<=100000) :
 COk Tryz.prog 108 [.ptr 0 0] (lookK z S (qf z.rrs) .free) (fun s k=>s = .d (.bool (xu z))/\k=lookK z S (qf z.rrs) .free):=by
 refine j7 (TT:=TT) (IN:=qh []) qk qj mixed 1000 Tryz.func108 rfl (qi Tryz.func108 (by kernel_rfl) rfl) 42 (by kernel_rfl) ?_
 conv=>whnf
 refine od (zx z.apex (by omega)) rfl rfl ?_
 conv=>whnf
 have hfn:zo (aenc strK Hd.enc (qf z.rrs)) [.str (fold z.apex)]=(aget (qf z.rrs) (fold z.apex)).map Hd.enc:=zv yt (qf z.rrs) (fold z.apex)
 have hg:=qj9 z.rrs (fold z.apex)
 refine⟨_,hfn,?_⟩;refine yy9 rfl ?_;rw[hg];conv=>whnf
 refine⟨fun h1=>?_,fun h1=>?_⟩
 ·have hb:xu z=false:=by
   have h1:((cntZ zn z.rrs (fold z.apex):Nat):Int)≠1:=(show(((yd z.rrs (fold z.apex)).soa:Nat):Int)≠1 by simpa using h1)
   unfold xu
   rw[show(cntZ zn z.rrs (fold z.apex) == 1)=false by rw[beq_eq_false_iff_ne];omega]
   rfl
  conv=>whnf
  rw[hb];refine⟨[0,1,2],_,lookK z S (qf z.rrs) .free,rfl,rfl,?_,?_,rfl,rfl⟩
  ·exact rfl
  ·conv=>whnf
   repeat'(first|exact ⟨⟩|exact rfl|exact qa _|exact .inr rfl|exact fun _ _=>rfl|exact noI|apply And.intro)
   all_goals first
    |exact qo _
    |exact qn _
    |exact qt _ _ _
 have h1:cntZ zn z.rrs (fold z.apex)=1:=by
  have h2:(((yd z.rrs (fold z.apex)).soa:Nat):Int)=1:=by simpa using h1
  have h3:((cntZ zn z.rrs (fold z.apex):Nat):Int)=1:=h2
  omega
 conv=>whnf
 refine⟨fun h2=>?_,fun h2=>?_⟩
 ·have hb:xu z=false:=by
   have h2:(((yd z.rrs (fold z.apex)).ns:Nat):Int)=0:=by simpa using h2
   have h3:((cntZ isNs z.rrs (fold z.apex):Nat):Int)=0:=h2
   unfold xu
   rw[show(cntZ isNs z.rrs (fold z.apex) != 0)=false by rw[bne_eq_false_iff_eq];omega]
   rw[lz,lr]
  conv=>whnf
  rw[hb];refine⟨[0,1,2],_,lookK z S (qf z.rrs) .free,rfl,rfl,?_,?_,rfl,rfl⟩
  ·exact rfl
  ·conv=>whnf
   repeat'(first|exact ⟨⟩|exact rfl|exact qa _|exact .inr rfl|exact fun _ _=>rfl|exact noI|apply And.intro)
   all_goals first
    |exact qo _
    |exact qn _
    |exact qt _ _ _
 have h2:cntZ isNs z.rrs (fold z.apex)≠0:=by
  have h2:¬ (((yd z.rrs (fold z.apex)).ns:Nat):Int)=0:=by simpa using h2
  have h3:¬ ((cntZ isNs z.rrs (fold z.apex):Nat):Int)=0:=h2
  omega
 have hlaw:=zr1 h1 h2
 conv=>whnf
 intro bs c rem hbl hrem;conv=>whnf
 refine .inv (List Nat × Nat) (fun s=>s.1.Nodup/\(∀ q ∈ s.1,q<(qf z.rrs).length)/\∀ q,q<(qf z.rrs).length->q ∉ s.1->jb z.rrs (fold z.apex) ((qf z.rrs).getD q default).1=true) (fun s=>[]) (fun s=>[(4,.iter 2 bs c s.1 s.2)]) (fun s=>s.1.length) ⟨(rem,bs.length),[0,1,2,3,4],?_,?_⟩ ?_
 ·have hL:(aenc strK Hd.enc (qf z.rrs)).length=(qf z.rrs).length:=o4 ..
  refine⟨?_,fun q hq=>?_,fun q hq hn=>?_⟩
  ·rw[<-hrem];exact List.nodup_range
  ·rw [<-hrem,hL] at hq;exact lu.1 hq
  ·exact absurd (by rw[<-hrem,hL];exact lu.2 hq) hn
 ·conv=>whnf
  repeat'(first|exact ⟨⟩|exact rfl|exact qa _|exact .inr rfl|exact fun _ _=>rfl|exact noI|apply And.intro)
  all_goals first
   |exact qo _
   |exact qn _
   |exact qt _ _ _
 intro s hs;conv=>whnf
 obtain⟨s1,s2,s3⟩:=hs;generalize s.1=R at s1 s2 s3 ⊢;generalize s.2=lst;refine⟨⟨rfl,rfl⟩,fun q hq=>?_,fun h0=>?_⟩
 ·have hql:=s2 q hq
  have hqe:(qf z.rrs)[q]? = some (qf z.rrs)[q]:=pn hql
  have hgd:(qf z.rrs).getD q default=(qf z.rrs)[q]:=by rw[o8,hqe];rfl
  have hmem:=d5 hql
  generalize (qf z.rrs)[q]=e at hqe hgd hmem;have hae:(aenc strK Hd.enc (qf z.rrs))[q]? = some (strK e.1,e.2.enc):=by unfold aenc;rw[o9,hqe];rfl
  have he2:=zn2 hmem
  obtain⟨r,hr,hre⟩:=yk1 hmem;have hen:qb e.1:=by rw[<-hre];exact qj2 (hn r hr)
  refine⟨_,_,hae,?_⟩;conv=>whnf
  intro R' hR';conv=>whnf
  refine⟨⟨rfl,rfl⟩,_,_,hae,?_⟩;conv=>whnf
  rw[he2];refine .rel _ (COk.frameX (xj8 z S z.rrs hl (.born bs c) e.1 (fold z.apex) hen) [0,1,2] rfl rfl (yk6 z S (qf z.rrs) (.born bs c) rfl rfl).symm) (fun x ks' hR=>?_)
  obtain⟨s0,k0,⟨rfl,rfl⟩,rfl,rfl⟩:=hR;rw[yk6 z S (qf z.rrs) (.born bs c) rfl rfl];cases hfit:jb z.rrs (fold z.apex) e.1 with
  |false =>
   have hb:xu z=false:=by
    rw[hlaw,aw];exact⟨e,hmem,by rw[hfit];decide⟩
   conv=>whnf
   refine brT rfl ?_;conv=>whnf
   rw[hb];refine⟨[0,1,2],_,lookK z S (qf z.rrs) .free,rfl,rfl,?_,?_,rfl,rfl⟩
   ·exact rfl
   ·conv=>whnf
    repeat'(first|exact ⟨⟩|exact rfl|exact qa _|exact .inr rfl|exact fun _ _=>rfl|exact noI|apply And.intro)
    all_goals first
     |exact qo _
     |exact qn _
     |exact qt _ _ _
  |true =>
   conv=>whnf
   refine brF rfl ?_;conv=>whnf
   refine⟨(R',q),[0,1,2,3,4],⟨?_,?_,?_⟩,?_,?_⟩
   ·rw[<-hR'];exact s1.erase q
   ·intro q' hq';rw [<-hR'] at hq';exact s2 q' (List.mem_of_mem_erase hq')
   ·intro q' hq' hn';by_cases hqq:q'=q
    ·subst hqq;rw[hgd];exact hfit
    ·exact s3 q' hq' (fun hm=>hn' (by rw[<-hR'];exact(List.mem_erase_of_ne hqq).2 hm))
   ·rw[<-hR'];show(R.erase q).length<R.length;rw[List.length_erase_of_mem hq];have:=List.length_pos_of_mem hq;omega
   ·conv=>whnf
    repeat'(first|exact ⟨⟩|exact rfl|exact qa _|exact .inr rfl|exact fun _ _=>rfl|exact noI|apply And.intro)
    all_goals first
     |exact qo _
     |exact qn _
     |exact qt _ _ _
 ·have hb:xu z=true:=by
   rw[hlaw,gn];intro e he;obtain⟨q,hq,rfl⟩:=ou.1 he;have:=s3 q hq (by rw[h0];simp)
   rw [o8,pn hq] at this;exact this
  conv=>whnf
  rw[hb];refine⟨[0,1,2],_,lookK z S (qf z.rrs) .free,rfl,rfl,?_,?_,rfl,rfl⟩
  ·exact rfl
  ·conv=>whnf
   repeat'(first|exact ⟨⟩|exact rfl|exact qa _|exact .inr rfl|exact fun _ _=>rfl|exact noI|apply And.intro)
   all_goals first
    |exact qo _
    |exact qn _
    |exact qt _ _ _
theorem DenTo.tup[Dr]{l m:List SV}(h:DenToL l m):DenTo (.tup l) (.tup m):=fun w M β v hd=>by
 cases hd with
 |tup _ vs h1 h2 =>
  refine .tup _ vs (by rw[<-h.len];exact h1) (fun j t u ht hu=>?_)
  have hj:j<l.length:=by rw[h.len];exact(po.1 ht).1
  exact h.at j _ t (pn hj) ht _ _ _ _ (h2 j _ u (pn hj) hu)
theorem COk.resD[Dr]{P:Program}{f:FuncId}{args:List SV}{ks:List KB}{R R':SV->List KB->Prop}(h:COk P f args ks R)(hR:∀ s k,R s k->∃ s',DenTo s s'/\R' s' k):COk P f args ks R' :=
 ⟨h.1,fun X w β fp vs hM hl hd=>(h.2 X w β fp vs hM hl hd).mono (fun e w' h=>by
  obtain⟨r,s,ks',β',fp',h1,h2,h3,h4⟩:=h;obtain⟨s',hs,hR'⟩:=hR s ks' h2;exact⟨r,s',ks',β',fp',h1,hR',h3,hs _ _ _ _ h4⟩)⟩
structure Fo where
 zz:Bool
 zones:List Zo
 hz:Bool
 hosts:List (Int × Bool × List Int)
def ya(zs:List Zo)(n:List UInt8):Option Nat:=zs.findIdx? fun z=>fold z.apex == n
def vz(name:List UInt8):List (List UInt8)->Option (List UInt8)
 |[]=>none
 |c :: l=>if qd name c then (match vz name l with
  |none=>some (fold c)
  |some b=>if qg c<=qg b then some (fold c) else some b) else vz name l
def Zo.cut(z:Zo)(name:List UInt8):Option (List UInt8):=vz name z.cutL
theorem zd{n c:List UInt8}(h:qd n c=true):qb n/\qb c:=by
 unfold qd at h
 simp only [px,decide_eq_true_eq] at h
 exact⟨h.1,h.2.1⟩
theorem wr{c:List UInt8}(hc:qb c):qg (fold c)=qg c:=by
 unfold qg
 rw[if_pos hc,if_pos (qj2 hc),qt4 hc];unfold fl;rw[o4]
theorem qs4{name:List UInt8}:∀ {l:List (List UInt8)} {b:List UInt8},vz name l=some b->(∃ c ∈ l,fold c=b/\qd name c=true)/\∀ c ∈ l,qd name c=true->qg b<=qg c
 |[],b,h=>by cases h
 |c :: l,b,h=>by
  unfold vz at h
  split at h
  ·rename_i hw
   cases hl:vz name l with
   |none =>
    rw [hl] at h;simp only [mp] at h
    subst h;have hno:∀ x ∈ l,qd name x=false:=fun x hx=>by
     cases hxw:qd name x
     ·rfl
     ·exfalso
      have:∀ m:List (List UInt8),vz name m=none->∀ x ∈ m,qd name x=false:=by
       intro m;induction m with
       |nil=>intro _ x hx;cases hx
       |cons y m ih =>
        intro hm x hx;unfold vz at hm
        split at hm
        ·split at hm
         ·cases hm
         ·split at hm <;> cases hm
        ·rename_i hy
         rcases pr.1 hx with rfl|hx
         ·simpa using hy
         ·exact ih hm x hx
      rw [this l hl x hx] at hxw;cases hxw
    refine⟨⟨c,mq ..,rfl,hw⟩,fun x hx hxw=>?_⟩
    rcases pr.1 hx with rfl|hx
    ·rw[wr (zd hw).2];exact pq _
    ·rw [hno x hx] at hxw;cases hxw
   |some b' =>
    rw [hl] at h;obtain⟨⟨c',hc',e',w'⟩,hmin⟩:=qs4 hl;simp only at h
    split at h
    ·rename_i hle
     simp only [mp] at h
     subst h;refine⟨⟨c,mq ..,rfl,hw⟩,fun x hx hxw=>?_⟩
     rw[wr (zd hw).2];rcases pr.1 hx with rfl|hx
     ·exact pq _
     ·exact o7 hle (hmin x hx hxw)
    ·rename_i hle
     simp only [mp] at h
     subst h;refine⟨⟨c',mw _ hc',e',w'⟩,fun x hx hxw=>?_⟩
     rcases pr.1 hx with rfl|hx
     ·omega
     ·exact hmin x hx hxw
  ·rename_i hw
   obtain⟨⟨c',hc',e',w'⟩,hmin⟩:=qs4 h;refine⟨⟨c',mw _ hc',e',w'⟩,fun x hx hxw=>?_⟩
   rcases pr.1 hx with rfl|hx
   ·exact absurd hxw hw
   ·exact hmin x hx hxw
def yn(zs:List Zo)(name:List UInt8):Nat->Nat->Option Nat
 |0,_=>none
 |k+1,at_=>match zs[at_]? with
  |none=>none
  |some z=>match z.cut name with
   |none=>some at_
   |some c=>match ya zs c with
    |none=>none
    |some next=>yn zs name k next
theorem yf3{a b:List UInt8}(ha:qb a)(hb:qb b)(h:fold a=fold b):fl a=fl b:=by
 rw[<-qt4 ha,<-qt4 hb,h]
theorem qb9{n a b:List UInt8}(ha:qb a)(h:fold a=fold b)(hw:qd n b=true):qd n a=true:=by
 have hb:=(zd hw).2
 unfold qd at hw ⊢
 rw[yf3 ha hb h,decide_eq_true ha];rwa [decide_eq_true hb] at hw
theorem qm9{n z:List UInt8}(h:qd n z=true):qg z<=qg n:=by
 obtain⟨hn,hz⟩:=zd h;unfold qd at h
 simp only [px,sr] at h
 have hl:=h.2.2.length_le
 unfold fl at hl
 rw [o4,o4] at hl;unfold qg
 rw[if_pos hn,if_pos hz];exact hl
theorem qm8{n z:List UInt8}(h:qd n z=true)(hs:jq n z=false):qg z<qg n:=by
 obtain⟨hn,hz⟩:=zd h;have hle:=qm9 h
 apply Classical.byContradiction;intro hc;unfold qd at h
 simp only [px,sr] at h
 have hlen:(fl z).length=(fl n).length:=by
  unfold qg at hle hc
  rw [if_pos hn,if_pos hz] at hle hc;unfold fl
  rw[o4,o4];omega
 have e:=h.2.2.eq_of_length hlen
 have:jq n z=true:=by
  unfold jq
  rw[decide_eq_true hn,decide_eq_true hz,m6,m6,beq_iff_eq,vx hn,vx hz,e]
 rw [this] at hs;cases hs
theorem Zo.ok_name{z:Zo}(h:z.ok=true):qb z.apex:=by
 unfold Zo.ok at h
 simp only [px,decide_eq_true_eq] at h
 exact h.1
theorem Zo.ok_take{z:Zo}(h:z.ok=true){r:RR}(hr:r ∈ z.rrs):zr z.apex r=true:=by
 unfold Zo.ok at h
 simp only [px,gn] at h
 exact h.2.2.1 r hr
theorem Zo.cut_spec{z:Zo}(hz:z.ok=true){name b:List UInt8}(h:z.cut name=some b):∃ c,fold c=b/\qd name c=true/\qd c z.apex=true/\jq c z.apex=false:=by
 obtain⟨⟨c,hc,e,hw⟩,_⟩:=qs4 h;unfold Zo.cutL at hc
 obtain⟨r,hr,rfl⟩:=o5.1 hc;obtain⟨hr,hp⟩:=l9.1 hr;have ht:=z.ok_take hz hr
 unfold zr at ht
 simp only [px] at ht hp
 exact⟨r.nm,e,hw,ht.2.2.2.2,by simpa using hp.2⟩
theorem qf3{zs:List Zo}{b:List UInt8}{i:Nat}(h:ya zs b=some i):∃ z,zs[i]? = some z/\fold z.apex=b:=by
 unfold ya at h
 obtain⟨hi,h1,_⟩:=List.findIdx?_eq_some_iff_getElem.1 h;exact⟨zs[i],pn hi,by simpa using h1⟩
theorem jn9{zs:List Zo}(hz:∀ z ∈ zs,z.ok=true){name:List UInt8}:∀ (k at_:Nat) (z:Zo),zs[at_]? = some z->qd name z.apex=true->qg name<k+qg z.apex ->
 yn zs name (k+1) at_=yn zs name k at_/\∀ at',yn zs name k at_=some at'->∃ z',zs[at']? = some z'/\qd name z'.apex=true/\z'.cut name=none
 |0,at_,z,h,hw,hc=>by
  have:=qm9 hw
  omega
 |k+1,at_,z,h,hw,hc=>by
  have hzm:=hz z (py h)
  have e1:∀ j,yn zs name (j+1) at_=match z.cut name with
   |none=>some at_
   |some c=>match ya zs c with
    |none=>none
    |some next=>yn zs name j next:=fun j=>by
   show(match zs[at_]? with|none=>none|some z=>_)=_
   rw[h]
  rw[e1 (k+1),e1 k];cases hcut:z.cut name with
  |none=>exact ⟨rfl,fun at' e=>by simp only [mp] at e;subst e;exact ⟨z,h,hw,hcut⟩⟩
  |some c =>
   simp only
   cases hp:ya zs c with
   |none=>exact⟨rfl,fun at' e=>by cases e⟩
   |some next =>
    simp only
    obtain⟨y,hy,ey⟩:=qf3 hp;obtain⟨c',ec,w1,w2,w3⟩:=z.cut_spec hzm hcut;have hyn:=Zo.ok_name (hz y (py hy));have hyc:fold y.apex=fold c':=by rw[ey,ec]
    have wy:=qb9 hyn hyc w1
    have hlt:=qm8 w2 w3
    have hcc:qg y.apex=qg c':=by
     rw[<-wr hyn,<-wr (zd w1).2,hyc]
    exact jn9 hz k next y hy wy (by omega)
def Zo.V(z:Zo):SV:=.agg [.d (.str z.apex),.d (rrsD z.z z.rrs)]
theorem zq6(z:Zo){i:Nat}{r:RR}(h:z.rrs[i]? = some r):xr z.apex (z.rrs.take (i+1))=(xr z.apex (z.rrs.take i) && ke z (z.rrs.take i) r):=by
 rw[mr,h];exact yd0 _ _ _
theorem qf4(z:Zo)(S:List ((List UInt8 × Int × Int × List UInt8) × Nat))(N:List (List UInt8 × Hd))(st:MS)(σ:Nat->Nat):mapB σ (lookK z S N st)=[.cells 135 [.d (.str z.apex),.d (rrsD z.z z.rrs),.map (σ 1),.map (σ 2)],ua S,wo N st]:=by
 show[KB.cells _ [_,_,SV.map (σ 1),SV.map (σ 2)],KB.mapx _ _ _ (mapM _ (aenc xk intV S)) _,KB.mapx _ _ _ (mapM _ (aenc strK Hd.enc N)) _]=_
 rw[jp0,jp5];rfl
theorem xh5(z:Zo)(hz:∀ r ∈ z.rrs,r.nm.length<=100000/\r.d.length<=100000) :
 COk Tryz.prog 74 [z.V] [] (fun s k=>∃ S N b,s = .tup [.agg [.d (.str z.apex),.d (rrsD z.z z.rrs),.map 0,.map 1],.d b]/\DenTo (.d b) (.d (.bool z.ok))/\k=[ua S,wo N .free]):=by
 refine j7 (TT:=TT) (IN:=qh []) qk qj mixed 1000 Tryz.func74 rfl (qi Tryz.func74 (by kernel_rfl) rfl) 38 (by kernel_rfl) ?_
 conv=>whnf
 refine od (zw z.apex) rfl rfl ?_;by_cases hn:qb z.apex;case neg =>
  rw[if_neg hn];have hb:z.ok=false:=by rw[z.ok_eq,decide_eq_false hn];rfl
  conv=>whnf
  refine brT rfl ?_;conv=>whnf
  rw[hb];refine⟨[2,3],_,[ua [],wo [] .free],rfl,rfl,?_,?_,[],[],.ff,rfl,DenTo.ff,rfl⟩
  ·exact rfl
  ·conv=>whnf
   repeat'(first|exact ⟨⟩|exact rfl|exact qa _|exact .inr rfl|exact fun _ _=>rfl|exact noI|apply And.intro)
 rw[if_pos hn];conv=>whnf
 refine brF rfl ?_;conv=>whnf
 refine⟨fun h1=>?_,fun h1=>?_⟩
 ·have h1:¬ z.rrs.length<=256:=by
   have h:(z.rrs.length:Int) > 256:=of_decide_eq_true h1
   omega
  have hb:z.ok=false:=by rw[z.ok_eq,decide_eq_false h1,lz,lr]
  rw[hb];conv=>whnf
  refine⟨[2,3],_,[ua [],wo [] .free],rfl,rfl,?_,?_,[],[],.ff,rfl,DenTo.ff,rfl⟩
  ·exact rfl
  ·conv=>whnf
   repeat'(first|exact ⟨⟩|exact rfl|exact qa _|exact .inr rfl|exact fun _ _=>rfl|exact noI|apply And.intro)
 have h1:z.rrs.length<=256:=by
  have h:¬ (z.rrs.length:Int) > 256:=of_decide_eq_false h1
  omega
 have hok:z.ok=(xr z.apex z.rrs && xu z):=by rw[z.ok_eq,decide_eq_true hn,decide_eq_true h1];rfl
 conv=>whnf
 refine .inv Nat (fun i=>i<=z.rrs.length/\xr z.apex (z.rrs.take i)=true) (fun i=>[(28,iV i)]) (fun i=>[(2,ua (j4 (z.rrs.take i))),(3,wo (qf (z.rrs.take i)) .free)]) (fun i=>z.rrs.length - i) ⟨0,[0,1,2,3,4],⟨pu _,rfl⟩,?_⟩ ?_
 ·conv=>whnf
  repeat'(first|exact ⟨⟩|exact rfl|exact qa _|exact .inr rfl|exact fun _ _=>rfl|exact noI|apply And.intro)
 intro i hi;obtain⟨hi,hti⟩:=hi;conv=>whnf
 refine⟨fun h2=>?_,fun h2=>?_⟩
 ·have h2:i<z.rrs.length:=by
   have h:(i:Int)<z.rrs.length:=of_decide_eq_true h2
   omega
  have hw1:=w64s i (by omega)
  obtain⟨r,hr⟩:∃ r,z.rrs.getD i default=r:=⟨_,rfl⟩;have hrl:z.rrs[i]? = some r:=by rw[<-hr,List.getD,pn h2];rfl
  have hnx:=zq6 z hrl
  have htk:z.rrs.take (i+1)=z.rrs.take i++[r]:=by rw[mr,hrl];rfl
  conv=>whnf
  refine⟨by omega,?_⟩
  conv=>whnf
  rw[pp,hr];refine .rel _ (COk.frameX (xh0 z (z.rrs.take i) (by rw[m9];omega) r (hz r (py hrl)).1) [4,2,3] rfl rfl (by rw[qf4];rfl)) (fun x ks' hR=>?_)
  obtain⟨s0,k0,⟨rfl,rfl⟩,rfl,rfl⟩:=hR;cases hto:ke z (z.rrs.take i) r with
  |false =>
   have hb:z.ok=false:=by
    rw[hok,zq7 (i:=i+1) (by rw[hnx,hto,lr])]
    rfl
   rw[hb,if_neg (by decide),qf4]
   conv=>whnf
   refine brT rfl ?_;conv=>whnf
   refine⟨[2,3],_,[ua (j4 (z.rrs.take i)),wo (qf (z.rrs.take i)) .free],rfl,rfl,?_,?_,_,_,.ff,rfl,DenTo.ff,rfl⟩
   ·exact rfl
   ·conv=>whnf
    repeat'(first|exact ⟨⟩|exact rfl|exact qa _|exact .inr rfl|exact fun _ _=>rfl|exact noI|apply And.intro)
    all_goals first
     |exact qo _
     |exact qn _
     |exact qt _ _ _
  |true =>
   rw[if_pos rfl,qf4];conv=>whnf
   refine brF rfl ?_;conv=>whnf
   rw[hw1];refine⟨i+1,[0,1,2,3,4],⟨h2,by rw[hnx,hti,hto];rfl⟩,by omega,?_⟩
   rw[htk];conv=>whnf
   repeat'(first|exact ⟨⟩|exact rfl|exact qa _|exact .inr rfl|exact fun _ _=>rfl|exact noI|apply And.intro)
   all_goals first
    |exact qo _
    |exact qn _
    |exact qt _ _ _
 ·have h2:i=z.rrs.length:=by
   have h:¬ (i:Int)<z.rrs.length:=of_decide_eq_false h2
   omega
  subst h2;rw [mz] at hti ⊢;rw [hti,m6] at hok;have hnm:∀ r ∈ z.rrs,qb r.nm:=fun r hr=>by
   unfold xr at hti
   simp only [px,gn] at hti
   have:=hti.1 r hr
   unfold zr at this
   simp only [px] at this
   exact(zd this.2.2.2.2).1
  have hsd:COk Tryz.prog 108 [.ptr 4 0] [.cells 40 [.d (.str z.apex),.d (rrsD z.z z.rrs)],.cells 135 [.d (.str []),nilS,.v (.map none),.v (.map none)],ua (j4 z.rrs),wo (qf z.rrs) .free,.cells 135 [.d (.str z.apex),.d (rrsD z.z z.rrs),.map 2,.map 3]]
   (fun s k=>s = .d (.bool (xu z))/\k=[.cells 40 [.d (.str z.apex),.d (rrsD z.z z.rrs)],.cells 135 [.d (.str []),nilS,.v (.map none),.v (.map none)],ua (j4 z.rrs),wo (qf z.rrs) .free,.cells 135 [.d (.str z.apex),.d (rrsD z.z z.rrs),.map 2,.map 3]]) :=
   (COk.frameX (zz4 z (j4 z.rrs) (by omega) hnm (by have:=hn.2.1;omega)) [4,2,3] rfl rfl (by rw[qf4];rfl)).imp fun r k ⟨s0,k0,⟨h1,h2⟩,h3,h4⟩=>by
    subst h1 h2 h3 h4;rw[qf4];exact⟨rfl,rfl⟩
  conv=>whnf
  apply Exists.intro;apply Exists.intro;refine⟨?_,?_⟩
  ·conv=>whnf
   repeat'(first|exact ⟨⟩|exact⟨rfl,rfl⟩|refine .mem _ _ hsd ?_|apply And.intro|(conv=>whnf))
  conv=>whnf
  refine⟨[2,3],_,[ua (j4 z.rrs),wo (qf z.rrs) .free],rfl,rfl,?_,?_,_,_,_,rfl,by rw[hok];exact DenTo.refl _,rfl⟩
  ·exact rfl
  ·conv=>whnf
   repeat'(first|exact ⟨⟩|exact rfl|exact qa _|exact .inr rfl|exact fun _ _=>rfl|exact noI|apply And.intro)
   all_goals first
    |exact qo _
    |exact qn _
    |exact qt _ _ _
theorem xl7(z:Zo)(hz:∀ r ∈ z.rrs,r.nm.length<=100000/\r.d.length<=100000) :
 COk Tryz.prog 74 [z.V] [] (fun s k=>∃ S N,s = .tup [.agg [.d (.str z.apex),.d (rrsD z.z z.rrs),.map 0,.map 1],.d (.bool z.ok)]/\k=[ua S,wo N .free]) :=
 COk.resD (xh5 z hz) fun s k ⟨S,N,b,h1,h2,h3⟩=>⟨_,h1 ▸ DenTo.tup ⟨DenTo.refl _,h2,trivial⟩,S,N,rfl,h3⟩
def rvF(l:List (List UInt8))(k j:Nat):List DV:=[.str (if j<k\/l.length<=j+k then (l[l.length - 1 - j]?).getD [] else (l[j]?).getD [])]
theorem xa3(l:List (List UInt8))(j:Nat)(h:j<l.length):rvF l 0 j=strs l j:=by
 unfold rvF strs
 rw[if_neg (by omega)]
theorem xh7(l:List (List UInt8))(k j:Nat)(h:j<l.length)(hk:l.length<=2 * k+1):rvF l k j=strs l.reverse j:=by
 unfold rvF strs
 rw[List.getElem?_reverse h];split
 ·rfl
 ·rw[show l.length - 1 - j=j by omega]
theorem xm0(z:Z)(l:List (List UInt8))(hn:l.length<=1000000):COk Tryz.prog 151 [.all 0] [.row 9 1 l.length z (strs l)] (fun r k=>r = .tup []/\k=[.row 9 1 l.length z (strs l.reverse)]):=by
 refine j7 (TT:=TT) (IN:=qh []) qk qj mixed 1000 Tryz.func151 rfl (qi Tryz.func151 (by kernel_rfl) rfl) 27 (by kernel_rfl) ?_
 conv=>whnf
 have e0:IntKind.i64.wrap ((l.length:Int) - 1)=(l.length:Int) - 1 - (0:Nat):=by rw[qe _ (by omega)];omega
 rw[e0];refine .inv Nat (fun k=>2 * k<=l.length) (fun k=>[(2,.d (.int .i64 k)),(3,.d (.int .i64 ((l.length:Int) - 1 - k)))]) (fun k=>[(0,.row 9 1 l.length z (rvF l k))]) (fun k=>l.length - k) ⟨0,[0],by omega,?_⟩ ?_
 ·conv=>whnf
  repeat'(first|exact ⟨⟩|exact rfl|exact qa _|exact .inr rfl|exact fun _ _=>rfl|exact noI|apply And.intro)
  exact fun j hj=>(xa3 l j hj).symm
 intro k hk;conv=>whnf
 refine⟨fun h1=>?_,fun h1=>?_⟩
 ·have h1:(k:Int)<(l.length:Int) - 1 - k:=of_decide_eq_true h1
  have e1:((l.length:Int) - 1 - k).toNat=l.length - 1 - k:=by omega
  conv=>whnf
  refine⟨?_,?_,?_,?_⟩;rotate_left 2
  ·conv=>whnf
   repeat'(first|exact⟨rfl,rfl⟩|(refine⟨⟨by omega,by omega⟩,?_⟩;conv=>whnf)|exact ⟨⟩|apply And.intro|(conv=>whnf))
  ·conv=>whnf
   refine⟨k+1,[0],by omega,by show l.length - (k+1)<l.length - k;omega,?_⟩
   have e3:=w64s k (by omega)
   have e4:IntKind.i64.wrap ((l.length:Int) - 1 - k - 1)=(l.length:Int) - 1 - (k+1:Nat):=by rw[qe _ (by omega)];omega
   rw[e3,e4];conv=>whnf
   repeat'(first|exact ⟨⟩|exact rfl|exact qa _|exact .inr rfl|exact fun _ _=>rfl|exact noI|apply And.intro)
   intro j hj;rw[e1,pp,if_neg (by omega),if_neg (by omega)]
   unfold oneF
   by_cases h2:j=l.length - 1 - k
   ·rw[if_pos h2,if_neg (by omega)]
    show[DV.str (l[k]?.getD [])]=_
    unfold rvF
    rw[if_pos (by omega),show l.length - 1 - j=k by omega]
   ·rw[if_neg h2];by_cases h3:j=k
    ·rw[if_pos h3];show[DV.str (l[l.length - 1 - k]?.getD [])]=_;unfold rvF;rw[if_pos (by omega),h3]
    ·rw[if_neg h3];unfold rvF
     by_cases h4:j<k\/l.length<=j+k
     ·rw[if_pos h4,if_pos (by omega)]
     ·rw[if_neg h4,if_neg (by omega)]
 ·have h1:¬ (k:Int)<(l.length:Int) - 1 - k:=of_decide_eq_false h1
  conv=>whnf
  refine⟨[0],_,_,rfl,rfl,?_,?_,rfl,rfl⟩
  ·exact rfl
  ·conv=>whnf
   repeat'(first|exact ⟨⟩|exact rfl|exact qa _|exact .inr rfl|exact fun _ _=>rfl|exact noI|apply And.intro)
   exact fun j hj=>(xh7 l k j hj (by omega))
def qw(n:List UInt8):List (List UInt8):=(fl n).reverse
theorem zb5{ls:List (List UInt8)}{i:Nat}{l:List UInt8}(h:ls[i]? = some l)(j:Nat)(hj:j<i+1):catF i (strs (ls.take i)) (jd [DV.str l] 1) j=strs (ls.take i++[l]) j:=by
 have hi:=(po.1 h).1
 have:=kp (ls.take i) l (jd [DV.str l] 1) rfl j (by rw[m9];omega)
 rwa [m9,ax (by omega)] at this
theorem zs0(n0:List UInt8)(hn0:qb n0):FnOk Tryz.prog 129 [.d (.str n0)] (.d (.sl (qw n0).isEmpty (qw n0).length 1 (strs (qw n0)))):=by
 refine qp (TT:=TT) (IN:=qh [(150,Tryz.f150,1),(158,Tryz.f158,2),(56,Tryz.f56,1),(92,Tryz.f92,2),(27,Tryz.f27,1),(59,Tryz.f59,2)]) qk (jj (jj (jj (jj (jj (jj qj Tryz.func59 (by kernel_rfl) (by kernel_rfl)) Tryz.func27 (by kernel_rfl) (by kernel_rfl)) Tryz.func92 (by kernel_rfl) (by kernel_rfl)) Tryz.func56 (by kernel_rfl) (by kernel_rfl)) Tryz.func158 (by kernel_rfl) (by kernel_rfl)) Tryz.func150 (by kernel_rfl) (by kernel_rfl)) mixed 1000 Tryz.func129 rfl (qi Tryz.func129 (by kernel_rfl) rfl) rfl 10 (by kernel_rfl) ?_
 conv=>whnf
 refine od (zx n0 (by have:=hn0.2.1;omega)) rfl rfl ?_
 have hn:qb (fold n0):=qj2 hn0
 conv=>whnf
 refine od (zw (fold n0)) rfl rfl ?_;rw[if_pos hn];conv=>whnf
 refine brF rfl ?_;have hlf:=qt4 hn0
 generalize hnn:fold n0=n at hn hlf ⊢;conv=>whnf
 have hflok:=qx4 hn0
 obtain⟨hn1,hn2,hn3⟩:=xp hn;have hend:∀ i,qu (labN n) i<n.length:=fun i=>by have:=jt3 (labN n) i;rw [<-hn3] at this;exact this
 have hbt:∀ i l,(labN n)[i]? = some l->bt n (qu (labN n) i)=l.length:=fun i l h=>by
  have:=ju1 hn2 h
  rw [<-hn3] at this;exact this
 have hbe:bt n (qu (labN n) (labN n).length)=0:=by
  have:=ju2 (labN n)
  rw [<-hn3] at this;exact this
 have hll:=yu3 (labN n)
 rw [<-hn3] at hll;have hlab:∀ i l,(labN n)[i]? = some l->(n.drop (qu (labN n) i+1)).take l.length=l:=fun i l h=>by
  have:=xc7 h
  rw [<-hn3] at this;exact this
 generalize hls:labN n=ls at hn2 hn3 hend hbt hbe hll hlf hlab;have hcnt:∀ i,i<=ls.length->i<=qu ls i:=fun i=>by
  induction i with
  |zero=>intro _;exact pu _
  |succ i ih =>
   intro h;have:=ih (by omega)
   have:=jp2 (ls:=ls) (i:=i) (j:=i+1) (by omega) h
   omega
 have hlc:=hcnt ls.length (pq _)
 refine .nilC 1 0 9 1 (strs []) _ _ _ _ rfl rfl ?_;conv=>whnf
 refine .inv Nat (fun i=>i<=ls.length) (fun i=>[(3,iV (qu ls i))]) (fun i=>[(4,.cells 3 [iV (qu ls i)]),(7,.row 9 1 i .iff (strs (ls.take i)))]) (fun i=>ls.length - i) ⟨0,[0,1,2,3,4,5,6,7],pu _,?_⟩ ?_
 ·conv=>whnf
  repeat'(first|exact ⟨⟩|exact rfl|exact qa _|exact .inr rfl|exact fun _ _=>rfl|exact noI|apply And.intro)
 intro i hi;have hp:=hend i
 conv=>whnf
 refine brT (decide_eq_true (by omega)) ?_
 conv=>whnf
 refine⟨by omega,?_⟩
 conv=>whnf
 rw[z1,qe (bt n (qu ls i):Int) (by have:=u3 n (qu ls i);omega)]
 rcases pz i ls.length with hlt|hge
 ·have hli:ls[i]? = some ls[i]:=pn hlt
  have hb:=hbt i _ hli
  have hok:=hn2 _ (d5 hlt)
  have hps:=qz8 hli
  have hp2:=hend (i+1)
  rw[hb];generalize ls[i]=l at hli hb hok hps;obtain⟨ho1,ho2⟩:=hok;refine brF (by rw[beq_eq_false_iff_ne];omega) ?_
  conv=>whnf
  refine brF (decide_eq_false (by omega)) ?_
  conv=>whnf
  have e1:IntKind.i64.wrap ((n.length:Int) - (qu ls i:Int))=((n.length - qu ls i:Nat):Int):=by rw[qe _ (by omega)];omega
  rw[e1];refine brF (decide_eq_false (by omega)) ?_
  conv=>whnf
  have e2:IntKind.i64.wrap ((qu ls i:Int)+IntKind.i64.wrap (1+(l.length:Int)))=((qu ls (i+1):Nat):Int):=by rw[qe (1+(l.length:Int)) (by omega),qe _ (by omega)];omega
  rw[e2];have e3:IntKind.i64.wrap ((qu ls i:Int)+1)=((qu ls i+1:Nat):Int):=by rw[qe _ (by omega)];omega
  rw[e3];refine⟨by omega,?_⟩
  conv=>whnf
  have hsub:sub n ((qu ls i+1:Nat):Int) ((qu ls (i+1):Nat):Int)=l:=by
   unfold sub
   rw[pp,pp];rw[show qu ls (i+1) - (qu ls i+1)=l.length by omega]
   exact hlab i l hli
  rw[hsub];refine⟨by omega,?_⟩
  conv=>whnf
  refine⟨i+1,[0,1,2,3,4,5,6,9],hlt,by omega,?_⟩
  conv=>whnf
  repeat'(first|exact ⟨⟩|exact rfl|exact qa _|exact .inr rfl|exact fun _ _=>rfl|exact noI|apply And.intro)
  exact fun j hj=>by rw[mr,hli];exact zb5 hli j hj
 ·have hil:i=ls.length:=by omega
  subst hil;rw[hbe];conv=>whnf
  refine brT rfl ?_;conv=>whnf
  refine .rel _ (COk.frameX (xm0 .iff ls (by omega)) [7] rfl rfl (by rw[mz];rfl)) (fun y ks' hR=>?_)
  obtain⟨_,_,⟨rfl,rfl⟩,rfl,rfl⟩:=hR;conv=>whnf
  have hr:qw n0=ls.reverse:=by unfold qw;rw[hlf]
  rw[hr];refine⟨?_,dz.symm,.inr rfl,fun _ _=>rfl⟩
  rw[lw,Nat.beq_eq,List.isEmpty_iff,List.reverse_eq_nil_iff,rx]
def cmpS(a b:List UInt8):Int:=if Op.bytesLess a b then -1 else if a=b then 0 else 1
def jw:List (List UInt8)->List (List UInt8)->Int
 |[],[]=>0
 |[],_ :: _=>-1
 |_ :: _,[]=>1
 |a :: l,b :: m=>if cmpS a b≠0 then cmpS a b else jw l m
theorem xk2(a b:List UInt8):FnOk Tryz.prog 153 [.d (.str a),.d (.str b)] (.d (.int .i64 (cmpS a b))):=by
 refine qp (TT:=TT) (IN:=qh [(161,Tryz.f161,1)]) qk (jj qj Tryz.func161 (by kernel_rfl) (by kernel_rfl)) mixed 1000 Tryz.func153 rfl (qi Tryz.func153 (by kernel_rfl) rfl) rfl 18 (by kernel_rfl) ?_
 conv=>whnf
 refine brF (by simp) ?_
 conv=>whnf
 refine brF (by simp) ?_
 conv=>whnf
 unfold cmpS
 refine⟨fun h=>?_,fun h=>?_⟩
 ·rw[if_pos h];conv=>whnf
  try exact rfl
 rw[if_neg (by rw[h];decide)]
 conv=>whnf
 rw[h,rv];by_cases e:a=b
 ·rw[if_pos e];refine brF (by simp[e]) ?_
  conv=>whnf
  try exact rfl
 ·rw[if_neg e];refine brT (by simp[e]) ?_
  conv=>whnf
  try exact rfl
theorem xf1(y z:Bool)(l m:List (List UInt8))(hl:l.length<=1000000)(hm:m.length<=1000000):FnOk Tryz.prog 132 [.d (.sl y l.length 1 (strs l)),.d (.sl z m.length 1 (strs m))] (.d (.int .i64 (jw l m))):=by
 refine qp (TT:=TT) (IN:=qh []) qk qj mixed 1000 Tryz.func132 rfl (qi Tryz.func132 (by kernel_rfl) rfl) rfl 34 (by kernel_rfl) ?_
 conv=>whnf
 refine .inv Nat (fun i=>i<=l.length/\i<=m.length/\jw (l.drop i) (m.drop i)=jw l m) (fun i=>[(11,iV i)]) (fun _=>[]) (fun i=>l.length - i) ⟨0,[],⟨pu _,pu _,rfl⟩,?_⟩ ?_
 ·conv=>whnf
  repeat'(first|exact ⟨⟩|exact rfl|exact fun _=>Iff.rfl|exact fun _ _=>rfl|exact renM_ent rfl _|apply And.intro)
 intro i hi;obtain⟨hi1,hi2,hi3⟩:=hi;have hw1:=w64s i (by omega)
 conv=>whnf
 generalize jw l m=Y at hi3 ⊢;refine⟨fun c0=>?_,fun c0=>?_⟩
 ·have c0':i<l.length:=(by have h:(i:Int)<l.length:=of_decide_eq_true c0;omega)
  rw [ly c0'] at hi3;conv=>whnf
  refine⟨by omega,?_⟩
  conv=>whnf
  by_cases hlt:i<m.length
  case neg =>
   rw [show m.drop i=[] from dy (by omega)] at hi3
   simp only [jw] at hi3
   rw[<-hi3];refine brT (decide_eq_true (by omega)) ?_
   conv=>whnf
   repeat'(first|exact ⟨⟩|exact rfl|exact fun _=>Iff.rfl|exact fun _ _=>rfl|exact renM_ent rfl _|apply And.intro)
  rw [ly hlt] at hi3;refine brF (decide_eq_false (by omega)) ?_
  conv=>whnf
  refine⟨by omega,?_⟩
  conv=>whnf
  rw[pp,show l[i]?.getD []=l[i] by rw[pn c0'];rfl,show m[i]?.getD []=m[i] by rw[pn hlt];rfl]
  refine od (xk2 _ _) rfl rfl ?_;conv=>whnf
  simp only [jw] at hi3
  by_cases hc:cmpS l[i] m[i]=0
  ·rw [if_neg (by simpa using hc)] at hi3
   refine brF (by rw[bne_eq_false_iff_eq];exact hc) ?_
   conv=>whnf
   rw[hw1];refine⟨i+1,[],⟨c0',hlt,hi3⟩,by omega,?_⟩
   conv=>whnf
   repeat'(first|exact ⟨⟩|exact rfl|exact fun _=>Iff.rfl|exact fun _ _=>rfl|exact renM_ent rfl _|apply And.intro)
  ·rw [if_pos hc] at hi3;rw[<-hi3];refine brT (by rw[bne_iff_ne];exact hc) ?_
   conv=>whnf
   repeat'(first|exact ⟨⟩|exact rfl|exact fun _=>Iff.rfl|exact fun _ _=>rfl|exact renM_ent rfl _|apply And.intro)
 ·have c0':i=l.length:=(by have h:¬ (i:Int)<l.length:=of_decide_eq_false c0;omega)
  rw [show l.drop i=[] from dy (by omega)] at hi3
  conv=>whnf
  by_cases hlt:i<m.length
  ·rw [ly hlt] at hi3;simp only [jw] at hi3
   rw[<-hi3];refine brT (decide_eq_true (by omega)) ?_
   conv=>whnf
   repeat'(first|exact ⟨⟩|exact rfl|exact fun _=>Iff.rfl|exact fun _ _=>rfl|exact renM_ent rfl _|apply And.intro)
  ·rw [dy (by omega)] at hi3
   simp only [jw] at hi3
   rw[<-hi3];refine brF (decide_eq_false (by omega)) ?_
   conv=>whnf
   repeat'(first|exact ⟨⟩|exact rfl|exact fun _=>Iff.rfl|exact fun _ _=>rfl|exact renM_ent rfl _|apply And.intro)
theorem jc3{n:List UInt8}(h:qb n):(qw n).length<=255:=by
 obtain⟨h1,h2,h3⟩:=xp h;unfold qw
 rw[dz,fl,o4];have:=ya7 (labN n);have e:(labs (labN n)).length+1=(mk (labN n)).length:=by rw[<-jf3,p7];rfl
 rw [<-h3] at e;omega
theorem xi7(b:UInt8):low (low b)=low b:=by
 have:∀ n:Nat,n<256->low (low (UInt8.ofNat n))=low (UInt8.ofNat n):=by decide +kernel
 have:=this b.toNat b.toNat_lt
 rwa [UInt8.ofNat_toNat] at this
theorem jb3(s:List UInt8):fold (fold s)=fold s:=by
 unfold fold
 rw[dn];exact List.map_congr_left fun b _=>xi7 b
structure Cw{α:Type}(P:α->Prop)(c:α->α->Int):Prop where
 anti:∀ a b,P a->P b->(c a b<0↔0<c b a)
 trans:∀ a b d,P a->P b->P d->c a b<=0->c b d<=0->c a d<=0
theorem Cw.refl{α:Type}{P:α->Prop}{c:α->α->Int}(h:Cw P c)(a:α)(ha:P a):c a a=0:=by
 have:=h.anti a a ha ha
 omega
theorem Cw.lt_le{α:Type}{P:α->Prop}{c:α->α->Int}(h:Cw P c){a b d:α}(ha:P a)(hb:P b)(hd:P d)(h1:c a b<=0)(h2:c b d<0):c a d<0:=by
 have a1:=h.anti a d ha hd
 have a2:=h.anti b d hb hd
 have a3:=h.anti d a hd ha
 have:=h.trans d a b hd ha hb
 have a4:=h.anti d b hd hb
 omega
theorem Cw.le_lt{α:Type}{P:α->Prop}{c:α->α->Int}(h:Cw P c){a b d:α}(ha:P a)(hb:P b)(hd:P d)(h1:c a b<0)(h2:c b d<=0):c a d<0:=by
 have a1:=h.anti a d ha hd
 have a2:=h.anti a b ha hb
 have a3:=h.anti d a hd ha
 have:=h.trans b d a hb hd ha
 have a4:=h.anti b a hb ha
 omega
theorem Cw.map{α β:Type}{P:α->Prop}{Q:β->Prop}{c:β->β->Int}(h:Cw Q c)(f:α->β)(hf:∀ a,P a->Q (f a)):Cw P (fun a b=>c (f a) (f b)) :=
 ⟨fun a b ha hb=>h.anti _ _ (hf a ha) (hf b hb),fun a b d ha hb hd=>h.trans _ _ _ (hf a ha) (hf b hb) (hf d hd)⟩
theorem Cw.sgn{α:Type}{P:α->Prop}{c c':α->α->Int}(h:Cw P c)(hs:∀ a b,P a->P b->(c' a b<0↔c a b<0)/\(c' a b=0↔c a b=0)):Cw P c' where
 anti a b ha hb:=by
  have:=h.anti a b ha hb
  have:=hs a b ha hb
  have:=hs b a hb ha
  omega
 trans a b d ha hb hd:=by
  have:=h.trans a b d ha hb hd
  have:=hs a b ha hb
  have:=hs b d hb hd
  have:=hs a d ha hd
  omega
theorem cw_bytes:Cw (fun _=>True) Lib.compareBytes where
 anti a b _ _:=by
  have h1:=ql8 a b
  have h2:=ql8 b a
  have h3:=qp5 b a
  constructor
  ·intro h;have e1:=h1.1 h
   have e2:=qv4 a b e1
   have:¬ Lib.compareBytes b a<0:=fun h=>by rw [h2.1 h] at e2;cases e2
   have:¬ Lib.compareBytes b a=0:=fun h=>by rw [h3.1 h,x9] at e1;cases e1
   omega
  ·intro h;apply h1.2;cases e:Op.bytesLess a b
   ·have:Op.bytesLess b a=false:=by
     cases e2:Op.bytesLess b a
     ·rfl
     ·have:=h2.2 e2;omega
    have:=h3.2 (qh5 b a this e)
    omega
   ·rfl
 trans a b d _ _ _ h1 h2:=by
  have c1:=ql8 d a
  have hle:∀ x y:List UInt8,Lib.compareBytes x y<=0->Op.bytesLess y x=false:=fun x y h=>by
   cases e:Op.bytesLess y x
   ·rfl
   ·rcases Int.lt_or_eq_of_le h with h|h
    ·have:=qv4 x y ((ql8 x y).1 h);rw [this] at e;cases e
    ·rw [(qp5 x y).1 h,x9] at e;cases e
  have e:=jo2 d b a (hle b d h2) (hle a b h1)
  cases e2:Op.bytesLess a d
  ·have:=(qp5 a d).2 (qh5 a d e2 e);omega
  ·have:=(ql8 a d).2 e2;omega
theorem yv9(a b:List UInt8):(cmpS a b<0↔Lib.compareBytes a b<0)/\(cmpS a b=0↔Lib.compareBytes a b=0):=by
 have h1:=ql8 a b
 have h2:=qp5 a b
 unfold cmpS
 rw[h1,h2];cases e:Op.bytesLess a b
 ·simp only[dw,if_false]
  split <;> simp_all
 ·have:¬ a=b:=fun h=>by rw [h,x9] at e;cases e
  simp[this]
theorem cw_S:Cw (fun _=>True) cmpS:=cw_bytes.sgn fun a b _ _=>yv9 a b
theorem zw5{a b:List UInt8}(h:cmpS a b=0):a=b:=(qp5 a b).1 ((yv9 a b).2.1 h)
theorem kj:∀ l m:List (List UInt8),jw l m<0↔0<jw m l
 |[],[]=>by simp[jw]
 |[],_ :: _=>by simp[jw]
 |_ :: _,[]=>by simp[jw]
 |a :: l,b :: m=>by
  have ih:=kj l m
  have h1:=cw_S.anti a b trivial trivial
  have h2:=cw_S.anti b a trivial trivial
  simp only[jw]
  split <;> split <;> omega
theorem qz3:∀ l m n:List (List UInt8),jw l m<=0->jw m n<=0->jw l n<=0
 |[],_,[]=>by simp[jw]
 |[],_,_ :: _=>by simp[jw]
 |_ :: _,[],_=>by simp[jw]
 |_ :: _,_ :: _,[]=>by simp[jw]
 |a :: l,b :: m,c :: n=>by
  have ih:=qz3 l m n
  have t1:=cw_S.trans a b c trivial trivial trivial
  have t3:=@Cw.lt_le _ _ _ cw_S a b c trivial trivial trivial
  have t4:=@Cw.le_lt _ _ _ cw_S a b c trivial trivial trivial
  simp only[jw]
  split <;> split <;> split <;> omega
theorem jv5:Cw (fun _=>True) jw:=⟨fun a b _ _=>kj a b,fun a b d _ _ _=>qz3 a b d⟩
theorem yi9{n:List UInt8}(h:qb n):fold n=mk (qw n).reverse:=by
 unfold qw
 rw[su];exact vx h
theorem ye0{α:Type}[DecidableEq α]:∀ {l m:List α},l.Nodup->m.Nodup->(∀ x,x ∈ l↔x ∈ m)->l.Perm m
 |[],m,_,_,h=>by
  have:m=[]:=bq.2 fun x hx=>by have:=(h x).2 hx;cases this
  rw[this]
 |a :: l,m,h1,h2,h=>by
  rw [List.nodup_cons] at h1;have ha:a ∈ m:=(h a).1 (by simp)
  refine .trans (.cons a ?_) (List.perm_cons_erase ha).symm;refine ye0 h1.2 (h2.erase a) fun x=>?_
  rw[h2.mem_erase_iff];constructor
  ·intro hx;exact⟨fun e=>h1.1 (e ▸ hx),(h x).1 (by simp[hx])⟩
  ·rintro ⟨hx1,hx2⟩
   rcases pr.1 ((h x).2 hx2) with e|hx
   ·exact absurd e hx1
   ·exact hx
theorem xd1{n:Nat}{q:Nat->Nat}(hq:Inj n q):((List.range n).map q).Perm (List.range n):=by
 refine ye0 ?_ List.nodup_range fun x=>?_
 ·unfold List.Nodup
  rw[List.pairwise_map];refine(List.nodup_range (n:=n)).imp_of_mem fun {a b} ha hb hab e=>?_
  exact hab (hq.un a b (lu.1 ha) (lu.1 hb) e)
 ·rw[o5,lu];constructor
  ·rintro ⟨i,hi,rfl⟩
   exact hq.lt i (lu.1 hi)
  ·intro hx;obtain⟨i,hi,e⟩:=hq.surj x hx;exact⟨i,lu.2 hi,e⟩
def cmpZ(L:List (List UInt8))(x y:Nat):Int:=jw (qw (L.getD x default)) (qw (L.getD y default))
def leZ(L:List (List UInt8))(i j:Nat):Bool:=decide (cmpZ L i j<0) || (decide (cmpZ L i j=0) && decide (i<=j))
theorem qv3(L:List (List UInt8))(i j:Nat):leZ L i j=true↔cmpZ L i j<0\/(cmpZ L i j=0/\i<=j):=by
 unfold leZ;simp
theorem zv0(L:List (List UInt8))(a b c:Nat)(h1:leZ L a b=true)(h2:leZ L b c=true):leZ L a c=true:=by
 rw [qv3] at *;unfold cmpZ at *
 have t1:=qz3 (qw (L.getD a default)) (qw (L.getD b default)) (qw (L.getD c default))
 have t2:=@Cw.lt_le _ _ _ jv5 (qw (L.getD a default)) (qw (L.getD b default)) (qw (L.getD c default)) trivial trivial trivial
 have t3:=@Cw.le_lt _ _ _ jv5 (qw (L.getD a default)) (qw (L.getD b default)) (qw (L.getD c default)) trivial trivial trivial
 omega
theorem zv1(L:List (List UInt8))(a b:Nat):(leZ L a b || leZ L b a)=true:=by
 rw[dp,qv3,qv3];unfold cmpZ
 have a1:=kj (qw (L.getD a default)) (qw (L.getD b default))
 have a2:=kj (qw (L.getD b default)) (qw (L.getD a default))
 omega
theorem xc5(L:List (List UInt8))(a b:Nat)(h1:leZ L a b=true)(h2:leZ L b a=true):a=b:=by
 rw [qv3] at *;unfold cmpZ at *
 have a1:=kj (qw (L.getD a default)) (qw (L.getD b default))
 have a2:=kj (qw (L.getD b default)) (qw (L.getD a default))
 omega
theorem yp4{α:Type}{le:α->α->Prop}(anti:∀ a b,le a b->le b a->a=b):∀ {l m:List α},l.Perm m->l.Pairwise le->m.Pairwise le->l=m
 |[],m,hp,_,_=>by rw[List.nil_perm.1 hp]
 |a :: l,[],hp,_,_=>by have:=hp.length_eq;simp at this
 |a :: l,b :: m,hp,h1,h2=>by
  have hab:a=b:=by
   rw [gz] at h1 h2;have ha:a ∈ b :: m:=hp.mem_iff.1 (by simp)
   have hb:b ∈ a :: l:=hp.mem_iff.2 (by simp)
   rcases pr.1 ha with e|ha
   ·exact e
   rcases pr.1 hb with e|hb
   ·exact e.symm
   exact anti a b (h1.1 b hb) (h2.1 a ha)
  subst hab;rw [gz] at h1 h2;rw[yp4 anti hp.cons_inv h1.2 h2.2]
def qw5(L:List (List UInt8)):List Nat:=(List.range L.length).mergeSort (leZ L)
theorem qz6(L:List (List UInt8)):(qw5 L).Perm (List.range L.length):=List.mergeSort_perm _ _
theorem zr2(L:List (List UInt8)):(qw5 L).length=L.length:=by rw[(qz6 L).length_eq,cx]
theorem zz6(L:List (List UInt8)):(qw5 L).Pairwise fun a b=>leZ L a b=true:=List.pairwise_mergeSort (zv0 L) (zv1 L) _
def xj(L:List (List UInt8)):List (List UInt8):=(qw5 L).map fun i=>L.getD i default
theorem yh7(L:List (List UInt8)):(xj L).length=L.length:=by unfold xj;rw[o4,zr2]
theorem yh6(L:List (List UInt8))(n:List UInt8):n ∈ xj L↔n ∈ L:=by
 unfold xj
 rw[o5];constructor
 ·rintro ⟨i,hi,rfl⟩
  have hi:=lu.1 ((qz6 L).mem_iff.1 hi)
  rw[o8,pn hi];exact d5 hi
 ·intro h;obtain⟨i,hi,rfl⟩:=ou.1 h;refine⟨i,(qz6 L).mem_iff.2 (lu.2 hi),?_⟩;rw[o8,pn hi];rfl
theorem zz5(L:List (List UInt8))(q:Nat->Nat)(hq:Inj L.length q)(hr:Rise (LL fun x y=>decide (cmpZ L x y<0)) q 0 L.length):∀ i,i<L.length->L.getD (q i) default=(xj L).getD i default:=by
 have e:(List.range L.length).map q=qw5 L:=by
  refine yp4 (le:=fun a b=>leZ L a b=true) (xc5 L) ((xd1 hq).trans (qz6 L).symm) ?_ (zz6 L)
  rw[List.pairwise_map,wa0];intro i j hi hj hij;rw[List.getElem_range,List.getElem_range];simp only [cx] at hi hj
  rw[qv3];rcases hr i j (pu _) hij hj with h|⟨h,h2⟩
  ·exact .inl (of_decide_eq_true h)
  ·have h:¬ cmpZ L (q j) (q i)<0:=of_decide_eq_false h
   have a1:=kj (qw (L.getD (q i) default)) (qw (L.getD (q j) default))
   have a2:=kj (qw (L.getD (q j) default)) (qw (L.getD (q i) default))
   unfold cmpZ at *
   omega
 intro i hi;unfold xj
 rw[<-e,dn];have h2:(List.map ((fun i=>L.getD i default) ∘ q) (List.range L.length))[i]? = some (L.getD (q i) default):=by
  rw[o9,d4 hi];rfl
 rw[o8 (l:=List.map _ _),h2];rfl
theorem xn5(L:List (List UInt8)):Weak L.length fun x y=>decide (cmpZ L x y<0):=by
 unfold cmpZ
 refine⟨fun i j hi hj h=>?_,fun i j k hi hj hk h1 h2=>?_,fun i j k hi hj hk h1 h2=>?_⟩
 ·have a1:=kj (qw (L.getD i default)) (qw (L.getD j default))
  have:=of_decide_eq_true h
  exact decide_eq_false (by omega)
 ·have a1:=@Cw.lt_le _ _ _ jv5 (qw (L.getD i default)) (qw (L.getD j default)) (qw (L.getD k default)) trivial trivial trivial
  have h1:=of_decide_eq_true h1
  have h2:=of_decide_eq_true h2
  exact decide_eq_true (a1 (by omega) h2)
 ·have b1:=kj (qw (L.getD j default)) (qw (L.getD i default))
  have b2:=kj (qw (L.getD k default)) (qw (L.getD j default))
  have b3:=kj (qw (L.getD i default)) (qw (L.getD k default))
  have b4:=kj (qw (L.getD i default)) (qw (L.getD j default))
  have b5:=kj (qw (L.getD j default)) (qw (L.getD k default))
  have b6:=kj (qw (L.getD k default)) (qw (L.getD i default))
  have a4:=qz3 (qw (L.getD k default)) (qw (L.getD j default)) (qw (L.getD i default))
  have h1:=of_decide_eq_false h1
  have h2:=of_decide_eq_false h2
  exact decide_eq_false (by omega)
def uu(P:List (List UInt8))(i:Nat):Bool:=i == 0 || qw (P.getD i default) != qw (P.getD (i - 1) default)
def qb6(P:List (List UInt8))(i:Nat):List (List UInt8):=((List.range i).filter (uu P)).map fun i=>P.getD i default
theorem qz9(P:List (List UInt8))(i:Nat):qb6 P (i+1)=if uu P i then qb6 P i++[P.getD i default] else qb6 P i:=by
 unfold qb6
 rw[List.range_succ,f8];cases h:uu P i <;> simp[h]
theorem jm8(P:List (List UInt8)):∀ i,(qb6 P i).length<=i
 |0=>pq 0
 |i+1=>by
  have:=jm8 P i
  rw[qz9];split
  ·simp;omega
  ·omega
theorem jm7{P:List (List UInt8)}{n:List UInt8}:∀ {i:Nat},i<=P.length->n ∈ qb6 P i->n ∈ P
 |0,_,h=>by cases h
 |i+1,hi,h=>by
  rw [qz9] at h;have hg:P.getD i default ∈ P:=by
   rw[o8,pn (by omega)]
   exact d5 _
  split at h
  ·rcases ox.1 h with h|h
   ·exact jm7 (by omega) h
   ·simp only [gp] at h
    subst h;exact hg
  ·exact jm7 (by omega) h
theorem jm9{P:List (List UInt8)}:∀ {i j:Nat},j<i->∃ n ∈ qb6 P i,qw n=qw (P.getD j default)
 |0,_,h=>by omega
 |i+1,j,h=>by
  rw[qz9];by_cases hj:j<i
  ·obtain⟨n,hn,e⟩:=@jm9 P i j hj;refine⟨n,?_,e⟩;split
   ·exact au _ hn
   ·exact hn
  ·have hj:j=i:=by omega
   subst hj;cases hk:uu P j with
   |true=>exact⟨P.getD j default,by simp,rfl⟩
   |false =>
    unfold uu at hk
    simp only [ar,bne_eq_false_iff_eq,beq_eq_false_iff_ne] at hk
    obtain⟨n,hn,e⟩:=@jm9 P j (j - 1) (by omega)
    exact⟨n,by simpa using hn,by rw[e,hk.2]⟩
def zu(l:List (List UInt8)):List (List UInt8):=qb6 (xj (l.filter fun n=>decide (qb n))) (l.filter fun n=>decide (qb n)).length
theorem qa2{l:List (List UInt8)}{n:List UInt8}(h:n ∈ zu l):n ∈ l/\qb n:=by
 have h:=jm7 (by rw[yh7];exact pq _) h
 rw [yh6] at h;obtain⟨h1,h2⟩:=l9.1 h;exact⟨h1,of_decide_eq_true h2⟩
theorem jm4{l:List (List UInt8)}{n:List UInt8}(h:n ∈ l)(hn:qb n):∃ m ∈ zu l,fold m=fold n:=by
 have h:n ∈ xj (l.filter fun n=>decide (qb n)):=(yh6 _ _).2 (l9.2 ⟨h,decide_eq_true hn⟩)
 obtain⟨j,hj,e⟩:=ou.1 h;obtain ⟨m,hm,e1⟩:=@jm9 (xj (l.filter fun n=>decide (qb n))) _ j (show j<(l.filter fun n=>decide (qb n)).length by rw [yh7] at hj;exact hj)
 refine⟨m,hm,?_⟩;rw[yi9 (qa2 hm).2,yi9 hn,e1,o8,pn hj,<-e];rfl
theorem yh8(l:List (List UInt8)):(zu l).length<=l.length:=o7 (jm8 _ _) (fq _ _)
def plW(n:List UInt8):List DV:=[.str n,.sl (qw n).isEmpty (qw n).length 1 (strs (qw n))]
def plV(n:List UInt8):SV:=.agg ((plW n).map .d)
theorem qz7(n:List UInt8):(qw n).length<=1000000:=by
 by_cases h:qb n
 ·have:=jc3 h;omega
 ·have e:je n=none:=by
   cases e:je n
   ·rfl
   ·exact absurd ((qs1 n).2 (by rw[e];rfl)) h
  unfold qw fl labN
  rw[e];simp
theorem je3(a b:List UInt8):FnOk Tryz.prog 131 [plV a,plV b] (.d (.int .i64 (jw (qw a) (qw b)))):=by
 refine qp (TT:=TT) (IN:=qh []) qk qj mixed 1000 Tryz.func131 rfl (qi Tryz.func131 (by kernel_rfl) rfl) rfl 8 (by kernel_rfl) ?_
 conv=>whnf
 refine od (xf1 _ _ _ _ (qz7 a) (qz7 b)) rfl rfl ?_;conv=>whnf
 repeat'(first|exact ⟨⟩|exact rfl|exact fun _=>Iff.rfl|exact fun _ _=>rfl|exact renM_ent rfl _|apply And.intro)
end Go.Proofs.YtnfoihdifohkeaaGreat
