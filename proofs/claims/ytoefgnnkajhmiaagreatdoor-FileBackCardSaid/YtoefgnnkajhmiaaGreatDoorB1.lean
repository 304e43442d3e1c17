/-
  Part of the proof: lemmas about the functions that the row calls, and about the steps of a run. Conditions: those ahead of each lemma.
-/
import Derived.Test.YtoefgnnkajhmiaaGreatDoorRows
import Derived.KernelRfl
import Derived.Shelf.Strings.OnBuilder
import Derived.Shelf.Small.Strs
import Derived.Shelf.Strings.Builder1
import Derived.Shelf.Strconv.Itoa1
import Derived.Shelf.Strconv.Itoa2
import Derived.Shelf.LaysM
import Derived.Shelf.Pu.ParseUintPublic10
import Derived.Shelf.Strings.Search3
import Derived.Shelf.Strings.Count
import Derived.Test.YtoefgnnkajhmiaaGreatDoorProg
import Derived.Test.YtoefgnnkajhmiaaGreatDoorM4
set_option linter.unusedVariables false
set_option linter.unusedSimpArgs false
set_option maxRecDepth 100000
set_option maxHeartbeats 64000000
namespace Go.Proofs.YtoefgnnkajhmiaaGreatDoor
open Go Go.Eng
def types:List (Nat × TI):=[
 (2,⟨1,8,false,[.d (.int .i64 0)],.int .i64,[]⟩),
 (3,⟨1,8,false,[.d (.int .i64 0)],.int .i64,[]⟩),
 (4,⟨1,1,false,[.d .ff],.bool,[]⟩),
 (5,⟨1,1,false,[.d (.int .u8 0)],.int .u8,[]⟩),
 (6,⟨1,1,false,[.d (.int .u8 0)],.int .u8,[]⟩),
 (7,⟨4,24,true,[.d (.int .i64 0),.d (.int .i64 0),.d .ff,.d (.int .u8 0)],.struct [(0,2),(1,3),(2,4),(3,6)],[.int .i64,.int .i64,.bool,.int .u8]⟩),
 (9,⟨1,16,false,[.d (.str [])],.str,[]⟩),
 (17,⟨1,8,false,[.v (.pointer none)],.ptr 267,[]⟩),
 (18,⟨1,8,true,[.v (.pointer none)],.struct [(0,17)],[]⟩),
 (19,⟨1,8,true,[.v (.pointer none)],.struct [(0,17)],[]⟩),
 (21,⟨1,4,false,[.d (.int .i32 0)],.int .i32,[]⟩),
 (22,⟨1,24,false,[nilS],.slice 58,[]⟩),
 (23,⟨1,24,false,[nilS],.slice 32,[]⟩),
 (24,⟨2,48,true,[nilS,nilS],.struct [(0,22),(1,23)],[]⟩),
 (25,⟨2,48,true,[nilS,nilS],.struct [(0,22),(1,23)],[]⟩),
 (26,⟨1,8,false,[.v .nilFunc],.other,[]⟩),
 (28,⟨1,24,false,[nilS],.slice 25,[]⟩),
 (29,⟨1,4,false,[.d (.int .u32 0)],.int .u32,[]⟩),
 (30,⟨1,24,false,[nilS],.slice 3,[]⟩),
 (31,⟨2,32,true,[.d (.int .u32 0),nilS],.struct [(0,29),(1,30)],[]⟩),
 (32,⟨2,32,true,[.d (.int .u32 0),nilS],.struct [(0,29),(1,30)],[]⟩),
 (33,⟨1,8,false,[.d (.int .i64 0)],.int .i64,[]⟩),
 (35,⟨1,8,false,[.v .nilFunc],.other,[]⟩),
 (37,⟨1,8,false,[.v .nilFunc],.other,[]⟩),
 (38,⟨1,8,false,[.v .nilFunc],.other,[]⟩),
 (39,⟨1,8,false,[.v .nilFunc],.other,[]⟩),
 (40,⟨1,8,false,[.v .nilFunc],.other,[]⟩),
 (41,⟨1,8,false,[.v .nilFunc],.other,[]⟩),
 (42,⟨1,2,false,[.d (.int .u16 0)],.int .u16,[]⟩),
 (43,⟨1,2,false,[.d (.int .u16 0)],.int .u16,[]⟩),
 (44,⟨3,24,true,[.d (.str []),.d (.int .u16 0),.d (.int .u16 0)],.struct [(0,9),(1,43),(2,42)],[.str,.int .u16,.int .u16]⟩),
 (45,⟨3,24,true,[.d (.str []),.d (.int .u16 0),.d (.int .u16 0)],.struct [(0,9),(1,43),(2,42)],[.str,.int .u16,.int .u16]⟩),
 (46,⟨1,24,false,[nilS],.slice 49,[]⟩),
 (47,⟨1,24,false,[nilS],.slice 9,[]⟩),
 (48,⟨4,48,true,[.d (.str []),.d (.int .u16 0),.d (.int .u32 0),nilS],.struct [(0,9),(1,43),(2,29),(3,47)],[]⟩),
 (49,⟨4,48,true,[.d (.str []),.d (.int .u16 0),.d (.int .u32 0),nilS],.struct [(0,9),(1,43),(2,29),(3,47)],[]⟩),
 (50,⟨6,80,true,[.d (.int .i64 0),nilS,.d (.str []),.d (.int .u16 0),.d (.int .u32 0),nilS],.struct [(0,3),(1,46),(2,49)],[]⟩),
 (51,⟨6,80,true,[.d (.int .i64 0),nilS,.d (.str []),.d (.int .u16 0),.d (.int .u32 0),nilS],.struct [(0,3),(1,46),(2,49)],[]⟩),
 (53,⟨1,8,false,[.v .nilFunc],.other,[]⟩),
 (54,⟨1,8,false,[.v .nilFunc],.other,[]⟩),
 (55,⟨1,8,false,[.v .nilFunc],.other,[]⟩),
 (56,⟨1,24,false,[nilS],.slice 62,[]⟩),
 (57,⟨2,40,true,[.d (.str []),nilS],.struct [(0,9),(1,56)],[]⟩),
 (58,⟨2,40,true,[.d (.str []),nilS],.struct [(0,9),(1,56)],[]⟩),
 (59,⟨1,8,false,[.v .nilFunc],.other,[]⟩),
 (60,⟨1,24,false,[nilS],.slice 5,[]⟩),
 (61,⟨5,40,true,[.d (.str []),.d (.int .u16 0),.d (.int .u16 0),.d (.int .u32 0),.d (.str [])],.struct [(0,9),(1,43),(2,42),(3,29),(4,9)],[.str,.int .u16,.int .u16,.int .u32,.str]⟩),
 (62,⟨5,40,true,[.d (.str []),.d (.int .u16 0),.d (.int .u16 0),.d (.int .u32 0),.d (.str [])],.struct [(0,9),(1,43),(2,42),(3,29),(4,9)],[.str,.int .u16,.int .u16,.int .u32,.str]⟩),
 (63,⟨1,8,false,[.v (.pointer none)],.ptr 65,[]⟩),
 (64,⟨2,32,true,[.v (.pointer none),nilS],.struct [(0,63),(1,60)],[]⟩),
 (65,⟨2,32,true,[.v (.pointer none),nilS],.struct [(0,63),(1,60)],[]⟩),
 (67,⟨1,8,false,[.v .nilFunc],.other,[]⟩),
 (70,⟨1,16,false,[.v .nilIface],.iface,[]⟩),
 (75,⟨1,8,false,[.v .nilFunc],.other,[]⟩),
 (76,⟨1,8,false,[.v .nilFunc],.other,[]⟩),
 (77,⟨1,8,false,[.v .nilFunc],.other,[]⟩),
 (78,⟨2,48,true,[nilS,nilS],.struct [(0,25)],[]⟩),
 (79,⟨2,48,true,[nilS,nilS],.struct [(0,25)],[]⟩),
 (81,⟨1,8,false,[.v .nilFunc],.other,[]⟩),
 (82,⟨1,8,false,[.v .nilFunc],.other,[]⟩),
 (84,⟨1,8,false,[.v .nilFunc],.other,[]⟩),
 (86,⟨1,8,false,[.v .nilFunc],.other,[]⟩),
 (89,⟨1,8,false,[.v .nilFunc],.other,[]⟩),
 (92,⟨1,8,false,[.v .nilFunc],.other,[]⟩),
 (93,⟨1,8,false,[.v (.map none)],.map 9 3,[]⟩),
 (99,⟨1,8,false,[.v .nilFunc],.other,[]⟩),
 (100,⟨1,8,false,[.v .nilFunc],.other,[]⟩),
 (102,⟨1,8,false,[.v .nilFunc],.other,[]⟩),
 (103,⟨1,8,false,[.v .nilFunc],.other,[]⟩),
 (104,⟨1,8,false,[.v .nilFunc],.other,[]⟩),
 (105,⟨1,8,false,[.v (.pointer none)],.ptr 5,[]⟩),
 (106,⟨1,8,false,[.v .nilFunc],.other,[]⟩),
 (107,⟨1,8,false,[.v .nilFunc],.other,[]⟩),
 (108,⟨1,8,false,[.v .nilFunc],.other,[]⟩),
 (111,⟨1,8,false,[.v .nilFunc],.other,[]⟩),
 (112,⟨1,8,false,[.v .nilFunc],.other,[]⟩),
 (113,⟨1,8,false,[.v (.pointer none)],.ptr 79,[]⟩),
 (115,⟨1,8,false,[.v .nilFunc],.other,[]⟩),
 (119,⟨1,8,false,[.v .nilFunc],.other,[]⟩),
 (121,⟨1,8,false,[.v .nilFunc],.other,[]⟩),
 (123,⟨1,8,false,[.v .nilFunc],.other,[]⟩),
 (124,⟨1,8,false,[.v .nilFunc],.other,[]⟩),
 (125,⟨1,8,false,[.v (.map none)],.map 191 3,[]⟩),
 (126,⟨1,8,false,[.v (.map none)],.map 9 193,[]⟩),
 (127,⟨4,56,true,[.d (.str []),nilS,.v (.map none),.v (.map none)],.struct [(0,58),(2,125),(3,126)],[]⟩),
 (128,⟨4,56,true,[.d (.str []),nilS,.v (.map none),.v (.map none)],.struct [(0,58),(2,125),(3,126)],[]⟩),
 (130,⟨1,8,false,[.v .nilFunc],.other,[]⟩),
 (132,⟨1,8,false,[.v .nilFunc],.other,[]⟩),
 (134,⟨1,8,false,[.v .nilFunc],.other,[]⟩),
 (136,⟨1,8,false,[.v .nilFunc],.other,[]⟩),
 (137,⟨1,8,false,[.d (.int .u64 0)],.int .u64,[]⟩),
 (141,⟨1,8,false,[.v (.pointer none)],.other,[]⟩),
 (145,⟨1,8,false,[.v .nilFunc],.other,[]⟩),
 (146,⟨1,8,false,[.v .nilFunc],.other,[]⟩),
 (149,⟨1,8,false,[.v (.pointer none)],.ptr 58,[]⟩),
 (150,⟨1,8,false,[.v .nilFunc],.other,[]⟩),
 (151,⟨1,8,false,[.v (.map none)],.map 152 3,[]⟩),
 (152,⟨2,16,true,[.d (.int .i64 0),.d (.int .i64 0)],.array 2 3,[.int .i64,.int .i64]⟩),
 (154,⟨1,8,false,[.v (.map none)],.map 29 3,[]⟩),
 (155,⟨1,8,false,[.v .nilFunc],.other,[]⟩),
 (158,⟨1,8,false,[.v .nilFunc],.other,[]⟩),
 (161,⟨1,8,false,[.v .nilFunc],.other,[]⟩),
 (164,⟨1,8,false,[.v .nilFunc],.other,[]⟩),
 (167,⟨3,24,true,[.d (.int .i64 0),.d (.int .i64 0),.d (.int .i64 0)],.struct [(0,3),(1,3),(2,3)],[.int .i64,.int .i64,.int .i64]⟩),
 (168,⟨3,24,true,[.d (.int .i64 0),.d (.int .i64 0),.d (.int .i64 0)],.struct [(0,3),(1,3),(2,3)],[.int .i64,.int .i64,.int .i64]⟩),
 (169,⟨3,56,true,[.d (.str []),nilS,.d (.str [])],.struct [(0,9),(1,47),(2,9)],[]⟩),
 (170,⟨3,56,true,[.d (.str []),nilS,.d (.str [])],.struct [(0,9),(1,47),(2,9)],[]⟩),
 (172,⟨1,8,false,[.v .nilFunc],.other,[]⟩),
 (173,⟨1,8,false,[.d (.int .u64 0)],.int .u64,[]⟩),
 (174,⟨1,8,false,[.v .nilFunc],.other,[]⟩),
 (176,⟨1,8,false,[.v .nilFunc],.other,[]⟩),
 (178,⟨1,8,false,[.v .nilFunc],.other,[]⟩),
 (181,⟨1,8,false,[.v .nilFunc],.other,[]⟩),
 (182,⟨1,8,false,[.v .nilFunc],.other,[]⟩),
 (187,⟨1,8,false,[.v .nilFunc],.other,[]⟩),
 (189,⟨1,8,false,[.v (.pointer none)],.ptr 128,[]⟩),
 (190,⟨4,40,true,[.d (.str []),.d (.int .u16 0),.d (.int .u16 0),.d (.str [])],.struct [(0,9),(1,43),(2,42),(3,9)],[.str,.int .u16,.int .u16,.str]⟩),
 (191,⟨4,40,true,[.d (.str []),.d (.int .u16 0),.d (.int .u16 0),.d (.str [])],.struct [(0,9),(1,43),(2,42),(3,9)],[.str,.int .u16,.int .u16,.str]⟩),
 (192,⟨5,40,true,[.d (.int .i64 0),.d (.int .i64 0),.d (.int .i64 0),.d (.int .i64 0),.d (.int .i64 0)],.struct [(0,3),(1,3),(2,3),(3,3),(4,3)],[.int .i64,.int .i64,.int .i64,.int .i64,.int .i64]⟩),
 (193,⟨5,40,true,[.d (.int .i64 0),.d (.int .i64 0),.d (.int .i64 0),.d (.int .i64 0),.d (.int .i64 0)],.struct [(0,3),(1,3),(2,3),(3,3),(4,3)],[.int .i64,.int .i64,.int .i64,.int .i64,.int .i64]⟩),
 (194,⟨1,8,false,[.v .nilFunc],.other,[]⟩),
 (196,⟨1,8,false,[.v .nilFunc],.other,[]⟩),
 (199,⟨1,8,false,[.v .nilFunc],.other,[]⟩),
 (201,⟨1,8,false,[.v .nilFunc],.other,[]⟩),
 (203,⟨1,8,false,[.v .nilFunc],.other,[]⟩),
 (204,⟨24,24,true,[.d (.int .u8 0),.d (.int .u8 0),.d (.int .u8 0),.d (.int .u8 0),.d (.int .u8 0),.d (.int .u8 0),.d (.int .u8 0),.d (.int .u8 0),.d (.int .u8 0),.d (.int .u8 0),.d (.int .u8 0),.d (.int .u8 0),.d (.int .u8 0),.d (.int .u8 0),.d (.int .u8 0),.d (.int .u8 0),.d (.int .u8 0),.d (.int .u8 0),.d (.int .u8 0),.d (.int .u8 0),.d (.int .u8 0),.d (.int .u8 0),.d (.int .u8 0),.d (.int .u8 0)],.array 24 5,[.int .u8,.int .u8,.int .u8,.int .u8,.int .u8,.int .u8,.int .u8,.int .u8,.int .u8,.int .u8,.int .u8,.int .u8,.int .u8,.int .u8,.int .u8,.int .u8,.int .u8,.int .u8,.int .u8,.int .u8,.int .u8,.int .u8,.int .u8,.int .u8]⟩),
 (205,⟨1,8,false,[.v .nilFunc],.other,[]⟩),
 (210,⟨1,8,false,[.v .nilFunc],.other,[]⟩),
 (211,⟨1,8,false,[.d (.int .i64 0)],.int .i64,[]⟩),
 (212,⟨1,8,false,[.v (.pointer none)],.ptr 231,[]⟩),
 (216,⟨1,24,false,[nilS],.slice 218,[]⟩),
 (217,⟨2,40,true,[.d (.str []),nilS],.struct [(0,9),(1,47)],[]⟩),
 (218,⟨2,40,true,[.d (.str []),nilS],.struct [(0,9),(1,47)],[]⟩),
 (221,⟨1,8,false,[.v .nilFunc],.other,[]⟩),
 (224,⟨1,8,false,[.v .nilFunc],.other,[]⟩),
 (225,⟨20,160,true,[.d (.int .u64 0),.d (.int .u64 0),.d (.int .u64 0),.d (.int .u64 0),.d (.int .u64 0),.d (.int .u64 0),.d (.int .u64 0),.d (.int .u64 0),.d (.int .u64 0),.d (.int .u64 0),.d (.int .u64 0),.d (.int .u64 0),.d (.int .u64 0),.d (.int .u64 0),.d (.int .u64 0),.d (.int .u64 0),.d (.int .u64 0),.d (.int .u64 0),.d (.int .u64 0),.d (.int .u64 0)],.array 20 137,[.int .u64,.int .u64,.int .u64,.int .u64,.int .u64,.int .u64,.int .u64,.int .u64,.int .u64,.int .u64,.int .u64,.int .u64,.int .u64,.int .u64,.int .u64,.int .u64,.int .u64,.int .u64,.int .u64,.int .u64]⟩),
 (227,⟨1,8,false,[.v .nilFunc],.other,[]⟩),
 (230,⟨3,48,true,[.d (.str []),.d (.str []),.v .nilIface],.struct [(0,9),(1,9),(2,70)],[]⟩),
 (231,⟨3,48,true,[.d (.str []),.d (.str []),.v .nilIface],.struct [(0,9),(1,9),(2,70)],[]⟩),
 (239,⟨1,8,false,[.v .nilFunc],.other,[]⟩),
 (240,⟨1,8,false,[.v (.pointer none)],.ptr 242,[]⟩),
 (241,⟨1,16,true,[.d (.str [])],.struct [(0,9)],[.str]⟩),
 (242,⟨1,16,true,[.d (.str [])],.struct [(0,9)],[.str]⟩),
 (244,⟨1,8,false,[.v .nilFunc],.other,[]⟩),
 (250,⟨1,8,false,[.v .nilFunc],.other,[]⟩),
 (252,⟨2,2,true,[.d (.int .u8 0),.d (.int .u8 0)],.struct [(0,5),(1,5)],[.int .u8,.int .u8]⟩),
 (253,⟨2,2,true,[.d (.int .u8 0),.d (.int .u8 0)],.struct [(0,5),(1,5)],[.int .u8,.int .u8]⟩),
 (255,⟨4,40,true,[.v (.pointer none),.v (.pointer none),.v (.pointer none),.d (.str [])],.struct [(0,17),(1,17),(2,17),(3,9)],[]⟩),
 (261,⟨1,1,false,[.d (.int .u8 0)],.int .u8,[]⟩),
 (262,⟨1,1,false,[.d (.int .u8 0)],.int .u8,[]⟩),
 (264,⟨1,4,false,[.d (.int .i32 0)],.int .i32,[]⟩),
 (265,⟨1,4,false,[.d (.int .i32 0)],.int .i32,[]⟩),
 (267,⟨11,48,true,[.d (.int .u64 0),.d (.int .u64 0),.d (.int .u32 0),.d (.int .u8 0),.d (.int .u8 0),.d (.int .u8 0),.d (.int .u8 0),.v .nilFunc,.v (.pointer none),.d (.int .i32 0),.d (.int .i32 0)],.struct [(0,12),(1,12),(2,29),(3,261),(4,5),(5,5),(6,262),(7,263),(8,105),(9,264),(10,265)],[]⟩)]
def TT(n:Nat):Option TI:=Eng.look types n
set_option maxRecDepth 100000 in
theorem qk:TTok Tryz.prog TT:=js0 (P:=Tryz.prog) (l:=types) (by kernel_rfl)
theorem mixed:Tryz.prog.follows .mixedOrders=true:=by kernel_rfl
def bt(s:List UInt8)(k:Nat):Nat:=(s[k]?.getD 0).toNat
theorem yn(s:List UInt8)(k:Nat):je s (k:Int)=(bt s k:Int):=by
 unfold je bt;simp
theorem qb4(s:List UInt8)(k:Nat):bt s k<256:=UInt8.toNat_lt _
def more(s:List UInt8)(k:Nat):Prop:=k<s.length/\¬ bt s k=0/\bt s k<=63/\bt s k<s.length - k
instance (s:List UInt8) (k:Nat):Decidable (more s k):=by unfold more;infer_instance
def kh(s:List UInt8):Nat->Nat->Nat
 |0,k=>k
 |m+1,k=>if more s k then kh s m (k+1+bt s k) else k
def lastOf(s:List UInt8):Nat:=kh s s.length 0
def At(s:List UInt8)(k:Nat):Prop:=k<=s.length/\∃ m,s.length<=k+m/\kh s m k=lastOf s
theorem At.zero(s:List UInt8):At s 0:=⟨p6 _,s.length,by omega,rfl⟩
theorem At.next{s:List UInt8}{k:Nat}(h:At s k)(hm:more s k):At s (k+1+bt s k):=by
 obtain⟨h1,m,h2,h3⟩:=h
 have:=hm
 obtain⟨a1,a2,a3,a4⟩:=this
 cases m with
 |zero=>omega
 |succ m=>exact⟨by omega,m,by omega,by rw[<-h3];simp[kh,hm]⟩
theorem At.last{s:List UInt8}{k:Nat}(h:At s k)(hm:¬ more s k):k=lastOf s:=by
 obtain⟨h1,m,h2,h3⟩:=h
 rw[<-h3]
 cases m <;> simp[kh,hm]
def qc(s:List UInt8):Prop:=0<s.length/\s.length<=255/\lastOf s=s.length - 1/\bt s (lastOf s)=0
instance (s:List UInt8):Decidable (qc s):=by unfold qc;infer_instance
theorem qd(n:Int)(h : -9223372036854775808<=n/\n<=9223372036854775807):IntKind.i64.wrap n=n:=by rw[IntKind.wrap_i64];omega
theorem w64s(i:Nat)(h:i<9223372036854775807):IntKind.i64.wrap ((i:Int)+1)=((i+1:Nat):Int):=by rw[qd _ (by omega)];omega
theorem y7(s:List UInt8):FnOk Tryz.prog 71 [.d (.str s)] (.d (.int .i64 (if qc s then 0 else 2))):=by
 refine qz (TT:=TT) (IN:=qi [(107,Tryz.f107,1),(139,Tryz.f139,2)]) qk ?_ mixed 1000 Tryz.func71 rfl (qe Tryz.func71 (by kernel_rfl) rfl) rfl 27 (by kernel_rfl) ?_
 ·exact ju (ju qm Tryz.func139 (by kernel_rfl) (by kernel_rfl)) Tryz.func107 (by kernel_rfl) (by kernel_rfl)
 conv=>whnf
 refine⟨fun h1=>?_,fun h1=>?_⟩
 ·have:¬ qc s:=fun hn=>by have a:=hn.1;simp at h1;rw [h1] at a;simp at a
  exact congrArg (DV.int _) (by rw[if_neg this])
 have hpos:0<s.length:=by
  rcases gz s.length with e|e
  ·rw [e] at h1;cases h1
  ·exact e
 conv=>whnf
 refine⟨fun h2=>?_,fun h2=>?_⟩
 ·have:¬ qc s:=fun hn=>by have a:=hn.2.1;simp at h2;omega
  exact congrArg (DV.int _) (by rw[if_neg this])
 have hlen:s.length<=255:=by simp at h2;omega
 conv=>whnf
 refine .inv Nat (fun k=>At s k) (fun k=>[(3,.d (.int .i64 k))]) (fun k=>[(0,.cells 3 [.d (.int .i64 k)])]) (fun k=>s.length - k) ⟨0,[0,1,2],At.zero s,?_⟩ ?_
 ·conv=>whnf
  repeat'(first|exact ⟨⟩|exact rfl|apply And.intro)
 intro k hk
 have hkl:=hk.1
 have hby:=qb4 s k
 have hwb:IntKind.i64.wrap (je s (k:Int))=(bt s k:Int):=by rw[yn,qd _ (by omega)]
 have hwl:IntKind.i64.wrap ((s.length:Int) - 1)=(s.length:Int) - 1:=qd _ (by omega)
 have key1:¬ more s k->(((k:Int) != IntKind.i64.wrap ((s.length:Int) - 1))=true)->¬ qc s:=fun hm hne hn=>by
  have:=hk.last hm
  obtain⟨_,_,a,_⟩:=hn
  rw [hwl] at hne
  simp at hne
  omega
 have key2:¬ more s k->(((k:Int) != IntKind.i64.wrap ((s.length:Int) - 1))=false)->(bt s k=0↔qc s)/\k<s.length:=fun hm hne=>by
  have:=hk.last hm
  rw [hwl] at hne
  simp at hne
  unfold qc
  rw[<-this]
  omega
 conv=>whnf
 refine⟨fun hlt=>?_,fun hge=>?_⟩
 ·have hlt':k<s.length:=by simpa using hlt
  conv=>whnf
  refine⟨by simp;omega,?_⟩
  conv=>whnf
  refine⟨fun h0=>?_,fun h0=>?_⟩
  ·have hm:¬ more s k:=fun hm=>by rw [hwb] at h0;simp at h0;exact hm.2.1 h0
   conv=>whnf
   refine⟨fun e=>congrArg (DV.int _) (by rw[if_neg (key1 hm e)]),fun e=>?_⟩
   obtain⟨e1,e2⟩:=key2 hm e
   conv=>whnf
   refine⟨by simp;omega,?_⟩
   conv=>whnf
   refine⟨fun hz=>?_,fun hz=>?_⟩
   ·exact congrArg (DV.int _) (by rw [if_neg (fun hn=>by rw [yn] at hz;simp at hz;exact hz (e1.2 hn))])
   ·exact congrArg (DV.int _) (by rw [if_pos (e1.1 (by rw [yn] at hz;simpa using hz))])
  ·have h0':¬ bt s k=0:=by rw [hwb] at h0;simpa using h0
   conv=>whnf
   refine⟨fun h3=>?_,fun h3=>?_⟩
   ·have hm:¬ more s k:=fun hm=>by rw [hwb] at h3;simp at h3;have:=hm.2.2.1;omega
    conv=>whnf
    refine⟨fun e=>congrArg (DV.int _) (by rw[if_neg (key1 hm e)]),fun e=>?_⟩
    obtain⟨e1,e2⟩:=key2 hm e
    conv=>whnf
    refine⟨by simp;omega,?_⟩
    conv=>whnf
    refine⟨fun hz=>?_,fun hz=>?_⟩
    ·exact congrArg (DV.int _) (by rw [if_neg (fun hn=>by rw [yn] at hz;simp at hz;exact hz (e1.2 hn))])
    ·exact congrArg (DV.int _) (by rw [if_pos (e1.1 (by rw [yn] at hz;simpa using hz))])
   ·have h3':bt s k<=63:=by rw [hwb] at h3;simp at h3;omega
    conv=>whnf
    have hws:IntKind.i64.wrap ((s.length:Int) - (k:Int))=(s.length:Int) - k:=qd _ (by omega)
    refine⟨fun h4=>?_,fun h4=>?_⟩
    ·have hm:¬ more s k:=fun hm=>by rw [hwb,hws] at h4;simp at h4;have:=hm.2.2.2;omega
     conv=>whnf
     refine⟨fun e=>congrArg (DV.int _) (by rw[if_neg (key1 hm e)]),fun e=>?_⟩
     obtain⟨e1,e2⟩:=key2 hm e
     conv=>whnf
     refine⟨by simp;omega,?_⟩
     conv=>whnf
     refine⟨fun hz=>?_,fun hz=>?_⟩
     ·exact congrArg (DV.int _) (by rw [if_neg (fun hn=>by rw [yn] at hz;simp at hz;exact hz (e1.2 hn))])
     ·exact congrArg (DV.int _) (by rw [if_pos (e1.1 (by rw [yn] at hz;simpa using hz))])
    ·have hm:more s k:=⟨hlt',h0',h3',by rw [hwb,hws] at h4;simp at h4;omega⟩
     conv=>whnf
     refine⟨k+1+bt s k,[0,1,2],hk.next hm,by show s.length - (k+1+bt s k)<s.length - k;omega,?_⟩
     have hnx:IntKind.i64.wrap ((k:Int)+IntKind.i64.wrap (1+IntKind.i64.wrap (je s (k:Int))))=((k+1+bt s k:Nat):Int):=by rw[hwb,qd (1+(bt s k:Int)) (by omega),qd _ (by omega)];omega
     conv=>whnf
     repeat'(first|exact ⟨⟩|exact rfl|apply And.intro)
     all_goals exact congrArg SV.d (congrArg (DV.int _) hnx)
 ·have hm:¬ more s k:=fun hm=>by have:=hm.1;simp at hge;omega
  conv=>whnf
  refine⟨fun e=>congrArg (DV.int _) (by rw[if_neg (key1 hm e)]),fun e=>?_⟩
  obtain⟨e1,e2⟩:=key2 hm e
  conv=>whnf
  refine⟨by simp;omega,?_⟩
  conv=>whnf
  refine⟨fun hz=>?_,fun hz=>?_⟩
  ·exact congrArg (DV.int _) (by rw [if_neg (fun hn=>by rw [yn] at hz;simp at hz;exact hz (e1.2 hn))])
  ·exact congrArg (DV.int _) (by rw [if_pos (e1.1 (by rw [yn] at hz;simpa using hz))])
def low(b:UInt8):UInt8:=if 65<=b/\b<=90 then b+32 else b
def fold(s:List UInt8):List UInt8:=s.map low
theorem qp0(b:UInt8):(low b).toNat=if 65<=b.toNat/\b.toNat<=90 then b.toNat+32 else b.toNat:=by
 unfold low
 have e1:(65<=b)↔65<=b.toNat:=by rw[UInt8.le_iff_toNat_le];rfl
 have e2:(b<=90)↔b.toNat<=90:=by rw[UInt8.le_iff_toNat_le];rfl
 simp only[e1,e2]
 split
 ·rw[UInt8.toNat_add]
  have:(32:UInt8).toNat=32:=rfl
  omega
 ·rfl
def mix(s:List UInt8)(k j:Nat):Int:=if j<k then ((low (s[j]?.getD 0)).toNat:Int) else (bt s j:Int)
theorem x5(s:List UInt8)(hs:s.length<9223372036854775808):FnOk Tryz.prog 67 [.d (.str s)] (.d (.str (fold s))):=by
 refine qz (TT:=TT) (IN:=qi []) qk qm mixed 1000 Tryz.func67 rfl (qe Tryz.func67 (by kernel_rfl) rfl) rfl 28 (by kernel_rfl) ?_
 conv=>whnf
 refine .inv Nat (fun k=>k<=s.length) (fun k=>[(10,.d (.int .i64 k))]) (fun k=>[(0,.row 5 1 s.length .no (fun j=>[.int .u8 (mix s k j)]))]) (fun k=>s.length - k) ⟨0,[0],by omega,?_⟩ ?_
 ·conv=>whnf
  repeat'(first|exact ⟨⟩|exact rfl|apply And.intro)
  intro i hi
  simp[mix,yn]
 intro k hk
 have hk1:k<s.length->IntKind.i64.wrap ((k:Int)+1)=((k+1:Nat):Int):=fun _=>by rw[qd _ (by omega)];omega
 conv=>whnf
 refine⟨fun hlt=>?_,fun hge=>?_⟩
 ·have hlt':k<s.length:=by simpa using hlt
  conv=>whnf
  refine⟨by simp;omega,?_⟩
  have hmk:mix s k (Int.toNat (k:Int))=(bt s k:Int):=by simp[mix]
  have hb:=qb4 s k
  conv=>whnf
  have stay:¬ (65<=bt s k/\bt s k<=90)->∀ i,i<s.length->[DV.int IntKind.u8 (mix s k i)]=[DV.int IntKind.u8 (mix s (k+1) i)]:=fun hn i hi=>by
   unfold mix
   by_cases e:i=k
   ·subst e
    rw [if_neg (by omega),if_pos (by omega),qp0,if_neg (by unfold bt at hn;exact hn)]
    rfl
   ·by_cases e2:i<k
    ·rw[if_pos e2,if_pos (by omega)]
    ·rw[if_neg e2,if_neg (by omega)]
  rw[hmk]
  refine⟨fun h1=>?_,fun h1=>?_⟩
  ·conv=>whnf
   refine⟨fun h2=>?_,fun h2=>?_⟩
   ·conv=>whnf
    refine⟨by simp;omega,?_⟩
    conv=>whnf
    refine⟨k+1,[0],by omega,by show s.length - (k+1)<s.length - k;omega,?_⟩
    conv=>whnf
    repeat'(first|exact ⟨⟩|exact rfl|apply And.intro)
    all_goals first
     |exact congrArg SV.d (congrArg (DV.int _) (hk1 hlt'))
     |exact stay (by simp at h1 h2;omega)
     |(
      intro i hi
      show oneF _ _ _ _ i=_
      unfold oneF mix
      simp at h1 h2
      by_cases e:i=k
      ·subst e
       simp only[pz,if_true,putD,s8]
       rw [if_pos (by omega),qp0,if_pos (by unfold bt at h1 h2;omega),du]
       unfold bt at *
       congr 2
       omega
      ·rw[if_neg (by simpa using e)]
       show[DV.int _ _]=[DV.int _ _]
       by_cases e2:i<k
       ·rw[if_pos e2,if_pos (by omega)]
       ·rw[if_neg e2,if_neg (by omega)])
   ·conv=>whnf
    refine⟨k+1,[0],by omega,by show s.length - (k+1)<s.length - k;omega,?_⟩
    conv=>whnf
    repeat'(first|exact ⟨⟩|exact rfl|apply And.intro)
    all_goals first
     |exact congrArg SV.d (congrArg (DV.int _) (hk1 hlt'))
     |exact stay (by simp at h1 h2;omega)
     |(
      intro i hi
      show oneF _ _ _ _ i=_
      unfold oneF mix
      simp at h1 h2
      by_cases e:i=k
      ·subst e
       simp only[pz,if_true,putD,s8]
       rw [if_pos (by omega),qp0,if_pos (by unfold bt at h1 h2;omega),du]
       unfold bt at *
       congr 2
       omega
      ·rw[if_neg (by simpa using e)]
       show[DV.int _ _]=[DV.int _ _]
       by_cases e2:i<k
       ·rw[if_pos e2,if_pos (by omega)]
       ·rw[if_neg e2,if_neg (by omega)])
  ·conv=>whnf
   refine⟨k+1,[0],by omega,by show s.length - (k+1)<s.length - k;omega,?_⟩
   conv=>whnf
   repeat'(first|exact ⟨⟩|exact rfl|apply And.intro)
   all_goals first
    |exact congrArg SV.d (congrArg (DV.int _) (hk1 hlt'))
    |exact stay (by simp at h1;omega)
    |(
     intro i hi
     show oneF _ _ _ _ i=_
     unfold oneF mix
     simp at h1
     by_cases e:i=k
     ·subst e
      simp only[pz,if_true,putD,s8]
      rw [if_pos (by omega),qp0,if_pos (by unfold bt at h1;omega),du]
      unfold bt at *
      congr 2
      omega
     ·rw[if_neg (by simpa using e)]
      show[DV.int _ _]=[DV.int _ _]
      by_cases e2:i<k
      ·rw[if_pos e2,if_pos (by omega)]
      ·rw[if_neg e2,if_neg (by omega)])
 ·have hke:k=s.length:=by simp at hge;omega
  subst hke
  conv=>whnf
  refine⟨fun i _=>⟨_,rfl⟩,?_⟩
  conv=>whnf
  refine congrArg DV.str ?_
  unfold j9 fold
  apply cn
  intro i
  rw[o5,o5]
  by_cases hi:i<s.length
  ·rw[bw hi,pp hi]
   simp[mix,hi]
  ·rw[l7 (by simp;omega),l7 (by omega)]
   rfl
def qa2(s:List UInt8):Nat->Nat->Nat
 |0,_=>0
 |m+1,k=>if k<s.length/\k<255 then (if bt s k=0 then (if qc (s.take (k+1)) then k+1 else 0) else qa2 s m (k+1+bt s k)) else 0
def zo(s:List UInt8):Nat:=qa2 s 256 0
def FAt(s:List UInt8)(k:Nat):Prop:=k<=510/\∃ m,256<=k+m/\qa2 s m k=zo s
theorem FAt.zero(s:List UInt8):FAt s 0:=⟨by omega,256,by omega,rfl⟩
theorem FAt.step{s:List UInt8}{k:Nat}(h:FAt s k)(h1:k<s.length)(h2:k<255):(zo s=if bt s k=0 then (if qc (s.take (k+1)) then k+1 else 0) else zo s)/\(bt s k≠0->FAt s (k+1+bt s k)):=by
 obtain⟨hk,m,hm,e⟩:=h
 cases m with
 |zero=>omega
 |succ m =>
  simp only [qa2,h1,h2,and_self,if_true] at e
  have:=qb4 s k
  refine⟨?_,fun hb=>⟨by omega,m,by omega,?_⟩⟩
  ·split
   ·rename_i hb;rw [if_pos hb] at e;exact e.symm
   ·rfl
  ·rw [if_neg hb] at e;exact e
theorem FAt.last{s:List UInt8}{k:Nat}(h:FAt s k)(h1:¬ (k<s.length/\k<255)):zo s=0:=by
 obtain⟨hk,m,hm,e⟩:=h
 rw[<-e]
 cases m with
 |zero=>rfl
 |succ m=>simp only[qa2,if_neg h1]
theorem brT{b:Bool}{p q:Prop}(h:b=true)(hp:p):(b=true->p)/\(b=false->q):=⟨fun _=>hp,fun e=>(by rw [h] at e;cases e)⟩
theorem brF{b:Bool}{p q:Prop}(h:b=false)(hq:q):(b=true->p)/\(b=false->q):=⟨fun e=>(by rw [h] at e;cases e),fun _=>hq⟩
def strs(l:List (List UInt8))(i:Nat):List DV:=[.str (l[i]?.getD [])]
theorem vi(l:List (List UInt8))(x:List UInt8)(g:Nat->List DV)(hg:g 0=[.str x]):∀ i,i<l.length+1->catF l.length (strs l) g i=strs (l++[x]) i:=fun i hi=>by
 unfold catF strs
 split
 ·rename_i h;rw[oo h]
 ·rename_i h
  have:i=l.length:=by omega
  subst this
  simp[hg]
theorem firstF_le(s:List UInt8):∀ m k,qa2 s m k<=s.length/\qa2 s m k<=255:=by
 intro m
 induction m with
 |zero=>intro k;simp[qa2]
 |succ m ih =>
  intro k
  simp only[qa2]
  split
  ·split
   ·split
    ·omega
    ·omega
   ·exact ih _
  ·omega
theorem firstN_le(s:List UInt8):zo s<=s.length/\zo s<=255:=firstF_le s _ _
def errno(b:Bool):Int:=if b then 0 else 2
theorem lenEq(s:List UInt8)(n:Nat):((s.length:Int) == (n:Int))=(s.length == n):=by
 rw[l5];simp;omega
theorem first_ok(s:List UInt8):FnOk Tryz.prog 179 [.d (.str s)] (.d (.int .i64 (zo s))):=by
 refine qz (TT:=TT) (IN:=qi []) qk qm mixed 1000 Tryz.func179 rfl (qe Tryz.func179 (by kernel_rfl) rfl) rfl 30 (by kernel_rfl) ?_
 conv=>whnf
 refine .inv Nat (fun k=>FAt s k) (fun k=>[(3,.d (.int .i64 k))]) (fun k=>[]) (fun k=>600 - k) ⟨0,[],FAt.zero s,?_⟩ ?_
 ·conv=>whnf
  repeat'(first|exact ⟨⟩|exact rfl|apply And.intro)
 intro k hk
 have hk1:=hk.1
 have hby:=qb4 s k
 conv=>whnf
 refine⟨fun hlt=>?_,fun hge=>?_⟩
 ·conv=>whnf
  refine⟨fun hlt2=>?_,fun hge2=>?_⟩
  ·have h1:k<s.length:=by simpa using hlt
   have h2:k<255:=by simp at hlt2;omega
   obtain⟨e1,e2⟩:=hk.step h1 h2
   conv=>whnf
   refine⟨by simp;omega,?_⟩
   conv=>whnf
   rw[yn]
   refine⟨fun hb=>?_,fun hb=>?_⟩
   ·have hb':bt s k≠0:=by simpa using hb
    conv=>whnf
    refine⟨by simp;omega,?_⟩
    conv=>whnf
    refine⟨k+1+bt s k,[],e2 hb',by show 600 - (k+1+bt s k)<600 - k;omega,?_⟩
    have hnx:IntKind.i64.wrap ((k:Int)+IntKind.i64.wrap (1+IntKind.i64.wrap (je s (k:Int))))=((k+1+bt s k:Nat):Int):=by simp(disch:=omega) only[yn,qd];omega
    conv=>whnf
    repeat'(first|exact ⟨⟩|exact rfl|apply And.intro)
    all_goals exact congrArg SV.d (congrArg (DV.int _) hnx)
   ·have hb':bt s k=0:=by simpa using hb
    rw [if_pos hb'] at e1
    have hw:=w64s k (by omega)
    conv=>whnf
    rw[hw]
    refine⟨by omega,?_⟩
    conv=>whnf
    refine oD (y7 _) rfl rfl ?_
    have hsub:sub s 0 ((k+1:Nat):Int)=s.take (k+1):=by simp[sub]
    rw[hsub]
    by_cases hn:qc (s.take (k+1))
    ·rw [if_pos hn] at e1 ⊢
     conv=>whnf
     refine brF (by decide) ?_
     conv=>whnf
     refine congrArg (DV.int _) ?_
     rw[e1,hw]
    ·rw [if_neg hn] at e1 ⊢
     conv=>whnf
     refine brT (by decide) ?_
     conv=>whnf
     exact congrArg (DV.int _) (by rw[e1];rfl)
  ·conv=>whnf
   exact congrArg (DV.int _) (by rw [hk.last (by simp at hge2;omega)];rfl)
 ·conv=>whnf
  exact congrArg (DV.int _) (by rw [hk.last (by simp at hge;omega)];rfl)
def textsF:Nat->List UInt8->Option (List (List UInt8))
 |_,[]=>some []
 |0,_ :: _=>none
 |m+1,a :: r=>if a.toNat<=r.length then (textsF m (r.drop a.toNat)).map (r.take a.toNat :: ·) else none
def qo3(s:List UInt8):Option (List (List UInt8)):=textsF s.length s
def qg4(s:List UInt8):Bool:=match qo3 s with
 |some l=>decide (0<l.length)
 |none=>false
def TAt(s:List UInt8)(k:Nat)(l:List (List UInt8)):Prop:=k<=s.length/\l.length<=k/\∃ m,s.length<=k+m/\(textsF m (s.drop k)).map (l ++ ·)=qo3 s
theorem TAt.zero(s:List UInt8):TAt s 0 []:=⟨p6 _,p6 _,s.length,by omega,by simp[qo3]⟩
theorem TAt.step{s:List UInt8}{k:Nat}{l:List (List UInt8)}(h:TAt s k l)(hk:k<s.length):(s.length<k+1+bt s k->qo3 s=none)/\(k+1+bt s k<=s.length->TAt s (k+1+bt s k) (l++[(s.drop (k+1)).take (bt s k)])):=by
 obtain⟨h1,h2,m,h3,h4⟩:=h
 have hd:s.drop k=s[k] :: s.drop (k+1):=l9 hk
 have hb:bt s k=s[k].toNat:=by simp[bt,hk]
 cases m with
 |zero=>omega
 |succ m =>
  rw [hd] at h4
  simp only [textsF,o6,<-hb] at h4
  refine⟨fun hlt=>?_,fun hle=>⟨hle,by simp;omega,m,by omega,?_⟩⟩
  ·rw [if_neg (by omega)] at h4
   simpa using h4.symm
  ·rw [if_pos (by omega),f6] at h4
   rw[<-h4]
   simp[Function.comp_def]
theorem TAt.last{s:List UInt8}{k:Nat}{l:List (List UInt8)}(h:TAt s k l)(hk:k=s.length):qo3 s=some l:=by
 obtain⟨h1,h2,m,h3,h4⟩:=h
 rw[<-h4,hk,c7]
 cases m <;> simp[textsF]
theorem texts_ok(s:List UInt8)(hs:s.length<=4096):FnOk Tryz.prog 149 [.d (.str s)] (.tup [.any,.d (.bool (qg4 s))]):=by
 refine qz (TT:=TT) (IN:=qi []) qk qm mixed 1000 Tryz.func149 rfl (qe Tryz.func149 (by kernel_rfl) rfl) rfl 28 (by kernel_rfl) ?_
 conv=>whnf
 refine .nilT 4 9 1 (fun _=>[]) _ _ rfl ?_
 conv=>whnf
 refine .inv (Nat × List (List UInt8)) (fun p=>TAt s p.1 p.2) (fun p=>[(0,.d (.str (s.drop p.1))),(4,.all 0)]) (fun p=>[(0,.row 9 1 p.2.length .iff (strs p.2))]) (fun p=>s.length - p.1) ⟨(0,[]),[0],TAt.zero s,?_⟩ ?_
 ·conv=>whnf
  repeat'(first|exact ⟨⟩|exact rfl|apply And.intro)
  intro i hi
  exact absurd hi (by simp)
 intro p hk
 have hk0:p.1<=s.length:=hk.1
 have hk2:p.2.length<=p.1:=hk.2.1
 have hby:=qb4 s p.1
 have hlen:(s.drop p.1).length=s.length - p.1:=by simp
 conv=>whnf
 refine⟨fun hne=>?_,fun heq=>?_⟩
 ·have hlt:p.1<s.length:=by
   rcases ot p.1 s.length with e|e
   ·exact e
   ·rw [bx e] at hne;simp at hne
  obtain⟨e1,e2⟩:=TAt.step hk hlt
  have hb0:je (s.drop p.1) 0=(bt s p.1:Int):=by
   rw[show(0:Int)=((0:Nat):Int) from rfl,yn]
   simp[bt]
  conv=>whnf
  refine⟨by omega,?_⟩
  have hsz:IntKind.i64.wrap (1+IntKind.i64.wrap (je (s.drop p.1) 0))=((1+bt s p.1:Nat):Int):=by rw[hb0];simp(disch:=omega) only[qd];omega
  conv=>whnf
  rw[hsz]
  refine⟨fun hgt=>?_,fun hle=>?_⟩
  ·conv=>whnf
   refine⟨True.intro,?_,True.intro⟩
   have:qg4 s=false:=by unfold qg4;rw [e1 (by simp at hgt;omega)]
   rw[this]
   exact rfl
  ·have hle':p.1+1+bt s p.1<=s.length:=by simp at hle;omega
   conv=>whnf
   refine⟨by omega,?_⟩
   conv=>whnf
   refine⟨by omega,?_⟩
   conv=>whnf
   refine⟨by omega,?_⟩
   conv=>whnf
   refine⟨(p.1+1+bt s p.1,p.2++[(s.drop (p.1+1)).take (bt s p.1)]),[2],e2 hle',by show s.length - (p.1+1+bt s p.1)<s.length - p.1;omega,?_⟩
   conv=>whnf
   repeat'(first|exact ⟨⟩|exact rfl|apply And.intro)
   ·refine congrArg SV.d (congrArg DV.str ?_)
    show sub (s.drop p.1) _ _=s.drop (p.1+1+bt s p.1)
    simp only[sub,pz,f6]
    rw[dx (by simp;omega)]
    congr 1
    omega
   ·simp
   ·refine vi _ _ _ ?_
    show[DV.str _]=[DV.str _]
    congr 2
    simp only[sub,pz,f6]
    rw[show(1:Int).toNat=1 from rfl]
    congr 1
    omega
 ·have hke:p.1=s.length:=by
   simp at heq
   omega
  conv=>whnf
  refine⟨True.intro,?_,True.intro⟩
  have:qg4 s=decide (0<p.2.length):=by unfold qg4;rw[TAt.last hk hke]
  rw[this]
  refine congrArg DV.bool ?_
  simp
def wm:Nat->List UInt8->Option (List (List UInt8) × List UInt8)
 |0,s=>some ([],s)
 |n+1,s=>if zo s=0 then none else (wm n (s.drop (zo s))).map (fun p=>(s.take (zo s) :: p.1,p.2))
def cutF(a n c:Nat)(s:List UInt8):Option (List UInt8 × List (List UInt8) × List UInt8) :=
 if s.length<2 * a then none else (wm n (s.drop (2 * a))).bind fun p=>if p.2.length=4 * c then some (s.take (2 * a),p.1,p.2) else none
def partsV(x:List UInt8)(l:List (List UInt8))(r:List UInt8):SV:=.agg [.d (.str x),.d (.sl (Nat.beq l.length 0) l.length 1 (strs l)),.d (.str r)]
def noParts:SV:=.agg [.d (.str []),nilS,.d (.str [])]
def cutR:Option (List UInt8 × List (List UInt8) × List UInt8)->SV
 |none=>.tup [noParts,.d .ff]
 |some (x,l,r)=>.tup [partsV x l r,.d .tt]
structure NAt(n:Nat)(s:List UInt8)(i:Nat)(l:List (List UInt8))(r:List UInt8):Prop where
 le:i<=n
 len:l.length=i
 short:r.length<=s.length
 eq:(wm (n - i) r).map (fun p=>(l++p.1,p.2))=wm n s
theorem NAt.zero(n:Nat)(s:List UInt8):NAt n s 0 [] s:=⟨p6 _,rfl,pr _,by simp⟩
theorem NAt.step{n:Nat}{s:List UInt8}{i:Nat}{l:List (List UInt8)}{r:List UInt8}(h:NAt n s i l r)(hi:i<n):(zo r=0->wm n s=none)/\(zo r≠0->NAt n s (i+1) (l++[r.take (zo r)]) (r.drop (zo r))):=by
 have e:=h.eq
 rw [show n - i=(n - (i+1))+1 from by omega] at e
 simp only [wm] at e
 refine ⟨fun h0=>by rw [if_pos h0] at e;simpa using e.symm,fun h0=>⟨hi,by simp [h.len],by have:=h.short;simp;omega,?_⟩⟩
 rw [if_neg h0] at e
 rw[<-e]
 simp[Function.comp_def]
theorem NAt.last{n:Nat}{s:List UInt8}{l:List (List UInt8)}{r:List UInt8}(h:NAt n s n l r):wm n s=some (l,r):=by
 rw[<-h.eq]
 simp[wm]
theorem cut_ok(a n c:Nat)(ha:a<=100)(hn:n<=100)(hc:c<=100)(s:List UInt8):FnOk Tryz.prog 151 [.agg [.d (.int .i64 a),.d (.int .i64 n),.d (.int .i64 c)],.d (.str s)] (cutR (cutF a n c s)):=by
 refine qz (TT:=TT) (IN:=qi []) qk qm mixed 1000 Tryz.func151 rfl (qe Tryz.func151 (by kernel_rfl) rfl) rfl 56 (by kernel_rfl) ?_
 have h2a:IntKind.i64.wrap (2 * (a:Int))=((2 * a:Nat):Int):=by rw[qd _ (by omega)];omega
 have h4c:IntKind.i64.wrap (4 * (c:Int))=((4 * c:Nat):Int):=by rw[qd _ (by omega)];omega
 conv=>whnf
 rw[h2a]
 refine⟨fun hlt=>?_,fun hge=>?_⟩
 ·have:cutF a n c s=none:=by unfold cutF;rw [if_pos (by simp at hlt;omega)]
  rw[this]
  conv=>whnf
  repeat'(first|exact ⟨⟩|exact rfl|exact Or.inl rfl|exact .inr rfl|exact fun _ _=>rfl|apply And.intro)
 ·have hge':2 * a<=s.length:=by simp at hge;omega
  conv=>whnf
  rw[h2a]
  refine⟨by omega,?_⟩
  conv=>whnf
  rw[h2a]
  refine⟨by omega,?_⟩
  conv=>whnf
  refine .nilC 2 1 9 1 (fun _=>[]) _ _ _ _ rfl rfl ?_
  conv=>whnf
  have hr0:sub s ((2 * a:Nat):Int) (s.length:Int)=s.drop (2 * a):=by
   simp only[sub,pz]
   rw[dx (by simp)]
  have hx0:sub s 0 ((2 * a:Nat):Int)=s.take (2 * a):=by simp only[sub,pz];simp
  rw[hr0,hx0]
  refine .inv (Nat × List (List UInt8) × List UInt8) (fun p=>NAt n (s.drop (2 * a)) p.1 p.2.1 p.2.2) (fun p=>[(7,.d (.str p.2.2)),(29,.d (.int .i64 p.1))]) (fun p=>[(2,.cells 170 [.d (.str (s.take (2 * a))),.all 3,.d (.str [])]),(3,.row 9 1 p.2.1.length .iff (strs p.2.1))]) (fun p=>n - p.1) ⟨(0,[],s.drop (2 * a)),[0,1,2,3],NAt.zero _ _,?_⟩ ?_
  ·conv=>whnf
   repeat'(first|exact ⟨⟩|exact rfl|apply And.intro)
   intro i hi
   omega
  intro p hp
  have hp1:=hp.le
  have hp2:=hp.len
  have hp3:=hp.short
  have hf:=firstN_le p.2.2
  simp only [o6] at hp3
  conv=>whnf
  refine⟨fun hlt=>?_,fun hge=>?_⟩
  ·have hi:p.1<n:=by simpa using hlt
   obtain⟨e1,e2⟩:=hp.step hi
   conv=>whnf
   refine oD (first_ok _) rfl rfl ?_
   conv=>whnf
   refine⟨fun h0=>?_,fun h0=>?_⟩
   ·have h0':zo p.2.2=0:=by simpa using h0
    have:cutF a n c s=none:=by unfold cutF;rw[if_neg (by omega),e1 h0'];rfl
    rw[this]
    conv=>whnf
    repeat'(first|exact ⟨⟩|exact rfl|exact Or.inl rfl|exact .inr rfl|exact fun _ _=>rfl|apply And.intro)
   ·have h0':zo p.2.2≠0:=by simpa using h0
    conv=>whnf
    refine⟨by omega,?_⟩
    conv=>whnf
    refine⟨by omega,?_⟩
    conv=>whnf
    refine⟨by omega,?_⟩
    conv=>whnf
    refine⟨(p.1+1,p.2.1++[p.2.2.take (zo p.2.2)],p.2.2.drop (zo p.2.2)),[0,1,2,5],e2 h0',by show n - (p.1+1)<n - p.1;omega,?_⟩
    have hw:IntKind.i64.wrap ((p.1:Int)+1)=((p.1+1:Nat):Int):=by rw[qd _ (by omega)];omega
    conv=>whnf
    repeat'(first|exact ⟨⟩|exact rfl|apply And.intro)
    ·refine congrArg SV.d (congrArg DV.str ?_)
     simp only[sub,pz]
     rw[dx (by simp)]
    ·exact congrArg SV.d (congrArg (DV.int _) hw)
    ·simp
    ·refine vi _ _ _ ?_
     show[DV.str _]=[DV.str _]
     simp[sub]
  ·have hi:p.1=n:=by simp at hge;omega
   rw [hi] at hp
   have hnm:=hp.last
   conv=>whnf
   rw[h4c]
   refine⟨fun hne=>?_,fun heq=>?_⟩
   ·have:cutF a n c s=none:=by unfold cutF;rw [if_neg (by omega),hnm];simp at hne ⊢;omega
    rw[this]
    conv=>whnf
    repeat'(first|exact ⟨⟩|exact rfl|exact Or.inl rfl|exact .inr rfl|exact fun _ _=>rfl|apply And.intro)
   ·have:cutF a n c s=some (s.take (2 * a),p.2.1,p.2.2):=by unfold cutF;rw [if_neg (by omega),hnm];simp at heq ⊢;omega
    rw[this]
    conv=>whnf
    repeat'(first|exact ⟨⟩|exact rfl|exact Or.inl rfl|exact .inr rfl|exact fun _ _=>rfl|apply And.intro)
def zc(t:Int):Option (Nat × Nat × Nat) :=
 if t=2\/t=5\/t=12 then some (0,1,0) else if t=15 then some (1,1,0) else if t=33 then some (3,1,0) else if t=6 then some (0,2,5) else none
def formV(p:Nat × Nat × Nat):SV:=.agg [.d (.int .i64 p.1),.d (.int .i64 p.2.1),.d (.int .i64 p.2.2)]
def formR:Option (Nat × Nat × Nat)->SV
 |some p=>.tup [formV p,.d .tt]
 |none=>.tup [formV (0,0,0),.d .ff]
theorem ja5{t:Int}{p:Nat × Nat × Nat}(h:zc t=some p):p.1<=100/\p.2.1<=100/\p.2.2<=100:=by
 unfold zc at h
 repeat'(split at h)
 all_goals first|(cases h;decide)|cases h
theorem formOf_ok(t:Int):FnOk Tryz.prog 150 [.d (.int .u16 t)] (formR (zc t)):=by
 refine qz (TT:=TT) (IN:=qi []) qk qm mixed 1000 Tryz.func150 rfl (qe Tryz.func150 (by kernel_rfl) rfl) rfl 19 (by kernel_rfl) ?_
 have fin1:t=2\/t=5\/t=12->zc t=some (0,1,0):=fun h=>by unfold zc;rw[if_pos h]
 conv=>whnf
 refine⟨fun h1=>?_,fun h1=>?_⟩
 ·rw[fin1 (.inl (by simpa using h1))]
  conv=>whnf
  refine brT h1 ?_
  conv=>whnf
  repeat'(first|exact ⟨⟩|exact rfl|apply And.intro)
 simp only [o9,ne_eq] at h1
 conv=>whnf
 refine⟨fun h2=>?_,fun h2=>?_⟩
 ·rw[fin1 (.inr (.inl (by simpa using h2)))]
  conv=>whnf
  refine brT h2 ?_
  conv=>whnf
  repeat'(first|exact ⟨⟩|exact rfl|apply And.intro)
 simp only [o9,ne_eq] at h2
 conv=>whnf
 refine⟨fun h3=>?_,fun h3=>?_⟩
 ·rw[fin1 (.inr (.inr (by simpa using h3)))]
  conv=>whnf
  repeat'(first|exact ⟨⟩|exact rfl|apply And.intro)
 simp only [o9,ne_eq] at h3
 conv=>whnf
 refine⟨fun h4=>?_,fun h4=>?_⟩
 ·have:zc t=some (1,1,0):=by unfold zc;simp at h4;simp [h4]
  rw[this]
  conv=>whnf
  repeat'(first|exact ⟨⟩|exact rfl|apply And.intro)
 simp only [o9,ne_eq] at h4
 conv=>whnf
 refine⟨fun h5=>?_,fun h5=>?_⟩
 ·have:zc t=some (3,1,0):=by unfold zc;simp at h5;simp [h5]
  rw[this]
  conv=>whnf
  repeat'(first|exact ⟨⟩|exact rfl|apply And.intro)
 simp only [o9,ne_eq] at h5
 conv=>whnf
 refine⟨fun h6=>?_,fun h6=>?_⟩
 ·have:zc t=some (0,2,5):=by unfold zc;simp at h6;simp [h6]
  rw[this]
  conv=>whnf
  repeat'(first|exact ⟨⟩|exact rfl|apply And.intro)
 simp only [o9,ne_eq] at h6
 have:zc t=none:=by unfold zc;simp[h1,h2,h3,h4,h5,h6]
 rw[this]
 conv=>whnf
 repeat'(first|exact ⟨⟩|exact rfl|apply And.intro)
def kf(t:Int)(s:List UInt8):Bool :=
 if t=1 then s.length == 4 else if t=28 then s.length == 16 else if t=16 then qg4 s else match zc t with
 |some p=>(cutF p.1 p.2.1 p.2.2 s).isSome
 |none=>true
def qa0(t:Int)(s:List UInt8):Bool:=decide (s.length<=4096) && kf t s
theorem rcheck_ok(t:Int)(s:List UInt8):FnOk Tryz.prog 115 [.d (.int .u16 t),.d (.str s)] (.d (.int .i64 (errno (qa0 t s)))):=by
 refine qz (TT:=TT) (IN:=qi []) qk qm mixed 1000 Tryz.func115 rfl (qe Tryz.func115 (by kernel_rfl) rfl) rfl 43 (by kernel_rfl) ?_
 conv=>whnf
 refine⟨fun h0=>?_,fun h0=>?_⟩
 ·have:qa0 t s=false:=by unfold qa0;simp at h0;simp;intro h;omega
  rw[this]
  conv=>whnf
  exact rfl
 have hle:s.length<=4096:=by simp at h0;omega
 have hr:qa0 t s=kf t s:=by unfold qa0;simp[hle]
 rw[hr]
 have hlast:∀ b:Bool,kf t s=b->(((!b)=true->(if kf t s=true then (0:Int) else 2)=2)/\((!b)=false->(if kf t s=true then (0:Int) else 2)=0)):=fun b h=>by rw[h];cases b <;> simp
 conv=>whnf
 refine⟨fun h1=>?_,fun h1=>?_⟩
 ·simp only [m8] at h1
  have e:kf t s=((s.length:Int) == 4):=by unfold kf;rw[if_pos h1,<-lenEq];rfl
  obtain⟨l1,l2⟩:=hlast _ e
  conv=>whnf
  refine⟨fun h=>?_,fun h=>?_⟩
  ·conv=>whnf
   exact congrArg (DV.int _) (l1 h).symm
  ·conv=>whnf
   exact congrArg (DV.int _) (l2 h).symm
 simp only [o9,ne_eq] at h1
 conv=>whnf
 refine⟨fun h2=>?_,fun h2=>?_⟩
 ·simp only [m8] at h2
  have e:kf t s=((s.length:Int) == 16):=by unfold kf;rw[if_neg h1,if_pos h2,<-lenEq];rfl
  obtain⟨l1,l2⟩:=hlast _ e
  conv=>whnf
  refine⟨fun h=>?_,fun h=>?_⟩
  ·conv=>whnf
   exact congrArg (DV.int _) (l1 h).symm
  ·conv=>whnf
   exact congrArg (DV.int _) (l2 h).symm
 simp only [o9,ne_eq] at h2
 conv=>whnf
 refine⟨fun h3=>?_,fun h3=>?_⟩
 ·simp only [m8] at h3
  have e:kf t s=qg4 s:=by unfold kf;rw[if_neg h1,if_neg h2,if_pos h3]
  obtain⟨l1,l2⟩:=hlast _ e
  conv=>whnf
  refine oD (texts_ok s hle) rfl rfl ?_
  conv=>whnf
  refine⟨fun h=>?_,fun h=>?_⟩
  ·conv=>whnf
   exact congrArg (DV.int _) (l1 h).symm
  ·conv=>whnf
   exact congrArg (DV.int _) (l2 h).symm
 simp only [o9,ne_eq] at h3
 conv=>whnf
 refine .one (.data _ (formOf_ok t) rfl ?_ ?_)
 ·cases zc t <;> rfl
 cases hf:zc t with
 |none =>
  have e:kf t s=true:=by unfold kf;rw[if_neg h1,if_neg h2,if_neg h3,hf]
  obtain⟨l1,l2⟩:=hlast _ e
  conv=>whnf
  refine brF (by simpa using h0) ?_
  conv=>whnf
  exact congrArg (DV.int _) (l2 rfl).symm
 |some p =>
  obtain⟨f1,f2,f3⟩:=ja5 hf
  have e:kf t s=(cutF p.1 p.2.1 p.2.2 s).isSome:=by unfold kf;rw[if_neg h1,if_neg h2,if_neg h3,hf]
  obtain⟨l1,l2⟩:=hlast _ e
  conv=>whnf
  refine .one (.data _ (cut_ok p.1 p.2.1 p.2.2 f1 f2 f3 s) rfl ?_ ?_)
  ·cases cutF p.1 p.2.1 p.2.2 s <;> rfl
  cases hc:cutF p.1 p.2.1 p.2.2 s with
  |none =>
   rw [hc] at l1
   conv=>whnf
   exact congrArg (DV.int _) (l1 rfl).symm
  |some q =>
   rw [hc] at l2
   conv=>whnf
   exact congrArg (DV.int _) (l2 rfl).symm
structure RR where
 nm:List UInt8
 ty:Int
 cl:Int
 ttl:Int
 d:List UInt8
deriving Inhabited,DecidableEq
def RR.enc(r:RR):List DV:=[.str r.nm,.int .u16 r.ty,.int .u16 r.cl,.int .u32 r.ttl,.str r.d]
def RR.V(r:RR):SV:=.agg [.d (.str r.nm),.d (.int .u16 r.ty),.d (.int .u16 r.cl),.d (.int .u32 r.ttl),.d (.str r.d)]
def RR.check(r:RR):Bool:=decide (qc r.nm) && qa0 r.ty r.d && (decide (r.ttl<=2147483647) || r.ty == 41)
theorem ji0(r:RR):FnOk Tryz.prog 82 [r.V] (.d (.int .i64 (errno r.check))):=by
 refine qz (TT:=TT) (IN:=qi []) qk qm mixed 1000 Tryz.func82 rfl (qe Tryz.func82 (by kernel_rfl) rfl) rfl 22 (by kernel_rfl) ?_
 conv=>whnf
 refine oD (y7 r.nm) rfl rfl ?_
 by_cases hn:qc r.nm
 ·rw[if_pos hn]
  conv=>whnf
  refine brF rfl ?_
  conv=>whnf
  refine oD (rcheck_ok r.ty r.d) rfl rfl ?_
  cases hc:qa0 r.ty r.d
  ·have e:r.check=false:=by simp[RR.check,hc]
   rw[e]
   conv=>whnf
   refine brT rfl ?_
   conv=>whnf
   exact rfl
  ·conv=>whnf
   refine brF rfl ?_
   conv=>whnf
   refine⟨fun c1=>?_,fun c1=>?_⟩
   ·have c1':¬ r.ttl<=2147483647:=by
     have:r.ttl > 2147483647:=pw c1
     omega
    conv=>whnf
    refine⟨fun c2=>?_,fun c2=>?_⟩
    ·have e:r.check=false:=by
      have:¬ r.ty=41:=by simpa using c2
      simp[RR.check,c1',this]
     rw[e]
     conv=>whnf
     exact rfl
    ·have e:r.check=true:=by
      have:r.ty=41:=by simpa using c2
      simp only[RR.check,hn,hc,decide_true,my,co,m8]
      exact .inr this
     rw[e]
     conv=>whnf
     exact rfl
   ·have c1':r.ttl<=2147483647:=by
     have:¬ r.ttl > 2147483647:=px c1
     omega
    have e:r.check=true:=by simp[RR.check,hn,hc,c1']
    rw[e]
    conv=>whnf
    exact rfl
 ·rw[if_neg hn]
  have e:r.check=false:=by simp[RR.check,hn]
  rw[e]
  conv=>whnf
  refine brT rfl ?_
  conv=>whnf
  exact rfl
def rrsD(z:Bool)(l:List RR):DV:=.sl z l.length 5 (fun i=>(l.getD i default).enc)
structure RR.Ok(r:RR):Prop where
 ty:0<=r.ty/\r.ty<=65535
 cl:0<=r.cl/\r.cl<=65535
 ttl:0<=r.ttl/\r.ttl<=4294967295
end Go.Proofs.YtoefgnnkajhmiaaGreatDoor
namespace Go.Proofs
open Go.Shelf Go.RowKit Go.Sort Go.Lib
def Try.lays156_ren:Go.Shelf.Ren:=⟨fun|156=>85|165=>118|166=>20|169=>22|240=>51|241=>156|276=>88|277=>185|n=>n,fun|31=>47|9=>9|3=>3|4=>4|0=>0|20=>20|72=>65|76=>71|70=>63|37=>60|75=>70|127=>105|164=>141|5=>5|80=>74|n=>n,fun|n=>n⟩
theorem Try.lays156:Go.Proofs.Lays.n156 Tryz.prog Try.lays156_ren:={
 mixed:=by kernel_rfl
 f156:=Tryz.func85.trans (congrArg some (by kernel_rfl))
 f165:=Tryz.func118.trans (congrArg some (by kernel_rfl))
 f166:=Tryz.func20.trans (congrArg some (by kernel_rfl))
 f169:=Tryz.func22.trans (congrArg some (by kernel_rfl))
 f240:=Tryz.func51.trans (congrArg some (by kernel_rfl))
 f241:=Tryz.func156.trans (congrArg some (by kernel_rfl))
 f276:=Tryz.func88.trans (congrArg some (by kernel_rfl))
 f277:=Tryz.func185.trans (congrArg some (by kernel_rfl))
 t0:=Tryz.underlying0
 a0:=Tryz.isAgg0
 z0:=Tryz.sizeOf0
 v0:=Tryz.zeroValue0
 t3:=Tryz.underlying3
 a3:=Tryz.isAgg3
 z3:=Tryz.sizeOf3
 v3:=Tryz.zeroValue3
 t4:=Tryz.underlying4
 a4:=Tryz.isAgg4
 z4:=Tryz.sizeOf4
 v4:=Tryz.zeroValue4
 t9:=Tryz.underlying9
 a9:=Tryz.isAgg9
 z9:=Tryz.sizeOf9
 v9:=Tryz.zeroValue9
 t20:=Tryz.underlying20
 a20:=Tryz.isAgg20
 z20:=Tryz.sizeOf20
 v20:=Tryz.zeroValue20
 t31:=Tryz.underlying47
 a31:=Tryz.isAgg47
 z31:=Tryz.sizeOf47
 v31:=Tryz.zeroValue47
 t37:=Tryz.underlying60
 a37:=Tryz.isAgg60
 z37:=Tryz.sizeOf60
 v37:=Tryz.zeroValue60
 t70:=Tryz.underlying63
 a70:=Tryz.isAgg63
 z70:=Tryz.sizeOf63
 v70:=Tryz.zeroValue63
 t72:=Tryz.underlying65
 a72:=Tryz.isAgg65
 z72:=Tryz.sizeOf65
 v72:=Tryz.zeroValue65
 t75:=Tryz.underlying70
 a75:=Tryz.isAgg70
 z75:=Tryz.sizeOf70
 v75:=Tryz.zeroValue70
 t76:=Tryz.underlying71
 a76:=Tryz.isAgg71
 z76:=Tryz.sizeOf71
 v76:=Tryz.zeroValue71
 t127:=Tryz.underlying105
 a127:=Tryz.isAgg105
 z127:=Tryz.sizeOf105
 v127:=Tryz.zeroValue105
 t164:=Tryz.underlying141
 a164:=Tryz.isAgg141
 z164:=Tryz.sizeOf141
 v164:=Tryz.zeroValue141 }
theorem Try.Builder_Extra_156:Builder.Extra Tryz.prog Try.lays156_ren:={
 sizeBuilder:=by kernel_rfl
 liesBuilder:=by kernel_rfl
 t5:=Tryz.underlying5
 a5:=Tryz.isAgg5
 z5:=Tryz.sizeOf5
 v5:=Tryz.zeroValue5
 infoByte:=by kernel_rfl
 cellsByte:=by kernel_rfl
 sizeByte:=by kernel_rfl
 neB5:=by decide }
theorem Try.strings_Join_none(a:Option Addr)(c:Nat)(sep:ByteArray)(w:World) :
 Calls Tryz.prog 85 #[.slice a 0 c,.string sep] w fun e w'=>e = .returned (.string ⟨#[]⟩)/\w'=w:=Any.strings_Join_none Try.lays156 Try.Builder_Extra_156 a c sep w
theorem Try.strings_Join(bk o c:Nat)(xs:List ByteArray)(sep:ByteArray)(w:World)(hcells:∀ (j:Nat) x,xs[j]? = some x->w.cell? ⟨bk,o+j,none⟩=some (.string x))(hbk:bk<w.heap.size)(hN:xs.length<=140737488355328)(hcap:xs.length<=c)(hlen:(Lib.join (xs.map (·.data.toList)) sep.data.toList).length<=140737488355328) :
 Calls Tryz.prog 85 #[.slice (some ⟨bk,o,none⟩) xs.length c,.string sep] w fun e w'=>e = .returned (.string ⟨(Lib.join (xs.map (·.data.toList)) sep.data.toList).toArray⟩)/\Below w.heap.size w w':=Any.strings_Join Try.lays156 Try.Builder_Extra_156 bk o c xs sep w hcells hbk hN hcap hlen
def Try.lays137_ren:Go.Shelf.Ren:=⟨fun|137=>170|217=>127|266=>160|n=>n,fun|9=>9|5=>5|3=>3|n=>n,fun|n=>n⟩
theorem Try.lays137:Go.Proofs.Lays.n137 Tryz.prog Try.lays137_ren:={
 mixed:=by kernel_rfl
 f137:=Tryz.func170.trans (congrArg some (by kernel_rfl))
 f217:=Tryz.func127.trans (congrArg some (by kernel_rfl))
 f266:=Tryz.func160.trans (congrArg some (by kernel_rfl))
 t3:=Tryz.underlying3
 a3:=Tryz.isAgg3
 z3:=Tryz.sizeOf3
 v3:=Tryz.zeroValue3
 t5:=Tryz.underlying5
 a5:=Tryz.isAgg5
 z5:=Tryz.sizeOf5
 v5:=Tryz.zeroValue5
 t9:=Tryz.underlying9
 a9:=Tryz.isAgg9
 z9:=Tryz.sizeOf9
 v9:=Tryz.zeroValue9 }
theorem Try.strings_IndexByte(s:ByteArray)(c:Int)(w:World) :
 Calls Tryz.prog 170 #[.string s,.int .u8 c] w fun e w'=>e = .returned (.int .i64 (Lib.indexByte s.data.toList c.toNat.toUInt8))/\w'=w:=Any.strings_IndexByte Try.lays137 s c w
def Try.lays283_ren:Go.Shelf.Ren:=⟨fun|283=>152|n=>n,fun|3=>3|9=>9|4=>4|n=>n,fun|n=>n⟩
theorem Try.lays283:Go.Proofs.Lays.n283 Tryz.prog Try.lays283_ren:={
 mixed:=by kernel_rfl
 f283:=Tryz.func152.trans (congrArg some (by kernel_rfl))
 t3:=Tryz.underlying3
 a3:=Tryz.isAgg3
 z3:=Tryz.sizeOf3
 v3:=Tryz.zeroValue3
 t4:=Tryz.underlying4
 a4:=Tryz.isAgg4
 z4:=Tryz.sizeOf4
 v4:=Tryz.zeroValue4
 t9:=Tryz.underlying9
 a9:=Tryz.isAgg9
 z9:=Tryz.sizeOf9
 v9:=Tryz.zeroValue9 }
theorem Try.internal_strconv_small(i:Nat)(h:i<100)(w:World) :
 Calls Tryz.prog 152 #[.int .i64 i] w fun e w'=>e = .returned (.string ⟨(Lib.decDigits i).toArray⟩)/\w'=w:=Any.internal_strconv_small Try.lays283 i h w
def Try.laysM284_ren:Go.Shelf.Ren:=⟨fun|284=>153|129=>181|317=>180|318=>182|n=>n,fun|53=>137|3=>3|212=>225|0=>0|4=>4|46=>173|5=>5|9=>9|n=>n,fun|17=>1|n=>n⟩
theorem Try.laysM284:Go.Proofs.LaysM.n284 Tryz.prog Try.laysM284_ren:={
 mixed:=by kernel_rfl
 f129:=Tryz.func181.trans (congrArg some (by kernel_rfl))
 f284:=Tryz.func153.trans (congrArg some (by kernel_rfl))
 f317:=Tryz.func180.trans (congrArg some (by kernel_rfl))
 f318:=Tryz.func182.trans (congrArg some (by kernel_rfl))
 t0:=Tryz.underlying0
 a0:=Tryz.isAgg0
 z0:=Tryz.sizeOf0
 v0:=Tryz.zeroValue0
 t3:=Tryz.underlying3
 a3:=Tryz.isAgg3
 z3:=Tryz.sizeOf3
 v3:=Tryz.zeroValue3
 t4:=Tryz.underlying4
 a4:=Tryz.isAgg4
 z4:=Tryz.sizeOf4
 v4:=Tryz.zeroValue4
 t5:=Tryz.underlying5
 a5:=Tryz.isAgg5
 z5:=Tryz.sizeOf5
 v5:=Tryz.zeroValue5
 t9:=Tryz.underlying9
 a9:=Tryz.isAgg9
 z9:=Tryz.sizeOf9
 v9:=Tryz.zeroValue9
 t46:=Tryz.underlying173
 a46:=Tryz.isAgg173
 z46:=Tryz.sizeOf173
 v46:=Tryz.zeroValue173
 t53:=Tryz.underlying137
 a53:=Tryz.isAgg137
 z53:=Tryz.sizeOf137
 v53:=Tryz.zeroValue137
 t212:=Tryz.underlying225
 a212:=Tryz.isAgg225
 z212:=Tryz.sizeOf225
 v212:=Tryz.zeroValue225
 g17:=by kernel_rfl
 i0:=by kernel_rfl
 i3:=by kernel_rfl
 i4:=by kernel_rfl
 i5:=by kernel_rfl
 i9:=by kernel_rfl
 i46:=by kernel_rfl
 i53:=by kernel_rfl
 i212:=by kernel_rfl
 m17:=by kernel_rfl }
theorem Try.internal_strconv_numDigits (u : Nat) (h1 : 1 ≤ u) (h2 : u < 18446744073709551616) (w : World) (htab : Lib.TabIs Tryz.prog w "internal/strconv.uint64pow10" .u64 Lib.pow10Tab) :
 Calls Tryz.prog 153 #[.int .u64 u] w fun e w'=>e = .returned (.int .i64 (Lib.nDigits u))/\w'=w:=Any.internal_strconv_numDigits Try.laysM284 u h1 h2 w htab
def Try.lays285_ren:Go.Shelf.Ren:=⟨fun|285=>154|n=>n,fun|37=>60|53=>137|3=>3|4=>4|51=>29|9=>9|5=>5|0=>0|n=>n,fun|n=>n⟩
theorem Try.lays285:Go.Proofs.Lays.n285 Tryz.prog Try.lays285_ren:={
 mixed:=by kernel_rfl
 f285:=Tryz.func154.trans (congrArg some (by kernel_rfl))
 t0:=Tryz.underlying0
 a0:=Tryz.isAgg0
 z0:=Tryz.sizeOf0
 v0:=Tryz.zeroValue0
 t3:=Tryz.underlying3
 a3:=Tryz.isAgg3
 z3:=Tryz.sizeOf3
 v3:=Tryz.zeroValue3
 t4:=Tryz.underlying4
 a4:=Tryz.isAgg4
 z4:=Tryz.sizeOf4
 v4:=Tryz.zeroValue4
 t5:=Tryz.underlying5
 a5:=Tryz.isAgg5
 z5:=Tryz.sizeOf5
 v5:=Tryz.zeroValue5
 t9:=Tryz.underlying9
 a9:=Tryz.isAgg9
 z9:=Tryz.sizeOf9
 v9:=Tryz.zeroValue9
 t37:=Tryz.underlying60
 a37:=Tryz.isAgg60
 z37:=Tryz.sizeOf60
 v37:=Tryz.zeroValue60
 t51:=Tryz.underlying29
 a51:=Tryz.isAgg29
 z51:=Tryz.sizeOf29
 v51:=Tryz.zeroValue29
 t53:=Tryz.underlying137
 a53:=Tryz.isAgg137
 z53:=Tryz.sizeOf137
 v53:=Tryz.zeroValue137 }
theorem Try.internal_strconv_formatBase10(blk off cap:Nat)(u:Nat)(d:Array UInt8)(w:World)(hH:Holds (fun(b:UInt8)=>Value.int .u8 (b.toNat:Int)) w blk off d)(hu:u<10 ^ d.size)(hu64:u<18446744073709551616)(hsz:d.size<4611686018427387904) :
 Calls Tryz.prog 154 #[.slice (some ⟨blk,off,none⟩) d.size cap,.int .u64 u] w fun e w' =>
  e = .returned (.tuple #[])/\∃ (n v':Nat) (dk:Array UInt8),w'=(putRow (fun(b:UInt8)=>Value.int .u8 (b.toNat:Int)) w blk off dk).drewN n/\FmtInv d.size u 0 v' dk:=Any.internal_strconv_formatBase10 Try.lays285 blk off cap u d w hH hu hu64 hsz
def Try.lays143_ren:Go.Shelf.Ren:=⟨fun|143=>192|219=>97|217=>127|225=>128|224=>129|267=>130|266=>160|314=>161|n=>n,fun|9=>9|3=>3|4=>4|5=>5|46=>173|146=>209|51=>29|n=>n,fun|1=>0|n=>n⟩
theorem Try.lays143:Go.Proofs.Lays.n143 Tryz.prog Try.lays143_ren:={
 mixed:=by kernel_rfl
 f143:=Tryz.func192.trans (congrArg some (by kernel_rfl))
 f217:=Tryz.func127.trans (congrArg some (by kernel_rfl))
 f219:=Tryz.func97.trans (congrArg some (by kernel_rfl))
 f224:=Tryz.func129.trans (congrArg some (by kernel_rfl))
 f225:=Tryz.func128.trans (congrArg some (by kernel_rfl))
 f266:=Tryz.func160.trans (congrArg some (by kernel_rfl))
 f267:=Tryz.func130.trans (congrArg some (by kernel_rfl))
 f314:=Tryz.func161.trans (congrArg some (by kernel_rfl))
 t3:=Tryz.underlying3
 a3:=Tryz.isAgg3
 z3:=Tryz.sizeOf3
 v3:=Tryz.zeroValue3
 t4:=Tryz.underlying4
 a4:=Tryz.isAgg4
 z4:=Tryz.sizeOf4
 v4:=Tryz.zeroValue4
 t5:=Tryz.underlying5
 a5:=Tryz.isAgg5
 z5:=Tryz.sizeOf5
 v5:=Tryz.zeroValue5
 t9:=Tryz.underlying9
 a9:=Tryz.isAgg9
 z9:=Tryz.sizeOf9
 v9:=Tryz.zeroValue9
 t46:=Tryz.underlying173
 a46:=Tryz.isAgg173
 z46:=Tryz.sizeOf173
 v46:=Tryz.zeroValue173
 t51:=Tryz.underlying29
 a51:=Tryz.isAgg29
 z51:=Tryz.sizeOf29
 v51:=Tryz.zeroValue29
 t146:=Tryz.underlying209
 a146:=Tryz.isAgg209
 z146:=Tryz.sizeOf209
 v146:=Tryz.zeroValue209
 g1:=by kernel_rfl }
theorem Try.strings_Index_one(s:ByteArray)(c:UInt8)(w:World) :
 Calls Tryz.prog 192 #[.string s,.string ⟨#[c]⟩] w fun e w'=>e = .returned (.int .i64 (Lib.indexByte s.data.toList c))/\w'=w:=Any.strings_Index_one Try.lays143 s c w
def Try.laysPu14_ren:Go.Shelf.Ren:=⟨fun|14=>99|16=>133|17=>134|19=>163|20=>164|21=>165|22=>166|23=>167|24=>168|25=>187|27=>189|26=>188|28=>204|29=>213|30=>152|31=>153|32=>154|33=>155|35=>181|34=>180|36=>182|37=>183|38=>184|39=>202|40=>203|n=>n,fun|9=>9|3=>3|22=>137|24=>70|25=>147|4=>4|34=>211|5=>5|36=>173|37=>60|0=>0|39=>212|21=>21|44=>231|47=>105|50=>242|48=>240|2=>2|52=>204|55=>207|59=>225|60=>29|20=>20|61=>226|65=>248|66=>249|67=>74|n=>n,fun|0=>2|1=>3|2=>1|3=>4|4=>5|n=>n⟩
theorem Try.laysPu14:Go.Proofs.LaysPu.n14 Tryz.prog Try.laysPu14_ren:={
 mixed:=by kernel_rfl
 f14:=Tryz.func99.trans (congrArg some (by kernel_rfl))
 f16:=Tryz.func133.trans (congrArg some (by kernel_rfl))
 f17:=Tryz.func134.trans (congrArg some (by kernel_rfl))
 f19:=Tryz.func163.trans (congrArg some (by kernel_rfl))
 f20:=Tryz.func164.trans (congrArg some (by kernel_rfl))
 f21:=Tryz.func165.trans (congrArg some (by kernel_rfl))
 f22:=Tryz.func166.trans (congrArg some (by kernel_rfl))
 f23:=Tryz.func167.trans (congrArg some (by kernel_rfl))
 f24:=Tryz.func168.trans (congrArg some (by kernel_rfl))
 f25:=Tryz.func187.trans (congrArg some (by kernel_rfl))
 f26:=Tryz.func188.trans (congrArg some (by kernel_rfl))
 f27:=Tryz.func189.trans (congrArg some (by kernel_rfl))
 f28:=Tryz.func204.trans (congrArg some (by kernel_rfl))
 f29:=Tryz.func213.trans (congrArg some (by kernel_rfl))
 f30:=Tryz.func152.trans (congrArg some (by kernel_rfl))
 f31:=Tryz.func153.trans (congrArg some (by kernel_rfl))
 f32:=Tryz.func154.trans (congrArg some (by kernel_rfl))
 f33:=Tryz.func155.trans (congrArg some (by kernel_rfl))
 f34:=Tryz.func180.trans (congrArg some (by kernel_rfl))
 f35:=Tryz.func181.trans (congrArg some (by kernel_rfl))
 f36:=Tryz.func182.trans (congrArg some (by kernel_rfl))
 f37:=Tryz.func183.trans (congrArg some (by kernel_rfl))
 f38:=Tryz.func184.trans (congrArg some (by kernel_rfl))
 f39:=Tryz.func202.trans (congrArg some (by kernel_rfl))
 f40:=Tryz.func203.trans (congrArg some (by kernel_rfl))
 t0:=Tryz.underlying0
 a0:=Tryz.isAgg0
 z0:=Tryz.sizeOf0
 v0:=Tryz.zeroValue0
 i0:=by kernel_rfl
 t2:=Tryz.underlying2
 a2:=Tryz.isAgg2
 z2:=Tryz.sizeOf2
 v2:=Tryz.zeroValue2
 i2:=by kernel_rfl
 t3:=Tryz.underlying3
 a3:=Tryz.isAgg3
 z3:=Tryz.sizeOf3
 v3:=Tryz.zeroValue3
 i3:=by kernel_rfl
 t4:=Tryz.underlying4
 a4:=Tryz.isAgg4
 z4:=Tryz.sizeOf4
 v4:=Tryz.zeroValue4
 i4:=by kernel_rfl
 t5:=Tryz.underlying5
 a5:=Tryz.isAgg5
 z5:=Tryz.sizeOf5
 v5:=Tryz.zeroValue5
 i5:=by kernel_rfl
 t9:=Tryz.underlying9
 a9:=Tryz.isAgg9
 z9:=Tryz.sizeOf9
 v9:=Tryz.zeroValue9
 i9:=by kernel_rfl
 t20:=Tryz.underlying20
 a20:=Tryz.isAgg20
 z20:=Tryz.sizeOf20
 v20:=Tryz.zeroValue20
 i20:=by kernel_rfl
 t21:=Tryz.underlying21
 a21:=Tryz.isAgg21
 z21:=Tryz.sizeOf21
 v21:=Tryz.zeroValue21
 i21:=by kernel_rfl
 t22:=Tryz.underlying137
 a22:=Tryz.isAgg137
 z22:=Tryz.sizeOf137
 v22:=Tryz.zeroValue137
 i22:=by kernel_rfl
 t24:=Tryz.underlying70
 a24:=Tryz.isAgg70
 z24:=Tryz.sizeOf70
 v24:=Tryz.zeroValue70
 i24:=by kernel_rfl
 t25:=Tryz.underlying147
 a25:=Tryz.isAgg147
 z25:=Tryz.sizeOf147
 v25:=Tryz.zeroValue147
 i25:=by kernel_rfl
 t34:=Tryz.underlying211
 a34:=Tryz.isAgg211
 z34:=Tryz.sizeOf211
 v34:=Tryz.zeroValue211
 i34:=by kernel_rfl
 c34:=by kernel_rfl
 t36:=Tryz.underlying173
 a36:=Tryz.isAgg173
 z36:=Tryz.sizeOf173
 v36:=Tryz.zeroValue173
 i36:=by kernel_rfl
 t37:=Tryz.underlying60
 a37:=Tryz.isAgg60
 z37:=Tryz.sizeOf60
 v37:=Tryz.zeroValue60
 i37:=by kernel_rfl
 t39:=Tryz.underlying212
 a39:=Tryz.isAgg212
 z39:=Tryz.sizeOf212
 v39:=Tryz.zeroValue212
 i39:=by kernel_rfl
 t44:=Tryz.underlying231
 a44:=Tryz.isAgg231
 z44:=Tryz.sizeOf231
 v44:=Tryz.zeroValue231
 i44:=by kernel_rfl
 t47:=Tryz.underlying105
 a47:=Tryz.isAgg105
 z47:=Tryz.sizeOf105
 v47:=Tryz.zeroValue105
 i47:=by kernel_rfl
 t48:=Tryz.underlying240
 a48:=Tryz.isAgg240
 z48:=Tryz.sizeOf240
 v48:=Tryz.zeroValue240
 i48:=by kernel_rfl
 t50:=Tryz.underlying242
 a50:=Tryz.isAgg242
 z50:=Tryz.sizeOf242
 v50:=Tryz.zeroValue242
 i50:=by kernel_rfl
 t52:=Tryz.underlying204
 a52:=Tryz.isAgg204
 z52:=Tryz.sizeOf204
 v52:=Tryz.zeroValue204
 i52:=by kernel_rfl
 t55:=Tryz.underlying207
 a55:=Tryz.isAgg207
 z55:=Tryz.sizeOf207
 v55:=Tryz.zeroValue207
 i55:=by kernel_rfl
 t59:=Tryz.underlying225
 a59:=Tryz.isAgg225
 z59:=Tryz.sizeOf225
 v59:=Tryz.zeroValue225
 i59:=by kernel_rfl
 t60:=Tryz.underlying29
 a60:=Tryz.isAgg29
 z60:=Tryz.sizeOf29
 v60:=Tryz.zeroValue29
 i60:=by kernel_rfl
 t61:=Tryz.underlying226
 a61:=Tryz.isAgg226
 z61:=Tryz.sizeOf226
 t65:=Tryz.underlying248
 a65:=Tryz.isAgg248
 z65:=Tryz.sizeOf248
 v65:=Tryz.zeroValue248
 i65:=by kernel_rfl
 t66:=Tryz.underlying249
 a66:=Tryz.isAgg249
 z66:=Tryz.sizeOf249
 v66:=Tryz.zeroValue249
 i66:=by kernel_rfl
 t67:=Tryz.underlying74
 a67:=Tryz.isAgg74
 z67:=Tryz.sizeOf74
 v67:=Tryz.zeroValue74
 i67:=by kernel_rfl
 g0:=by kernel_rfl
 m0:=by kernel_rfl
 g1:=by kernel_rfl
 m1:=by kernel_rfl
 g2:=by kernel_rfl
 m2:=by kernel_rfl
 g3:=by kernel_rfl
 m3:=by kernel_rfl
 g4:=by kernel_rfl
 m4:=by kernel_rfl }
theorem Try.strconv_ParseUint_10_at32_ok(s:ByteArray)(hmax:s.size<=9223372036854775806)(u:Nat)(h:Lib.parseUintB 32 s.data.toList = .ok u)(w:World) :
 Calls Tryz.prog 99 #[.string s,.int .i64 10,.int .i64 32] w fun e w'=>e = .returned (.tuple #[.int .u64 u,.nilIface])/\(w'=w\/w'=Lib.bytesWorld w 5 s):=Any.strconv_ParseUint_10_at32_ok Try.laysPu14 s hmax u h w
theorem Try.strconv_ParseUint_10_at32_syntax(s:ByteArray)(hlim:s.size<=281474976710656)(h:Lib.parseUintB 32 s.data.toList=Lib.parseUintB 32 [])(ev:Value)(w:World)(hv:w.cell? ⟨2,0,none⟩=some ev)(hev:ev = .nilIface\/∃ te pe,ev = .iface te pe) :
 Calls Tryz.prog 99 #[.string s,.int .i64 10,.int .i64 32] w fun e w'=>∃ N,e = .returned (.tuple #[.int .u64 0,.iface 212 (.pointer (some ⟨N,0,none⟩))])/\w.heap.size<=N/\w'.heap[N]? = some (.cells #[.string ⟨#[80,97,114,115,101,85,105,110,116]⟩,.string s,ev] 231 (0,0))/\Below w.heap.size w w':=Any.strconv_ParseUint_10_at32_syntax Try.laysPu14 s hlim h ev w hv hev
theorem Try.strconv_ParseUint_10_at32_range(s:ByteArray)(hlim:s.size<=281474976710656)(h:Lib.parseUintB 32 s.data.toList = .range)(ev:Value)(w:World)(hv:w.cell? ⟨3,0,none⟩=some ev)(hev:ev = .nilIface\/∃ te pe,ev = .iface te pe) :
 Calls Tryz.prog 99 #[.string s,.int .i64 10,.int .i64 32] w fun e w'=>∃ N,e = .returned (.tuple #[.int .u64 4294967295,.iface 212 (.pointer (some ⟨N,0,none⟩))])/\w.heap.size<=N/\w'.heap[N]? = some (.cells #[.string ⟨#[80,97,114,115,101,85,105,110,116]⟩,.string s,ev] 231 (0,0))/\Below w.heap.size w w':=Any.strconv_ParseUint_10_at32_range Try.laysPu14 s hlim h ev w hv hev
theorem Try.strconv_ParseUint_10_at16_ok(s:ByteArray)(hmax:s.size<=9223372036854775806)(u:Nat)(h:Lib.parseUintB 16 s.data.toList = .ok u)(w:World) :
 Calls Tryz.prog 99 #[.string s,.int .i64 10,.int .i64 16] w fun e w'=>e = .returned (.tuple #[.int .u64 u,.nilIface])/\(w'=w\/w'=Lib.bytesWorld w 5 s):=Any.strconv_ParseUint_10_at16_ok Try.laysPu14 s hmax u h w
theorem Try.strconv_ParseUint_10_at16_syntax(s:ByteArray)(hlim:s.size<=281474976710656)(h:Lib.parseUintB 16 s.data.toList=Lib.parseUintB 16 [])(ev:Value)(w:World)(hv:w.cell? ⟨2,0,none⟩=some ev)(hev:ev = .nilIface\/∃ te pe,ev = .iface te pe) :
 Calls Tryz.prog 99 #[.string s,.int .i64 10,.int .i64 16] w fun e w'=>∃ N,e = .returned (.tuple #[.int .u64 0,.iface 212 (.pointer (some ⟨N,0,none⟩))])/\w.heap.size<=N/\w'.heap[N]? = some (.cells #[.string ⟨#[80,97,114,115,101,85,105,110,116]⟩,.string s,ev] 231 (0,0))/\Below w.heap.size w w':=Any.strconv_ParseUint_10_at16_syntax Try.laysPu14 s hlim h ev w hv hev
theorem Try.strconv_ParseUint_10_at16_range(s:ByteArray)(hlim:s.size<=281474976710656)(h:Lib.parseUintB 16 s.data.toList = .range)(ev:Value)(w:World)(hv:w.cell? ⟨3,0,none⟩=some ev)(hev:ev = .nilIface\/∃ te pe,ev = .iface te pe) :
 Calls Tryz.prog 99 #[.string s,.int .i64 10,.int .i64 16] w fun e w'=>∃ N,e = .returned (.tuple #[.int .u64 65535,.iface 212 (.pointer (some ⟨N,0,none⟩))])/\w.heap.size<=N/\w'.heap[N]? = some (.cells #[.string ⟨#[80,97,114,115,101,85,105,110,116]⟩,.string s,ev] 231 (0,0))/\Below w.heap.size w w':=Any.strconv_ParseUint_10_at16_range Try.laysPu14 s hlim h ev w hv hev
end Go.Proofs
namespace Go.Proofs.YtoefgnnkajhmiaaGreatDoor
open Go Go.Eng
theorem rd_slice{w:World}{M:Nat->Prop}{b:Bool}{n sz:Nat}{f:Nat->List DV}{v:Value}(h:Rd w M (.sl b n sz f) v):(n=0/\v = .slice none 0 0)\/∃ (ad:Addr) (cap:Nat) (u:Nat->Nat->Value),v = .slice (some ad) n cap/\n<=cap /\
 (0<n->ad.block<w.heap.size/\¬ M ad.block)/\(∀ (i j:Nat) (d:DV),i<n->(f i)[j]? = some d->w.cell? (ad.add (i * sz+j))=some (u i j))/\(∀ (i j:Nat) (d:DV),i<n->(f i)[j]? = some d->Rd w M d (u i j)):=by
 cases h with
 |nil=>exact .inl ⟨rfl,rfl⟩
 |sl _ _ _ ad cap u g1 g3 g4 g5 g6=>exact .inr ⟨ad,cap,u,rfl,g1,g3,g5,g6⟩
theorem join_ok(b:Bool)(l:List (List UInt8))(sep:List UInt8)(hn:l.length<=140737488355328)(hj:(Lib.join l sep).length<=140737488355328):FnOk Tryz.prog 85 [.d (.sl b l.length 1 (strs l)),.d (.str sep)] (.d (.str (Lib.join l sep))):=by
 refine⟨qe Tryz.func85 (by kernel_rfl) rfl,fun M w vs _ hM hl hd=>?_⟩
 match vs,hl with
 |[v0,v1],_ =>
  have h0:=jd (hd 0 _ v0 rfl rfl)
  have h1:=yu (hd 1 _ v1 rfl rfl)
  subst h1
  rcases rd_slice h0 with⟨hl0,rfl⟩|⟨ad,cap,u,rfl,g1,g3,g5,g6⟩
  ·have:l=[]:=fy hl0
   subst this
   refine(Try.strings_Join_none none 0 ⟨sep.toArray⟩ w).mono ?_
   rintro e w' ⟨rfl,rfl⟩
   exact⟨_,rfl,Step.refl _ _,.d (.str _)⟩
  ·by_cases hz:l=[]
   ·subst hz
    refine(Try.strings_Join_none (some ad) cap ⟨sep.toArray⟩ w).mono ?_
    rintro e w' ⟨rfl,rfl⟩
    exact⟨_,rfl,Step.refl _ _,.d (.str _)⟩
   ·have hpos:0<l.length:=d7.2 hz
    obtain⟨hb,_⟩:=g3 hpos
    have hu:∀ i,i<l.length->u i 0=strV (l[i]?.getD []):=fun i hi=>by
     have:=g6 i 0 (.str (l[i]?.getD [])) hi rfl
     exact yu (β:=noE) (.d this)
    have hc0:=g5 0 0 (.str (l[0]?.getD [])) hpos rfl
    have hspot:ad.spot=none:=by
     rw [show ad.add (0 * 1+0)=ad from rfl] at hc0
     unfold World.cell? at hc0
     split at hc0
     ·cases hs:ad.spot with
      |none=>rfl
      |some _=>simp [hs] at hc0
     ·cases hc0
    obtain⟨bk,o,sp⟩:=ad
    simp only at hspot hb
    subst hspot
    have:=Try.strings_Join bk o cap (l.map fun x=>⟨x.toArray⟩) ⟨sep.toArray⟩ w (fun j x hx=>by
     rw [o5,l8] at hx
     obtain⟨y,hy,rfl⟩:=hx
     have hj:j<l.length:=(pq.1 hy).1
     have h5:=g5 j 0 (.str (l[j]?.getD [])) hj rfl
     rw [hu j hj,ya,hy] at h5
     simpa[strV] using h5) hb (by simpa using hn) (by simpa using g1) (by
      simp only[dw,Function.comp_def,so,List.map_id']
      exact hj)
    simp only [mr,dw,Function.comp_def,so,List.map_id'] at this
    refine this.mono ?_
    rintro e w' ⟨rfl,hw⟩
    exact⟨_,rfl,Step.of_below _ hw,.d (.str _)⟩
def vf(t:Int)(s:List UInt8):Option ((Nat × Nat × Nat) × (List UInt8 × List (List UInt8) × List UInt8)) :=
 if s.length<=4096 then (zc t).bind fun p=>(cutF p.1 p.2.1 p.2.2 s).map fun q=>(p,q) else none
def lookR:Option ((Nat × Nat × Nat) × (List UInt8 × List (List UInt8) × List UInt8))->SV
 |none=>.tup [.agg [.any,.any,.any],noParts,.d .ff]
 |some (p,x,l,r)=>.tup [formV p,partsV x l r,.d .tt]
theorem look_ok(t:Int)(s:List UInt8):FnOk Tryz.prog 116 [.d (.int .u16 t),.d (.str s)] (lookR (vf t s)):=by
 refine qz (TT:=TT) (IN:=qi []) qk qm mixed 1000 Tryz.func116 rfl (qe Tryz.func116 (by kernel_rfl) rfl) rfl 32 (by kernel_rfl) ?_
 conv=>whnf
 refine .one (.data _ (formOf_ok t) rfl ?_ ?_)
 ·cases zc t <;> rfl
 cases hf:zc t with
 |none =>
  have e:vf t s=none:=by unfold vf;rw[hf];split <;> rfl
  rw[e]
  conv=>whnf
  repeat'(first|exact ⟨⟩|exact rfl|exact Or.inl rfl|exact .inr rfl|exact fun _ _=>rfl|apply And.intro)
 |some p =>
  obtain⟨f1,f2,f3⟩:=ja5 hf
  conv=>whnf
  refine⟨fun hgt=>?_,fun hle=>?_⟩
  ·have e:vf t s=none:=by unfold vf;rw [if_neg (by simp at hgt;omega)]
   rw[e]
   conv=>whnf
   repeat'(first|exact ⟨⟩|exact rfl|exact Or.inl rfl|exact .inr rfl|exact fun _ _=>rfl|apply And.intro)
  ·have e:vf t s=(cutF p.1 p.2.1 p.2.2 s).map fun q=>(p,q):=by unfold vf;rw [if_pos (by simp at hle;omega),hf];rfl
   rw[e]
   conv=>whnf
   refine .one (.data _ (cut_ok p.1 p.2.1 p.2.2 f1 f2 f3 s) rfl ?_ ?_)
   ·cases cutF p.1 p.2.1 p.2.2 s <;> rfl
   cases hc:cutF p.1 p.2.1 p.2.2 s with
   |none =>
    conv=>whnf
    (apply Exists.intro;apply Exists.intro;apply And.intro;focus ((conv=>whnf);repeat'(first|exact ⟨⟩|exact rfl|apply And.intro)))
    conv=>whnf
    repeat'(first|exact ⟨⟩|exact rfl|exact Or.inl rfl|exact .inr rfl|exact fun _ _=>rfl|apply And.intro)
   |some q =>
    conv=>whnf
    (apply Exists.intro;apply Exists.intro;apply And.intro;focus ((conv=>whnf);repeat'(first|exact ⟨⟩|exact rfl|apply And.intro)))
    conv=>whnf
    repeat'(first|exact ⟨⟩|exact rfl|exact Or.inl rfl|exact .inr rfl|exact fun _ _=>rfl|apply And.intro)
def vt(t:Int)(s:List UInt8):List UInt8:=match vf t s with
 |none=>s
 |some (_,x,l,r)=>x++fold (Lib.join l [])++r
theorem jc7(l:List (List UInt8)):Lib.join l []=l.flatten:=by
 induction l with
 |nil=>rfl
 |cons a l ih=>cases l with
  |nil=>simp[Lib.join]
  |cons b l=>simp [Lib.join] at ih ⊢;rw [ih]
theorem namesF_len:∀ (n:Nat) (s:List UInt8) (l:List (List UInt8)) (r:List UInt8),wm n s=some (l,r)->l.length=n/\l.flatten.length+r.length=s.length:=by
 intro n
 induction n with
 |zero=>intro s l r h;simp only [wm,m9,Prod.mk.injEq] at h;obtain ⟨rfl,rfl⟩:=h;simp
 |succ n ih =>
  intro s l r h
  simp only [wm] at h
  split at h
  ·cases h
  ·cases hn:wm n (s.drop (zo s)) with
   |none=>rw [hn] at h;cases h
   |some p =>
    rw [hn] at h
    simp only [o7,m9,Prod.mk.injEq] at h
    obtain⟨rfl,rfl⟩:=h
    obtain⟨h1,h2⟩:=ih _ p.1 p.2 hn
    have:=firstN_le s
    refine⟨by simp[h1],?_⟩
    simp only [List.flatten_cons,pv,lu,o6] at h2 ⊢
    omega
theorem lookF_len{t:Int}{s:List UInt8}{p:Nat × Nat × Nat}{x:List UInt8}{l:List (List UInt8)}{r:List UInt8}(h:vf t s=some (p,x,l,r)):s.length<=4096/\l.length<=100/\x.length+l.flatten.length+r.length=s.length:=by
 unfold vf at h
 split at h
 ·rename_i hs
  cases hf:zc t with
  |none=>rw [hf] at h;cases h
  |some q =>
   rw [hf] at h
   simp only [f7] at h
   cases hc:cutF q.1 q.2.1 q.2.2 s with
   |none=>rw [hc] at h;cases h
   |some c =>
    rw [hc] at h
    simp only [o7,m9,Prod.mk.injEq] at h
    obtain⟨rfl,rfl⟩:=h
    unfold cutF at hc
    split at hc
    ·cases hc
    ·cases hn:wm q.2.1 (s.drop (2 * q.1)) with
     |none=>rw [hn] at hc;cases hc
     |some y =>
      rw [hn] at hc
      simp only [f7] at hc
      split at hc
      ·simp only [m9,Prod.mk.injEq] at hc
       obtain⟨rfl,rfl,rfl⟩:=hc
       obtain⟨h1,h2⟩:=namesF_len _ _ y.1 y.2 hn
       have:=(ja5 hf).2.1
       refine⟨hs,by omega,?_⟩
       simp only [lu,o6] at h2 ⊢
       omega
      ·cases hc
 ·cases h
theorem rfold_ok(t:Int)(s:List UInt8):FnOk Tryz.prog 80 [.d (.int .u16 t),.d (.str s)] (.d (.str (vt t s))):=by
 refine qz (TT:=TT) (IN:=qi []) qk qm mixed 1000 Tryz.func80 rfl (qe Tryz.func80 (by kernel_rfl) rfl) rfl 26 (by kernel_rfl) ?_
 conv=>whnf
 refine .one (.data _ (look_ok t s) rfl ?_ ?_)
 ·cases vf t s <;> rfl
 cases hf:vf t s with
 |none =>
  have e:vt t s=s:=by unfold vt;rw[hf]
  rw[e]
  conv=>whnf
 |some p =>
  obtain⟨p,x,l,r⟩:=p
  obtain⟨h1,h2,h3⟩:=lookF_len hf
  have e:vt t s=x++fold (Lib.join l [])++r:=by unfold vt;rw[hf]
  rw[e]
  conv=>whnf
  refine .data _ (join_ok _ l [] (by omega) (by rw[jc7];omega)) rfl rfl ?_
  conv=>whnf
  refine .data _ (x5 _ (by rw[jc7];omega)) rfl rfl ?_
  have hfl:(fold (Lib.join l [])).length=l.flatten.length:=by rw[jc7];simp only[fold,mr]
  conv=>whnf
  refine⟨by omega,?_⟩
  conv=>whnf
  refine⟨by simp only[pv];omega,?_⟩
  conv=>whnf
def rising(t:Int):Bool->List UInt8->List (List UInt8)->Bool
 |_,_,[]=>true
 |b,last,d :: l=>qa0 t d && !(b && (Op.bytesLess (vt t d) last || vt t d == last)) && rising t true (vt t d) l
def scheck(name:List UInt8)(t ttl:Int)(l:List (List UInt8)):Bool :=
 qc name && decide (ttl<=2147483647) && decide (0<l.length/\l.length<=64) && rising t false [] l
def setV(name:List UInt8)(t ttl:Int)(b:Bool)(l:List (List UInt8)):SV:=.agg [.d (.str name),.d (.int .u16 t),.d (.int .u32 ttl),.d (.sl b l.length 1 (strs l))]
def xr(a b:List UInt8):Bool:=decide (qc a) && (decide (qc b) && fold a == fold b)
theorem fold_len(s:List UInt8):(fold s).length=s.length:=by simp[fold]
theorem jg5{s:List UInt8}(h:qc s):s.length<9223372036854775808:=by have:=h.2.1;omega
def okL(l:List UInt8):Prop:=1<=l.length/\l.length<=63
def lab(l:List UInt8):List UInt8:=UInt8.ofNat l.length :: l
def mk:List (List UInt8)->List UInt8
 |[]=>[0]
 |l :: ls=>lab l++mk ls
theorem qj6(s:List UInt8)(k j:Nat):bt (s.drop k) j=bt s (k+j):=by simp[bt]
theorem more_drop(s:List UInt8)(k:Nat):more s k↔more (s.drop k) 0:=by
 unfold more
 rw[qj6,dp,o6]
 omega
theorem qr7:∀ (m:Nat) (s:List UInt8) (k:Nat),kh s m k=k+kh (s.drop k) m 0
 |0,s,k=>rfl
 |m+1,s,k=>by
  simp only[kh]
  by_cases h:more s k
  ·rw[if_pos h,if_pos ((more_drop s k).1 h),qr7 m s,qr7 m (s.drop k),qj6,f6,show k+0=k from rfl]
   have e:k+(0+1+bt s k)=k+1+bt s k:=by omega
   rw[e]
   omega
  ·rw[if_neg h,if_neg (fun e=>h ((more_drop s k).2 e))]
   rfl
theorem qq2{n:Nat}(h:n<256):(UInt8.ofNat n).toNat=n:=by
 rw[UInt8.toNat_ofNat'];exact ax h
theorem qa3(l t:List UInt8)(h:okL l):bt (lab l++t) 0=l.length:=by
 simp only[bt,lab,gq,c8,dy]
 exact qq2 (by have:=h.2;omega)
theorem kq(l:List UInt8):(lab l).length=1+l.length:=by simp[lab];omega
theorem mk_pos(ls:List (List UInt8)):0<(mk ls).length:=by cases ls <;> simp[mk,lab]
theorem qo0(l t:List UInt8):(lab l++t).drop (1+l.length)=t:=by
 rw[<-kq l,List.drop_left]
theorem take_lab(l t:List UInt8):(lab l++t).take (1+l.length)=lab l:=by
 rw[<-kq l,List.take_left]
theorem name_of:∀ (m:Nat) (s:List UInt8),0<s.length->kh s m 0=s.length - 1->bt s (s.length - 1)=0->∃ ls,(∀ l ∈ ls,okL l)/\s=mk ls
 |m,s,h0,h1,h2=>by
  have leaf:s.length=1->∃ ls,(∀ l ∈ ls,okL l)/\s=mk ls:=fun hl=>by
   match s,hl with
   |[b],_ =>
    refine⟨[],(fun l h=>by cases h),?_⟩
    have:b.toNat=0:=by simpa[bt] using h2
    rw[mk,UInt8.toNat_inj.1 (show b.toNat=(0:UInt8).toNat from this)]
  cases m with
  |zero=>exact leaf (by simp [kh] at h1;omega)
  |succ m =>
   simp only [kh] at h1
   split at h1
   ·rename_i hm
    obtain⟨a1,a2,a3,a4⟩:=hm
    rw [qr7] at h1
    have hb:1+bt s 0<s.length:=by omega
    obtain⟨ls,i1,i2⟩:=name_of m (s.drop (0+1+bt s 0)) (by rw[o6];omega) (by rw[o6];omega) (by
     rw[qj6,o6,show 0+1+bt s 0+(s.length - (0+1+bt s 0) - 1)=s.length - 1 by omega]
     exact h2)
    refine⟨(s.drop 1).take (bt s 0) :: ls,fun l hl=>?_,?_⟩
    ·rcases pu.1 hl with rfl|hl
     ·have:((s.drop 1).take (bt s 0)).length=bt s 0:=by simp;omega
      unfold okL
      omega
     ·exact i1 l hl
    ·rw[mk,<-i2]
     have hlen:((s.drop 1).take (bt s 0)).length=bt s 0:=by simp;omega
     unfold lab
     rw[hlen]
     match s,a1 with
     |b :: r,_ =>
      have e:bt (b :: r) 0=b.toNat:=by simp[bt]
      rw[e]
      simp[show 0+1+b.toNat=b.toNat+1 by omega]
   ·exact leaf (by omega)
theorem endOf_mk(ls:List (List UInt8))(h:∀ l ∈ ls,okL l):∀ m,(mk ls).length<=m->kh (mk ls) m 0=(mk ls).length - 1:=by
 induction ls with
 |nil =>
  intro m hm
  cases m with
  |zero=>rfl
  |succ m =>
   show(if more [0] 0 then kh [0] m (0+1+bt [0] 0) else 0)=0
   exact if_neg (by rintro ⟨_,h2,_⟩;exact h2 rfl)
 |cons l ls ih =>
  intro m hm
  have hl:=h l (lq ..)
  have hb:=qa3 l (mk ls) hl
  have hlen:(mk (l :: ls)).length=1+l.length+(mk ls).length:=by simp[mk,kq]
  have hp:=mk_pos ls
  cases m with
  |zero=>omega
  |succ m =>
   simp only[kh]
   show(if more (mk (l :: ls)) 0 then kh (mk (l :: ls)) m (0+1+bt (mk (l :: ls)) 0) else 0)=_
   have hbm:bt (mk (l :: ls)) 0=l.length:=hb
   rw[if_pos ⟨by omega,by rw[hbm];have:=hl.1;omega,by rw[hbm];exact hl.2,by rw[hbm];omega⟩,hbm,qr7,ow]
   have:(mk (l :: ls)).drop (1+l.length)=mk ls:=qo0 l (mk ls)
   rw[this,ih (fun x hx=>h x (lv _ hx)) m (by omega)]
   omega
theorem last_mk(ls:List (List UInt8)):bt (mk ls) ((mk ls).length - 1)=0:=by
 induction ls with
 |nil=>rfl
 |cons l ls ih =>
  have hlen:(mk (l :: ls)).length=1+l.length+(mk ls).length:=by simp[mk,kq]
  have hp:=mk_pos ls
  have e:(mk (l :: ls)).drop (1+l.length)=mk ls:=qo0 l (mk ls)
  have:=qj6 (mk (l :: ls)) (1+l.length) ((mk ls).length - 1)
  rw [e,ih] at this
  rw[hlen,show 1+l.length+(mk ls).length - 1=1+l.length+((mk ls).length - 1) by omega]
  exact this.symm
theorem qy6(s:List UInt8):qc s↔s.length<=255/\∃ ls,(∀ l ∈ ls,okL l)/\s=mk ls:=by
 constructor
 ·rintro ⟨h1,h2,h3,h4⟩
  exact⟨h2,name_of s.length s h1 h3 (by rw[<-h3];exact h4)⟩
 ·rintro ⟨h1,ls,h2,rfl⟩
  have:=endOf_mk ls h2 (mk ls).length (pr _)
  exact⟨mk_pos ls,h1,this,by unfold lastOf;rw[this];exact last_mk ls⟩
theorem mk_inj:∀ {a b:List (List UInt8)},(∀ l ∈ a,okL l)->(∀ l ∈ b,okL l)->mk a=mk b->a=b
 |[],[],_,_,_=>rfl
 |[],l :: b,_,hb,h=>by
  have h1:=hb l (lq ..)
  have:=qa3 l (mk b) h1
  rw [show lab l++mk b=mk (l :: b) from rfl,<-h] at this
  have h2:=h1.1
  have:(0:Nat)=l.length:=this
  omega
 |l :: a,[],ha,_,h=>by
  have h1:=ha l (lq ..)
  have:=qa3 l (mk a) h1
  rw [show lab l++mk a=mk (l :: a) from rfl,h] at this
  have h2:=h1.1
  have:(0:Nat)=l.length:=this
  omega
 |l :: a,k :: b,ha,hb,h=>by
  have h1:=qa3 l (mk a) (ha l (lq ..))
  have h2:=qa3 k (mk b) (hb k (lq ..))
  have hlen:l.length=k.length:=by
   rw[<-h1,<-h2]
   show bt (mk (l :: a)) 0=bt (mk (k :: b)) 0
   rw[h]
  have e1:lab l=lab k:=by
   have:=congrArg (List.take (1+l.length)) h
   rw [show mk (l :: a)=lab l++mk a from rfl,take_lab,hlen,show mk (k :: b)=lab k++mk b from rfl,take_lab] at this
   exact this
  have e2:mk a=mk b:=by
   have:=congrArg (List.drop (1+l.length)) h
   rw [show mk (l :: a)=lab l++mk a from rfl,qo0,hlen,show mk (k :: b)=lab k++mk b from rfl,qo0] at this
   exact this
  have e3:l=k:=(mu e1).2
  rw[e3,mk_inj (fun x hx=>ha x (lv _ hx)) (fun x hx=>hb x (lv _ hx)) e2]
def labs:List (List UInt8)->List UInt8
 |[]=>[]
 |l :: ls=>lab l++labs ls
theorem qy0(a b:List (List UInt8)):labs (a++b)=labs a++labs b:=by
 induction a with
 |nil=>rfl
 |cons l a ih=>simp[labs,ih]
theorem qp2(a:List (List UInt8)):labs a++[0]=mk a:=by
 induction a with
 |nil=>rfl
 |cons l a ih=>simp[labs,mk,<-ih]
theorem ja3(ls:List (List UInt8))(l:List UInt8):labs (ls++[l])=labs ls++lab l:=by
 rw[qy0]
 simp[labs]
theorem qx9:∀ (l:List (List UInt8)),l.length<=(labs l).length
 |[]=>pr _
 |x :: l=>by
  show l.length+1<=(lab x++labs l).length
  rw[pv,kq]
  have:=qx9 l
  omega
def qj9:Nat->List UInt8->Option (List (List UInt8))
 |0,_=>none
 |m+1,r=>if r.length=0 then none else if bt r 0=0 then (if r.length=1 then some [] else none) else
  if bt r 0 > 63\/1+bt r 0 > r.length then none else (qj9 m (r.drop (1+bt r 0))).map (fun ls=>(r.drop 1).take (bt r 0) :: ls)
def qc8(s:List UInt8):Option (List (List UInt8)):=if s.length > 255 then none else qj9 (s.length+1) s
theorem jg3(l:List UInt8)(ls:List (List UInt8)):(mk (l :: ls)).length=1+l.length+(mk ls).length:=by simp[mk,kq]
theorem splitN_mk:∀ (m:Nat) (r:List UInt8) (ls:List (List UInt8)),qj9 m r=some ls->(∀ l ∈ ls,okL l)/\r=mk ls
 |0,_,_,h=>by cases h
 |m+1,r,ls,h=>by
  unfold qj9 at h
  split at h
  ·cases h
  ·rename_i h0
   split at h
   ·rename_i h1
    split at h
    ·rename_i h2
     cases h
     refine⟨fun l hl=>(by cases hl),?_⟩
     match r,h2 with
     |[b],_ =>
      have:b.toNat=0:=by simpa[bt] using h1
      rw[mk,UInt8.toNat_inj.1 (show b.toNat=(0:UInt8).toNat from this)]
    ·cases h
   ·rename_i h1
    split at h
    ·cases h
    ·rename_i h2
     obtain⟨ks,hk,rfl⟩:=l8.1 h
     obtain⟨a1,a2⟩:=splitN_mk m _ ks hk
     have hlen:((r.drop 1).take (bt r 0)).length=bt r 0:=by simp;omega
     refine⟨fun l hl=>?_,?_⟩
     ·rcases pu.1 hl with rfl|hl
      ·unfold okL;omega
      ·exact a1 l hl
     ·rw[mk,<-a2]
      unfold lab
      rw[hlen]
      match r,h0 with
      |b :: r,_ =>
       have e:bt (b :: r) 0=b.toNat:=by simp[bt]
       rw[e]
       simp[show 1+b.toNat=b.toNat+1 by omega]
theorem splitN_of:∀ (ls:List (List UInt8)) (m:Nat),(∀ l ∈ ls,okL l)->(mk ls).length<=m->qj9 m (mk ls)=some ls
 |[],m,_,hm=>by
  cases m with
  |zero =>
   have:(mk []).length=1:=rfl
   omega
  |succ m=>rfl
 |l :: ls,m,h,hm=>by
  have hl:=h l (lq ..)
  have hlen:=jg3 l ls
  have hp:=mk_pos ls
  cases m with
  |zero=>omega
  |succ m =>
   have hb:bt (mk (l :: ls)) 0=l.length:=qa3 l (mk ls) hl
   have h1:=hl.1
   have h2:=hl.2
   unfold qj9
   rw[if_neg (by omega),hb,if_neg (by omega),if_neg (by omega)]
   have hd:(mk (l :: ls)).drop (1+l.length)=mk ls:=qo0 l (mk ls)
   rw[hd,splitN_of ls m (fun x hx=>h x (lv _ hx)) (by omega)]
   show some ((((mk (l :: ls)).drop 1).take l.length) :: ls)=_
   have:((mk (l :: ls)).drop 1)=l++mk ls:=rfl
   rw[this,List.take_left]
theorem jj2{s:List UInt8}{ls:List (List UInt8)}(h:qc8 s=some ls):s.length<=255/\(∀ l ∈ ls,okL l)/\s=mk ls:=by
 unfold qc8 at h
 split at h
 ·cases h
 ·exact⟨by omega,splitN_mk _ _ _ h⟩
theorem labelsOf_of{ls:List (List UInt8)}(h:∀ l ∈ ls,okL l)(hl:(mk ls).length<=255):qc8 (mk ls)=some ls:=by
 unfold qc8
 rw[if_neg (by omega)]
 exact splitN_of ls _ h (by omega)
theorem jf5(s:List UInt8):qc s↔(qc8 s).isSome=true:=by
 rw[qy6]
 constructor
 ·rintro ⟨h1,ls,h2,rfl⟩
  rw[labelsOf_of h2 h1]
  rfl
 ·intro h
  obtain⟨ls,hls⟩:=s9.1 h
  obtain⟨h1,h2,h3⟩:=jj2 hls
  exact⟨h1,ls,h2,h3⟩
def labN(n:List UInt8):List (List UInt8):=(qc8 n).getD []
def fl(n:List UInt8):List (List UInt8):=(labN n).map fold
theorem xg{n:List UInt8}(h:qc n):n.length<=255/\(∀ l ∈ labN n,okL l)/\n=mk (labN n):=by
 obtain⟨ls,e⟩:=s9.1 ((jf5 n).1 h)
 have:=jj2 e
 unfold labN
 rw[e]
 exact this
theorem qq5(s:List UInt8):(fold s).length=s.length:=by simp[fold]
theorem okL_fold{l:List UInt8}(h:okL l):okL (fold l):=by unfold okL at *;rw [qq5];exact h
theorem low_small{k:Nat}(h:k<=63):low (UInt8.ofNat k)=UInt8.ofNat k:=by
 apply UInt8.toNat_inj.1
 rw[qp0,qq2 (by omega)]
 rw[if_neg (by omega)]
theorem fold_lab{l:List UInt8}(h:okL l):fold (lab l)=lab (fold l):=by
 unfold lab
 rw[qq5]
 show low (UInt8.ofNat l.length) :: fold l=_
 rw[low_small h.2]
theorem fold_append(a b:List UInt8):fold (a++b)=fold a++fold b:=by unfold fold;rw[d6]
theorem fold_mk:∀ {ls:List (List UInt8)},(∀ l ∈ ls,okL l)->fold (mk ls)=mk (ls.map fold)
 |[],_=>rfl
 |l :: ls,h=>by
  show fold (lab l++mk ls)=lab (fold l)++mk (ls.map fold)
  rw[fold_append,fold_lab (h l (by simp)),fold_mk (fun x hx=>h x (by simp[hx]))]
theorem fl_ok{n:List UInt8}(h:qc n):∀ l ∈ fl n,okL l:=fun l hl=>by
 obtain⟨x,hx,rfl⟩:=gr.1 hl
 exact okL_fold ((xg h).2.1 x hx)
theorem qd6{n:List UInt8}(h:qc n):fold n=mk (fl n):=by
 obtain⟨_,h2,h3⟩:=xg h
 conv=>lhs;rw[h3]
 exact fold_mk h2
def qh(ls:List (List UInt8))(i:Nat):Nat:=(labs (ls.take i)).length
theorem qm1{ls:List (List UInt8)}{i:Nat}{l:List UInt8}(h:ls[i]? = some l):qh ls (i+1)=qh ls i+1+l.length:=by
 unfold qh
 rw[m5,h]
 show(labs (ls.take i++[l])).length=_
 rw[qy0,pv]
 show _+(lab l++[]).length=_
 rw[mv,kq];omega
theorem qv9:∀ (a b:List (List UInt8)),mk (a++b)=labs a++mk b
 |[],_=>rfl
 |l :: a,b=>by
  show lab l++mk (a++b)=(lab l++labs a)++mk b
  rw[qv9 a b,m6]
theorem qu5(ls:List (List UInt8))(i:Nat):(mk ls).drop (qh ls i)=mk (ls.drop i):=by
 have e:mk ls=labs (ls.take i)++mk (ls.drop i):=by rw[<-qv9,cq]
 unfold qh
 conv=>lhs;rw[e]
 rw[List.drop_left]
theorem pos_lt(ls:List (List UInt8))(i:Nat):qh ls i<(mk ls).length:=by
 have e:mk ls=labs (ls.take i)++mk (ls.drop i):=by rw[<-qv9,cq]
 rw[e,pv]
 have:=mk_pos (ls.drop i)
 unfold qh;omega
theorem pos_len(ls:List (List UInt8))(i:Nat):qh ls i+(mk (ls.drop i)).length=(mk ls).length:=by
 have e:mk ls=labs (ls.take i)++mk (ls.drop i):=by rw[<-qv9,cq]
 conv=>rhs;rw[e]
 rw[pv];rfl
theorem bt_pos{ls:List (List UInt8)}(h:∀ l ∈ ls,okL l){i:Nat}{l:List UInt8}(hi:ls[i]? = some l):bt (mk ls) (qh ls i)=l.length:=by
 have hd:=qu5 ls i
 have hlt:=(pq.1 hi).1
 have e:ls.drop i=l :: ls.drop (i+1):=by
  rw[l9 hlt,(pq.1 hi).2]
 have:=qj6 (mk ls) (qh ls i) 0
 rw [dp] at this
 rw[<-this,hd,e]
 exact qa3 l (mk (ls.drop (i+1))) (h l (oy hi))
theorem bt_end(ls:List (List UInt8)):bt (mk ls) (qh ls ls.length)=0:=by
 have hd:=qu5 ls ls.length
 have:=qj6 (mk ls) (qh ls ls.length) 0
 rw [dp] at this
 rw[<-this,hd,c7];rfl
theorem pos_end(ls:List (List UInt8)):qh ls ls.length+1=(mk ls).length:=by
 have:=pos_len ls ls.length
 rw [c7] at this
 exact this
theorem jb9{ls:List (List UInt8)}{i j:Nat}(h:i<j)(hj:j<=ls.length):qh ls i<qh ls j:=by
 induction j with
 |zero=>omega
 |succ j ih =>
  have hs:ls[j]? = some ls[j]:=pp (by omega)
  have:=qm1 hs
  rcases ot i j with hl|hl
  ·have:=ih hl (by omega);omega
  ·have:i=j:=by omega
   subst this;omega
def jg(n z:List UInt8):Bool:=decide (qc n) && (decide (qc z) && (fl z).isSuffixOf (fl n))
theorem withinN_iff{n z:List UInt8}:jg n z=true↔qc n/\qc z/\∃ j,j<=(labN n).length/\(fl n).drop j=fl z:=by
 unfold jg
 simp only[oq,ly,sq]
 refine and_congr_right fun h1=>and_congr_right fun h2=>?_
 constructor
 ·intro h
  have hl:=h.length_le
  refine⟨(fl n).length - (fl z).length,by unfold fl;simp,?_⟩
  exact(List.suffix_iff_eq_drop.1 h).symm
 ·rintro ⟨j,_,e⟩
  rw[<-e];exact List.drop_suffix j (fl n)
theorem within_at{n z:List UInt8}(hn:qc n)(hz:qc z){j:Nat}(hp:qh (labN n) j+z.length=n.length):(fold (n.drop (qh (labN n) j))=fold z)↔(fl n).drop j=fl z:=by
 obtain⟨_,h2,h3⟩:=xg hn
 have hd:n.drop (qh (labN n) j)=mk ((labN n).drop j):=by
  have:=qu5 (labN n) j
  rw [<-h3] at this
  exact this
 have h4:∀ l ∈ (labN n).drop j,okL l:=fun l hl=>h2 l (bz hl)
 rw[hd,fold_mk h4,qd6 hz]
 have e:((labN n).drop j).map fold=(fl n).drop j:=by unfold fl;rw[List.map_drop]
 rw[e]
 refine⟨fun h=>mk_inj (fun l hl=>fl_ok hn l (bz hl)) (fl_ok hz) h,fun h=>by rw[h]⟩
theorem qx8:∀ {ls:List (List UInt8)},(mk (ls.map fold)).length=(mk ls).length
 |[]=>rfl
 |l :: ls=>by
  show(lab (fold l)++mk (ls.map fold)).length=(lab l++mk ls).length
  rw[pv,pv,kq,kq,qq5,qx8]
theorem jk8{n z:List UInt8}(hn:qc n)(hz:qc z){j:Nat}(h:(fl n).drop j=fl z):qh (labN n) j+z.length=n.length:=by
 obtain⟨_,_,h3⟩:=xg hn
 obtain⟨_,_,h4⟩:=xg hz
 have e:(mk ((labN n).drop j)).length=z.length:=by
  have:mk (((labN n).drop j).map fold)=mk ((labN z).map fold):=by
   rw[List.map_drop]
   exact congrArg mk h
  have:=congrArg List.length this
  rw [qx8,qx8,<-h4] at this
  exact this
 rw[<-e]
 conv=>rhs;rw[h3]
 exact pos_len (labN n) j
theorem label_at{ls:List (List UInt8)}{i:Nat}{l:List UInt8}(hi:ls[i]? = some l):((mk ls).drop (qh ls i+1)).take l.length=l:=by
 have hd:=qu5 ls i
 have hlt:=(pq.1 hi).1
 have e:ls.drop i=l :: ls.drop (i+1):=by
  rw[l9 hlt,(pq.1 hi).2]
 rw[<-f6,hd,e]
 show((UInt8.ofNat l.length :: l++mk (ls.drop (i+1))).drop 1).take l.length=l
 simp
theorem qq4{n:List UInt8}(h:qc n):qc (fold n):=by
 rw[qd6 h]
 refine(qy6 _).2 ⟨?_,fl n,fl_ok h,rfl⟩
 rw[<-qd6 h,qq5]
 exact(xg h).1
theorem qs5{n:List UInt8}(h:qc n):labN (fold n)=fl n:=by
 obtain⟨_,h2,h3⟩:=xg (qq4 h)
 have h3:=(qd6 h).symm.trans h3
 exact(mk_inj (fl_ok h) h2 h3).symm
def AnL:List SV->List SV->Prop
 |[],[]=>True
 |a :: l,b :: m=>(b = .any\/a=b)/\AnL l m
 |_,_=>False
theorem AnL.len:∀ {l m:List SV},AnL l m->l.length=m.length
 |[],[],_=>rfl
 |_ :: _,_ :: _,h=>congrArg (· + 1) (AnL.len h.2)
theorem AnL.at:∀ {l m:List SV},AnL l m->∀ (j:Nat) (s t:SV),l[j]? = some s->m[j]? = some t->t = .any\/s=t
 |[],[],_,_,_,_,ht,_=>by simp at ht
 |_ :: _,_ :: _,h,0,s,t,hs,ht=>by simp at hs ht;subst hs ht;exact h.1
 |_ :: l,_ :: m,h,j+1,s,t,hs,ht=>AnL.at (l:=l) (m:=m) h.2 j s t (by simpa using hs) (by simpa using ht)
theorem COk.anyA{P:Program}{f:FuncId}{args args':List SV}{ks:List KB}{R:SV->List KB->Prop}(h:COk P f args ks R)(hc:AnL args' args):COk P f args' ks R :=
 ⟨h.1,fun X w β fp vs hM hl hd=>h.2 X w β fp vs hM (by rw[<-hc.len,hl]) (fun j s u hs hu=>by
  have hj:j<args'.length:=by rw[hc.len];exact(pq.1 hs).1
  have hb:=hd j _ u (pp hj) hu
  rcases hc.at j _ s (pp hj) hs with e|e
  ·subst e;exact .any u
  ·rw[<-e];exact hb)⟩
theorem qa{n:Nat}(z:Z):SubZ n z z:=by cases z <;> exact True.intro
def iV(x:Nat):SV:=.d (.int .i64 (x:Int))
instance (s:List UInt8):Decidable (qc s):=by unfold qc;infer_instance
theorem qf5(s:List UInt8)(a:Nat):sub s (a:Int) (s.length:Int)=s.drop a:=by
 unfold sub
 rw[pz,pz,dx (by simp)]
def ja(n:List UInt8):Nat:=if qc n then (labN n).length else 0
theorem count_ok(n:List UInt8):FnOk Tryz.prog 41 [.d (.str n)] (.d (.int .i64 (ja n:Nat))):=by
 refine qz (TT:=TT) (IN:=qi [(70,Tryz.f70,1),(106,Tryz.f106,2),(107,Tryz.f107,1),(139,Tryz.f139,2)]) qk (ju (ju (ju (ju qm Tryz.func139 (by kernel_rfl) (by kernel_rfl)) Tryz.func107 (by kernel_rfl) (by kernel_rfl)) Tryz.func106 (by kernel_rfl) (by kernel_rfl)) Tryz.func70 (by kernel_rfl) (by kernel_rfl)) mixed 1000 Tryz.func41 rfl (qe Tryz.func41 (by kernel_rfl) rfl) rfl 9 (by kernel_rfl) ?_
 conv=>whnf
 refine oD (y7 n) rfl rfl ?_
 by_cases hn:qc n
 case neg =>
  rw[if_neg hn,show ja n=0 from if_neg hn]
  conv=>whnf
  refine brT rfl ?_
  conv=>whnf
  try exact rfl
 rw[if_pos hn,show ja n=(labN n).length from if_pos hn]
 conv=>whnf
 refine brF rfl ?_
 conv=>whnf
 obtain⟨hn1,hn2,hn3⟩:=xg hn
 have hend:∀ i,qh (labN n) i<n.length:=fun i=>by have:=pos_lt (labN n) i;rw [<-hn3] at this;exact this
 have hbt:∀ i l,(labN n)[i]? = some l->bt n (qh (labN n) i)=l.length:=fun i l h=>by
  have:=bt_pos hn2 h
  rw [<-hn3] at this;exact this
 have hbe:bt n (qh (labN n) (labN n).length)=0:=by
  have:=bt_end (labN n)
  rw [<-hn3] at this;exact this
 have hll:=pos_end (labN n)
 rw [<-hn3] at hll
 generalize labN n=ls at hn2 hn3 hend hbt hbe hll
 have hcnt:∀ i,i<=ls.length->i<=qh ls i:=fun i=>by
  induction i with
  |zero=>intro _;exact p6 _
  |succ i ih =>
   intro h
   have:=ih (by omega)
   have:=jb9 (ls:=ls) (i:=i) (j:=i+1) (by omega) h
   omega
 have hlc:=hcnt ls.length (pr _)
 refine .inv Nat (fun i=>i<=ls.length) (fun i=>[(3,iV (qh ls i))]) (fun i=>[(0,.cells 3 [iV i]),(4,.cells 3 [iV (qh ls i)])]) (fun i=>ls.length - i) ⟨0,[0,1,2,3,4,5,6],p6 _,?_⟩ ?_
 ·conv=>whnf
  repeat'(first|exact ⟨⟩|exact rfl|exact qa _|exact .inr rfl|exact fun _ _=>rfl|exact noI|apply And.intro)
 intro i hi
 have hp:=hend i
 conv=>whnf
 refine brT (pn (by omega)) ?_
 conv=>whnf
 refine⟨by omega,?_⟩
 conv=>whnf
 rw[yn,qd (bt n (qh ls i):Int) (by have:=qb4 n (qh ls i);omega)]
 rcases ot i ls.length with hlt|hge
 ·have hli:ls[i]? = some ls[i]:=pp hlt
  have hb:=hbt i _ hli
  have hok:=hn2 _ (gv hlt)
  have hps:=qm1 hli
  have hp2:=hend (i+1)
  rw[hb]
  generalize ls[i]=l at hli hb hok hps
  obtain⟨ho1,ho2⟩:=hok
  refine brF (by rw[o9];omega) ?_
  conv=>whnf
  refine brF (po (by omega)) ?_
  conv=>whnf
  have e1:IntKind.i64.wrap ((n.length:Int) - (qh ls i:Int))=((n.length - qh ls i:Nat):Int):=by rw[qd _ (by omega)];omega
  rw[e1]
  refine brF (po (by omega)) ?_
  conv=>whnf
  have e2:IntKind.i64.wrap ((qh ls i:Int)+IntKind.i64.wrap (1+(l.length:Int)))=((qh ls (i+1):Nat):Int):=by rw[qd (1+(l.length:Int)) (by omega),qd _ (by omega)];omega
  rw[e2]
  have e3:IntKind.i64.wrap ((qh ls i:Int)+1)=((qh ls i+1:Nat):Int):=by rw[qd _ (by omega)];omega
  have e4:=w64s i (by omega)
  rw[e3]
  refine⟨by omega,?_⟩
  conv=>whnf
  rw[e4]
  refine⟨i+1,[0,1,2,3,4,5,6],hlt,by omega,?_⟩
  conv=>whnf
  repeat'(first|exact ⟨⟩|exact rfl|exact qa _|exact .inr rfl|exact fun _ _=>rfl|exact noI|apply And.intro)
 ·have hil:i=ls.length:=by omega
  subst hil
  rw[hbe]
  conv=>whnf
  refine brT rfl ?_
  conv=>whnf
  try exact rfl
structure Zo where
 apex:List UInt8
 z:Bool
 rrs:List RR
instance:Inhabited Zo:=⟨⟨[],true,[]⟩⟩
def zy(apex:List UInt8)(r:RR):Bool:=r.cl == 1 && (r.ty != 41 && (r.ttl != 0 && (r.check && jg r.nm apex)))
def keyZ(r:RR):List UInt8 × Int × Int × List UInt8:=(fold r.nm,r.ty,r.cl,vt r.ty r.d)
def cntZ(p:RR->Bool)(l:List RR)(n:List UInt8):Nat:=(l.filter fun r=>fold r.nm == n && p r).length
def zr(r:RR):Bool:=r.ty == 6
def isNs(r:RR):Bool:=r.ty == 2
def vl(r:RR):Bool:=r.ty == 5
def j3(r:RR):Bool:=r.ty == 1 || r.ty == 28
def anyR(_:RR):Bool:=true
def upsF:Nat->List UInt8->List (List UInt8)
 |0,_=>[]
 |k+1,n=>n :: (if n=[0] then [] else upsF k (n.drop (1+bt n 0)))
def upsN(n:List UInt8):List (List UInt8):=if qc n then upsF n.length n else []
def zx(l:List RR)(name top:List UInt8):List (List UInt8)->Bool
 |[]=>true
 |u :: r=>if u=top then true else if u≠name/\0<cntZ isNs l u then cntZ anyR l name == cntZ j3 l name else zx l name top r
def q8(l:List RR)(top name:List UInt8):Bool :=
 if 0<cntZ vl l name/\1<cntZ anyR l name then false else if name=top then true
 else if 0<cntZ zr l name\/(0<cntZ isNs l name/\cntZ isNs l name+cntZ j3 l name<cntZ anyR l name) then false
 else zx l name top (upsN name)
def wl(z:Zo):Bool:=cntZ zr z.rrs (fold z.apex) == 1 && (cntZ isNs z.rrs (fold z.apex) != 0 && z.rrs.all fun r=>q8 z.rrs (fold z.apex) (fold r.nm))
def qa7:List RR->Bool
 |[]=>true
 |r :: l=>(l.all fun x=>keyZ x != keyZ r) && qa7 l
def Zo.ok(z:Zo):Bool:=decide (qc z.apex) && (decide (z.rrs.length<=256) && (z.rrs.all (zy z.apex) && (qa7 z.rrs && wl z)))
def Zo.cutL(z:Zo):List (List UInt8):=(z.rrs.filter fun r=>isNs r && !xr r.nm z.apex).map (·.nm)
section
section
variable{K V:Type}[DecidableEq K]
def aget:List (K × V)->K->Option V
 |[],_=>none
 |e :: l,k=>if k=e.1 then some e.2 else aget l k
def aput:List (K × V)->K->V->List (K × V)
 |[],k,v=>[(k,v)]
 |e :: l,k,v=>if k=e.1 then (k,v) :: l else e :: aput l k v
theorem qv1(l:List (K × V))(k:K)(v:V)(k':K):aget (aput l k v) k'=if k'=k then some v else aget l k':=by
 induction l with
 |nil=>simp[aput,aget]
 |cons e l ih =>
  simp only[aput]
  split
  ·rename_i h
   subst h
   simp only[aget]
   split <;> simp_all
  ·rename_i h
   simp only[aget,ih]
   split
   ·rename_i h1
    rw[if_neg (fun e1:k'=k=>h (e1.symm.trans h1))]
   ·rfl
def aenc(ek:K->List DV)(ev:V->List SV)(l:List (K × V)):List (List DV × List SV):=l.map fun e=>(ek e.1,ev e.2)
theorem xe{ek:K->List DV}{ev:V->List SV}(hk:∀ a b,ji (ek a) (ek b)=decide (a=b))(l:List (K × V))(k:K):yz (aenc ek ev l) (ek k)=(aget l k).map ev:=by
 induction l with
 |nil=>rfl
 |cons e l ih =>
  show(if ji (ek k) (ek e.1) then some (ev e.2) else yz (aenc ek ev l) (ek k))=_
  rw[hk,ih,aget]
  by_cases h:k=e.1
  ·simp[h]
  ·simp[h]
theorem qd4{ek:K->List DV}{ev:V->List SV}(hk:∀ a b,ji (ek a) (ek b)=decide (a=b))(l:List (K × V))(k:K)(v:V):putM (aenc ek ev l) (ek k) (ev v)=aenc ek ev (aput l k v):=by
 induction l with
 |nil=>rfl
 |cons e l ih =>
  show(if ji (ek k) (ek e.1) then _ else (ek e.1,ev e.2) :: putM (aenc ek ev l) (ek k) (ev v))=_
  rw[hk,ih,aput]
  by_cases h:k=e.1
  ·simp[h,aenc]
  ·simp[h,aenc]
end
def strK(s:List UInt8):List DV:=[.str s]
theorem y8(a b:List UInt8):ji (strK a) (strK b)=decide (a=b):=by
 rw[l5]
 simp[strK,ji,dEq]
def z7(k:List UInt8 × Int × Int × List UInt8):List DV:=[.str k.1,.int .u16 k.2.1,.int .u16 k.2.2.1,.str k.2.2.2]
theorem saidK_eq(a b:List UInt8 × Int × Int × List UInt8):ji (z7 a) (z7 b)=decide (a=b):=by
 rw[l5]
 obtain⟨a1,a2,a3,a4⟩:=a
 obtain⟨b1,b2,b3,b4⟩:=b
 simp[z7,ji,dEq,kEq]
structure Hd where
 all:Nat
 soa:Nat
 ns:Nat
 alias:Nat
 addr:Nat
deriving DecidableEq
def Hd.no:Hd:=⟨0,0,0,0,0⟩
def Hd.enc(h:Hd):List SV:=[.d (.int .i64 (h.all:Nat)),.d (.int .i64 (h.soa:Nat)),.d (.int .i64 (h.ns:Nat)),.d (.int .i64 (h.alias:Nat)),.d (.int .i64 (h.addr:Nat))]
def Hd.add(h:Hd)(r:RR):Hd:=⟨h.all+1,if r.ty=6 then h.soa+1 else h.soa,if r.ty=2 then h.ns+1 else h.ns,if r.ty=5 then h.alias+1 else h.alias,if r.ty=1\/r.ty=28 then h.addr+1 else h.addr⟩
def j5(l:List RR)(n:List UInt8):Hd:=⟨cntZ anyR l n,cntZ zr l n,cntZ isNs l n,cntZ vl l n,cntZ j3 l n⟩
def qb:List RR->List (List UInt8 × Hd)
 |l=>l.foldl (fun m r=>aput m (fold r.nm) (((aget m (fold r.nm)).getD Hd.no).add r)) []
theorem cnt_snoc(p:RR->Bool)(l:List RR)(r:RR)(n:List UInt8):cntZ p (l++[r]) n=cntZ p l n+(if fold r.nm=n/\p r=true then 1 else 0):=by
 unfold cntZ
 rw[sr,pv]
 congr 1
 by_cases h:fold r.nm=n <;> cases hp:p r <;> simp[h,hp]
theorem ub(l:List RR)(r:RR):qb (l++[r])=aput (qb l) (fold r.nm) (((aget (qb l) (fold r.nm)).getD Hd.no).add r):=by
 unfold qb
 rw[List.foldl_append]
 rfl
theorem holds_snoc(l:List RR)(r:RR)(n:List UInt8):j5 (l++[r]) n=if n=fold r.nm then (j5 l n).add r else j5 l n:=by
 unfold j5 Hd.add
 simp only[cnt_snoc]
 by_cases h:n=fold r.nm
 ·rw[if_pos h]
  have h':fold r.nm=n:=h.symm
  simp only[h',true_and,anyR,zr,isNs,vl,j3,if_true,m8,co]
  congr 1 <;> (split <;> rfl)
 ·rw[if_neg h]
  have h':¬ fold r.nm=n:=fun e=>h e.symm
  simp[h']
theorem qf9{α:Type}{P:List α->Prop}(h0:P [])(h1:∀ l a,P l->P (l++[a])):∀ l,P l:=fun l=>by
 rw[<-l.reverse_reverse]
 induction l.reverse with
 |nil=>exact h0
 |cons a m ih=>rw[List.reverse_cons];exact h1 _ _ ih
theorem qf3(l:List RR)(n:List UInt8):(aget (qb l) n).getD Hd.no=j5 l n:=by
 refine qf9 (P:=fun l=>(aget (qb l) n).getD Hd.no=j5 l n) rfl (fun l r ih=>?_) l
 ·rw[ub,qv1,holds_snoc]
  by_cases h:n=fold r.nm
  ·rw[if_pos h,if_pos h,<-h,ih]
   rfl
  ·rw[if_neg h,if_neg h,ih]
theorem aget_mem{K V:Type}[DecidableEq K]{l:List (K × V)}{k:K}{v:V}(h:aget l k=some v):(k,v) ∈ l:=by
 induction l with
 |nil=>cases h
 |cons e l ih =>
  simp only [aget] at h
  split at h
  ·rename_i e1
   simp only [m9] at h
   subst e1 h
   exact lq ..
  ·exact lv _ (ih h)
def Keys{K V:Type}(l:List (K × V)):Prop:=l.Pairwise fun e e'=>e.1≠e'.1
theorem mem_aget{K V:Type}[DecidableEq K]{l:List (K × V)}(hk:Keys l){e:K × V}(h:e ∈ l):aget l e.1=some e.2:=by
 induction l with
 |nil=>cases h
 |cons x l ih =>
  obtain⟨h1,h2⟩:=dz.1 hk
  simp only[aget]
  rcases pu.1 h with rfl|h
  ·rw[if_pos rfl]
  ·rw[if_neg (fun e1=>h1 e h e1.symm),ih h2 h]
theorem aput_mem{K V:Type}[DecidableEq K]{l:List (K × V)}{k:K}{v:V}{e:K × V}(h:e ∈ aput l k v):e=(k,v)\/e ∈ l:=by
 induction l with
 |nil=>exact .inl (by simpa[aput] using h)
 |cons x l ih =>
  simp only [aput] at h
  split at h
  ·rcases pu.1 h with rfl|h
   ·exact .inl rfl
   ·exact .inr (lv _ h)
  ·rcases pu.1 h with rfl|h
   ·exact .inr (lq ..)
   ·exact(ih h).imp id (lv _)
theorem aput_keys{K V:Type}[DecidableEq K]{l:List (K × V)}(hk:Keys l)(k:K)(v:V):Keys (aput l k v):=by
 induction l with
 |nil=>exact List.pairwise_singleton _ _
 |cons x l ih =>
  obtain⟨h1,h2⟩:=dz.1 hk
  simp only[aput]
  split
  ·rename_i e
   subst e
   exact dz.2 ⟨h1,h2⟩
  ·rename_i e
   refine dz.2 ⟨fun y hy=>?_,ih h2⟩
   rcases aput_mem hy with rfl|hy
   ·exact fun e1=>e e1.symm
   ·exact h1 y hy
theorem ji9(l:List RR):Keys (qb l):=by
 refine qf9 (P:=fun l=>Keys (qb l)) List.Pairwise.nil (fun l r ih=>?_) l
 rw[ub]
 exact aput_keys ih _ _
theorem namesL_mem{l:List RR}{e:List UInt8 × Hd}(h:e ∈ qb l):e.2=j5 l e.1:=by
 have:=qf3 l e.1
 rw [mem_aget (ji9 l) h] at this
 exact this
theorem namesL_of{l:List RR}{e:List UInt8 × Hd}(h:e ∈ qb l):∃ r ∈ l,fold r.nm=e.1:=by
 revert e
 refine qf9 (P:=fun l=>∀ {e:List UInt8 × Hd},e ∈ qb l->∃ r ∈ l,fold r.nm=e.1) (fun h=>by cases h) (fun l r ih e h=>?_) l
 rw [ub] at h
 rcases aput_mem h with rfl|h
 ·exact⟨r,by simp,rfl⟩
 ·obtain⟨x,hx,e1⟩:=ih h
  exact⟨x,by simp[hx],e1⟩
theorem namesL_has{l:List RR}{r:RR}(h:r ∈ l):∃ e ∈ qb l,e.1=fold r.nm:=by
 revert r
 refine qf9 (P:=fun l=>∀ {r:RR},r ∈ l->∃ e ∈ qb l,e.1=fold r.nm) (fun h=>by cases h) (fun l x ih r h=>?_) l
 have hget:∀ k,(aget (qb (l++[x])) k).isSome->∃ e ∈ qb (l++[x]),e.1=k:=fun k hk=>by
  obtain⟨v,hv⟩:=s9.1 hk
  exact⟨(k,v),aget_mem hv,rfl⟩
 refine hget _ ?_
 rw[ub,qv1]
 split
 ·rfl
 ·rename_i hne
  rcases mn.1 h with h|h
  ·obtain⟨e,he,e1⟩:=ih h
   rw[<-e1,mem_aget (ji9 l) he]
   rfl
  ·simp at h
   subst h
   exact absurd rfl hne
theorem names_all(l:List RR)(p:List UInt8->Bool):((qb l).all fun e=>p e.1)=l.all fun r=>p (fold r.nm):=by
 rw[l5,lw,lw]
 constructor
 ·intro h r hr
  obtain⟨e,he,e1⟩:=namesL_has hr
  rw[<-e1]
  exact h e he
 ·intro h e he
  obtain⟨r,hr,e1⟩:=namesL_of he
  rw[<-e1]
  exact h r hr
theorem aput_new{K V:Type}[DecidableEq K]{l:List (K × V)}{k:K}(h:aget l k=none)(v:V):aput l k v=l++[(k,v)]:=by
 induction l with
 |nil=>rfl
 |cons x l ih =>
  simp only [aget] at h
  split at h
  ·cases h
  ·rename_i hne
   simp only[aput]
   rw[if_neg hne,ih h]
   rfl
def jr(l:List RR):List ((List UInt8 × Int × Int × List UInt8) × Nat):=l.map fun r=>(keyZ r,1)
theorem said_get(l:List RR)(k:List UInt8 × Int × Int × List UInt8):aget (jr l) k=if l.any (fun r=>keyZ r == k) then some 1 else none:=by
 induction l with
 |nil=>rfl
 |cons r l ih =>
  show(if k=keyZ r then some 1 else aget (jr l) k)=_
  rw[ih,List.any_cons]
  by_cases h:k=keyZ r
  ·subst h;simp
  ·have h':(keyZ r == k)=false:=by simpa using fun e=>h e.symm
   rw[if_neg h,h',ay]
theorem said_snoc(l:List RR)(r:RR):jr (l++[r])=jr l++[(keyZ r,1)]:=by unfold jr;simp
theorem once_snoc(l:List RR)(r:RR):qa7 (l++[r])=(qa7 l && !l.any (fun x=>keyZ x == keyZ r)):=by
 induction l with
 |nil=>rfl
 |cons x l ih =>
  show(((l++[r]).all fun y=>keyZ y != keyZ x) && qa7 (l++[r]))=((l.all fun y=>keyZ y != keyZ x) && qa7 l && !((keyZ x == keyZ r) || l.any fun y=>keyZ y == keyZ r))
  rw[ih,c9,List.all_cons,List.all_nil,Bool.and_true]
  have e:(keyZ r != keyZ x) = !(keyZ x == keyZ r):=by
   rw[l5]
   simp only[bne_iff_ne,bn,o9]
   exact⟨fun h e=>h e.symm,fun h e=>h e.symm⟩
  rw[e]
  cases (l.all fun y=>keyZ y != keyZ x) <;> cases qa7 l <;> cases (keyZ x == keyZ r) <;> cases (l.any fun y=>keyZ y == keyZ r) <;> rfl
def xj(apex:List UInt8)(l:List RR):Bool:=l.all (zy apex) && qa7 l
theorem jl1(apex:List UInt8)(l:List RR)(r:RR):xj apex (l++[r])=(xj apex l && (zy apex r && !l.any (fun x=>keyZ x == keyZ r))):=by
 unfold xj
 rw[once_snoc,c9,List.all_cons,List.all_nil,Bool.and_true]
 cases l.all (zy apex) <;> cases qa7 l <;> cases zy apex r <;> cases (l.any fun y=>keyZ y == keyZ r) <;> rfl
theorem taken_bad{apex:List UInt8}{l:List RR}{i:Nat}(h:xj apex (l.take i)=false):xj apex l=false:=by
 have hl:l=l.take i++l.drop i:=(cq i l).symm
 cases e:xj apex l with
 |false=>rfl
 |true =>
  exfalso
  have:∀ (m n:List RR),xj apex (m++n)=true->xj apex m=true:=by
   intro m n
   refine qf9 (P:=fun n=>xj apex (m++n)=true->xj apex m=true) (fun h=>by rwa [mv] at h) (fun n r ih h=>?_) n
   rw [<-m6,jl1,oq] at h
   exact ih h.1
  rw [hl] at e
  rw [this _ _ e] at h
  cases h
theorem Zo.ok_eq(z:Zo):z.ok=(decide (qc z.apex) && (decide (z.rrs.length<=256) && (xj z.apex z.rrs && wl z))):=by
 unfold Zo.ok xj
 rw[Bool.and_assoc (z.rrs.all (zy z.apex))]
end
theorem within_law{n z:List UInt8}(hn:qc n)(hz:qc z)(hl:z.length<=n.length)(b:Bool)(hb:b=true↔∃ j,j<=(labN n).length/\qh (labN n) j=n.length - z.length) :
 (b && (fold (n.drop (n.length - z.length)) == fold z))=jg n z:=by
 rw[l5,withinN_iff,oq,hb,m8]
 constructor
 ·rintro ⟨⟨j,hj,hp⟩,hf⟩
  refine⟨hn,hz,j,hj,?_⟩
  exact(within_at hn hz (j:=j) (by omega)).1 (by rw[hp];exact hf)
 ·rintro ⟨_,_,j,hj,hf⟩
  have hp:=jk8 hn hz hf
  refine⟨⟨j,hj,by omega⟩,?_⟩
  have:=(within_at hn hz (j:=j) hp).2 hf
  rwa [show qh (labN n) j=n.length - z.length by omega] at this
theorem within_long{n z:List UInt8}(hl:n.length<z.length):jg n z=false:=by
 cases h:jg n z
 ·rfl
 ·obtain⟨hn,hz,j,_,hf⟩:=withinN_iff.1 h
  have:=jk8 hn hz hf
  omega
theorem within_ok(n z:List UInt8):FnOk Tryz.prog 75 [.d (.str n),.d (.str z)] (.d (.bool (jg n z))):=by
 refine qz (TT:=TT) (IN:=qi [(107,Tryz.f107,1),(139,Tryz.f139,2)]) qk (ju (ju qm Tryz.func139 (by kernel_rfl) (by kernel_rfl)) Tryz.func107 (by kernel_rfl) (by kernel_rfl)) mixed 1000 Tryz.func75 rfl (qe Tryz.func75 (by kernel_rfl) rfl) rfl 50 (by kernel_rfl) ?_
 conv=>whnf
 refine oD (y7 n) rfl rfl ?_
 by_cases hn:qc n
 case neg =>
  rw[if_neg hn,show jg n z=false by unfold jg;rw[po hn];rfl]
  conv=>whnf
  repeat(first|(refine brT rfl ?_;conv=>whnf))
  try exact rfl
 rw[if_pos hn]
 conv=>whnf
 refine brF rfl ?_
 conv=>whnf
 refine oD (y7 z) rfl rfl ?_
 by_cases hz:qc z
 case neg =>
  rw[if_neg hz,show jg n z=false by unfold jg;rw[po hz,f8,f9]]
  conv=>whnf
  repeat(first|(refine brT rfl ?_;conv=>whnf))
  try exact rfl
 rw[if_pos hz]
 conv=>whnf
 refine brF rfl ?_
 conv=>whnf
 refine⟨fun h1=>?_,fun h1=>?_⟩
 ·have h1:(z.length:Int) > n.length:=pw h1
  rw[within_long (by omega)]
  conv=>whnf
  try exact rfl
 have h1:¬ (z.length:Int) > n.length:=px h1
 obtain⟨hn1,hn2,hn3⟩:=xg hn
 have hz1:=hz.2.1
 have hmw:IntKind.i64.wrap ((n.length:Int) - (z.length:Int))=((n.length - z.length:Nat):Int):=by rw[qd _ (by omega)];omega
 have hlaw:=within_law hn hz (by omega)
 have hzero:(((n.length - z.length:Nat):Int) == 0)=decide (n.length - z.length=0):=by rw[l5];simp
 conv=>whnf
 rw[hmw,hzero]
 have hend:∀ i,qh (labN n) i<n.length:=fun i=>by have:=pos_lt (labN n) i;rw [<-hn3] at this;exact this
 have hbt:∀ i l,(labN n)[i]? = some l->bt n (qh (labN n) i)=l.length:=fun i l h=>by
  have:=bt_pos hn2 h
  rw [<-hn3] at this;exact this
 have hbe:bt n (qh (labN n) (labN n).length)=0:=by
  have:=bt_end (labN n)
  rw [<-hn3] at this;exact this
 generalize labN n=ls at hn2 hn3 hlaw hend hbt hbe
 obtain⟨m,hm⟩:∃ m,n.length - z.length=m:=⟨_,rfl⟩
 rw [hm] at hlaw ⊢
 refine .inv Nat (fun i=>i<=ls.length/\∀ j,0<j->j<=i->qh ls j<m) (fun i=>[(3,iV (qh ls i))]) (fun _=>[]) (fun i=>ls.length - i) ⟨0,[0,1,2,3],⟨p6 _,fun j h1 h2=>by omega⟩,?_⟩ ?_
 ·conv=>whnf
  repeat'(first|exact ⟨⟩|exact rfl|exact qa _|exact .inr rfl|exact fun _ _=>rfl|exact noI|apply And.intro)
 intro i hi
 obtain⟨hi1,hi2⟩:=hi
 have hp:=hend i
 conv=>whnf
 refine brT (pn (by omega)) ?_
 conv=>whnf
 refine⟨by omega,?_⟩
 conv=>whnf
 rw[yn,qd (bt n (qh ls i):Int) (by have:=qb4 n (qh ls i);omega)]
 rcases ot i ls.length with hlt|hge
 ·have hli:ls[i]? = some ls[i]:=pp hlt
  have hb:=hbt i _ hli
  have hok:=hn2 _ (gv hlt)
  have hps:=qm1 hli
  have hp2:=hend (i+1)
  rw[hb]
  generalize ls[i]=l at hli hb hok hps
  obtain⟨ho1,ho2⟩:=hok
  refine brF (by rw[o9];omega) ?_
  conv=>whnf
  refine brF (po (by omega)) ?_
  conv=>whnf
  have e1:IntKind.i64.wrap ((n.length:Int) - (qh ls i:Int))=((n.length - qh ls i:Nat):Int):=by rw[qd _ (by omega)];omega
  rw[e1]
  refine brF (po (by omega)) ?_
  conv=>whnf
  have e2:IntKind.i64.wrap ((qh ls i:Int)+IntKind.i64.wrap (1+(l.length:Int)))=((qh ls (i+1):Nat):Int):=by rw[qd (1+(l.length:Int)) (by omega),qd _ (by omega)];omega
  rw[e2]
  refine⟨fun h2=>?_,fun h2=>?_⟩
  ·have h2:m<=qh ls (i+1):=by
    have h:((qh ls (i+1):Nat):Int) >= (m:Int):=pw h2
    omega
   conv=>whnf
   refine⟨fun h3=>?_,fun h3=>?_⟩
   ·have h3:m=0:=pw h3
    conv=>whnf
    rw[<-hlaw true ⟨fun _=>⟨0,p6 _,h3.symm⟩,fun _=>rfl⟩]
    refine⟨by omega,?_⟩
    conv=>whnf
    rw[qf5]
    refine oD (x5 _ (by rw[o6];omega)) rfl rfl ?_
    conv=>whnf
    refine oD (x5 z (by omega)) rfl rfl ?_
    conv=>whnf
    try exact rfl
   ·have h3:¬ m=0:=px h3
    conv=>whnf
    refine⟨fun h4=>?_,fun h4=>?_⟩
    ·have h4:qh ls (i+1)=m:=by simp at h4;omega
     conv=>whnf
     rw[<-hlaw true ⟨fun _=>⟨i+1,hlt,h4⟩,fun _=>rfl⟩]
     refine⟨by omega,?_⟩
     conv=>whnf
     rw[qf5]
     refine oD (x5 _ (by rw[o6];omega)) rfl rfl ?_
     conv=>whnf
     refine oD (x5 z (by omega)) rfl rfl ?_
     conv=>whnf
     try exact rfl
    ·have h4:¬ qh ls (i+1)=m:=by simp at h4;omega
     have hno:¬ ∃ j,j<=ls.length/\qh ls j=m:=by
      rintro ⟨j,j1,j2⟩
      rcases ct j (i+1) with x|x|x
      ·rcases gz j with y|y
       ·subst y;exact h3 j2.symm
       ·have:=hi2 j y (by omega);omega
      ·subst x;exact h4 j2
      ·have:=jb9 x j1;omega
     rw[<-hlaw false ⟨fun h=>(by cases h),fun h=>absurd h hno⟩]
     conv=>whnf
     try exact rfl
  ·have h2:qh ls (i+1)<m:=by
    have h:¬ ((qh ls (i+1):Nat):Int) >= (m:Int):=px h2
    omega
   conv=>whnf
   refine⟨i+1,[0,1,2,3],⟨hlt,fun j k1 k2=>?_⟩,by omega,?_⟩
   ·rcases ot j (i+1) with x|x
    ·exact hi2 j k1 (by omega)
    ·rw[show j=i+1 by omega];exact h2
   conv=>whnf
   repeat'(first|exact ⟨⟩|exact rfl|exact qa _|exact .inr rfl|exact fun _ _=>rfl|exact noI|apply And.intro)
 ·have hil:i=ls.length:=by omega
  subst hil
  rw[hbe]
  conv=>whnf
  refine brT rfl ?_
  conv=>whnf
  refine⟨fun h3=>?_,fun h3=>?_⟩
  ·have h3:m=0:=pw h3
   conv=>whnf
   rw[<-hlaw true ⟨fun _=>⟨0,p6 _,h3.symm⟩,fun _=>rfl⟩]
   refine⟨by omega,?_⟩
   conv=>whnf
   rw[qf5]
   refine oD (x5 _ (by rw[o6];omega)) rfl rfl ?_
   conv=>whnf
   refine oD (x5 z (by omega)) rfl rfl ?_
   conv=>whnf
   try exact rfl
  ·have h3:¬ m=0:=px h3
   have hno:¬ ∃ j,j<=ls.length/\qh ls j=m:=by
    rintro ⟨j,j1,j2⟩
    rcases gz j with y|y
    ·subst y;exact h3 j2.symm
    ·have:=hi2 j y j1;omega
   rw[<-hlaw false ⟨fun h=>(by cases h),fun h=>absurd h hno⟩]
   conv=>whnf
   try exact rfl
section
def rot{α:Type}(p:Nat->α)(a m b:Nat):Nat->α:=fun x=>if a<=x/\x<a+(b - m) then p (x+(m - a)) else if a+(b - m)<=x/\x<b then p (x - (b - m)) else p x
def swp{α:Type}(p:Nat->α)(a b n:Nat):Nat->α:=fun x=>if a<=x/\x<a+n then p (x+(b - a)) else if b<=x/\x<b+n then p (x - (b - a)) else p x
theorem rot_id1{α:Type}(p:Nat->α)(a b:Nat)(h:a<=b):rot p a a b=p:=by
 funext x;unfold rot;(try dsimp only);repeat' split
 all_goals first|rfl|(exfalso;omega)|(congr 1;omega)
theorem rot_id2{α:Type}(p:Nat->α)(a b:Nat)(h:a<=b):rot p a b b=p:=by
 funext x;unfold rot;(try dsimp only);repeat' split
 all_goals first|rfl|(exfalso;omega)|(congr 1;omega)
theorem swp_zero{α:Type}(p:Nat->α)(a b:Nat):swp p a b 0=p:=by
 funext x;unfold swp;(try dsimp only);repeat' split
 all_goals first|rfl|(exfalso;omega)
theorem rot_left{α:Type}(p:Nat->α)(m i j:Nat)(hi:j<i)(him:i<=m):rot (swp p (m - i) m j) (m - (i - j)) m (m+j)=rot p (m - i) m (m+j):=by
 funext x;unfold rot swp;try dsimp only
 repeat' split
 all_goals first|rfl|(exfalso;omega)|(congr 1;omega)
theorem rot_right{α:Type}(p:Nat->α)(m i j:Nat)(hi:i<j)(him:i<=m):rot (swp p (m - i) (m+j - i) i) (m - i) m (m+(j - i))=rot p (m - i) m (m+j):=by
 funext x;unfold rot swp;try dsimp only
 repeat' split
 all_goals first|rfl|(exfalso;omega)|(congr 1;omega)
theorem rot_same{α:Type}(p:Nat->α)(m i:Nat)(him:i<=m):swp p (m - i) m i=rot p (m - i) m (m+i):=by
 funext x;unfold rot swp;try dsimp only
 repeat' split
 all_goals first|rfl|(exfalso;omega)|(congr 1;omega)
theorem swp_one{α:Type}(p:Nat->α)(a b n:Nat)(hb:a+n<b):swp (swp p a b n) (a+n) (b+n) 1=swp p a b (n+1):=by
 funext x;unfold swp;try dsimp only
 repeat' split
 all_goals first|rfl|(exfalso;omega)|(congr 1;omega)
theorem rot_up{α:Type}(p:Nat->α)(a k:Nat)(h:a<=k):swp (rot p a (a+1) (k+1)) k (k+1) 1=rot p a (a+1) (k+2):=by
 funext x;unfold rot swp;try dsimp only
 repeat' split
 all_goals first|rfl|(exfalso;omega)|(congr 1;omega)
theorem rot_down{α:Type}(p:Nat->α)(m k:Nat)(h:k+1<=m):swp (rot p (k+1) m (m+1)) k (k+1) 1=rot p k m (m+1):=by
 funext x;unfold rot swp;try dsimp only
 repeat' split
 all_goals first|rfl|(exfalso;omega)|(congr 1;omega)
structure Inj(n:Nat)(p:Nat->Nat):Prop where
 lt:∀ i,i<n->p i<n
 un:∀ i j,i<n->j<n->p i=p j->i=j
theorem Inj.surj:∀ {n:Nat} {p:Nat->Nat},Inj n p->∀ j,j<n->∃ i,i<n/\p i=j
 |0,_,_=>fun j h=>absurd h (by omega)
 |n+1,p,h=>fun j hj=>by
  have ih:=Inj.surj (n:=n) (p:=fun i=>if p i=n then p n else p i) ⟨fun i hi=>by
   have:=h.lt i (by omega)
   have:=h.lt n (by omega)
   show(if p i=n then p n else p i)<n
   split
   ·rename_i e
    rcases ot (p n) n with hl|hl
    ·exact hl
    ·have:=h.un i n (by omega) (by omega) (by omega)
     omega
   ·omega,fun i k hi hk e=>by
   have e:(if p i=n then p n else p i)=(if p k=n then p n else p k):=e
   split at e <;> split at e
   ·exact h.un i k (by omega) (by omega) (by omega)
   ·have:=h.un n k (by omega) (by omega) e
    omega
   ·have:=h.un i n (by omega) (by omega) e
    omega
   ·exact h.un i k (by omega) (by omega) e⟩
  rcases ot j n with hl|hl
  ·obtain⟨i,hi,e⟩:=ih j hl
   have e:(if p i=n then p n else p i)=j:=e
   split at e
   ·exact⟨n,by omega,e⟩
   ·exact⟨i,by omega,e⟩
  ·have hj:j=n:=by omega
   subst hj
   rcases ot (p j) j with hl|hl
   ·obtain⟨i,hi,e⟩:=ih (p j) hl
    have e:(if p i=j then p j else p i)=p j:=e
    split at e
    ·rename_i e2;exact⟨i,by omega,e2⟩
    ·have:=h.un i j (by omega) (by omega) e
     omega
   ·have:=h.lt j (by omega)
    exact⟨j,by omega,by omega⟩
structure Same(p q:Nat->Nat)(a b:Nat):Prop where
 out:∀ i,¬ (a<=i/\i<b)->q i=p i
 fwd:∀ i,a<=i->i<b->∃ j,a<=j/\j<b/\q i=p j
 bwd:∀ i,a<=i->i<b->∃ j,a<=j/\j<b/\p i=q j
theorem Same.refl(p:Nat->Nat)(a b:Nat):Same p p a b:=⟨fun _ _=>rfl,fun i h1 h2=>⟨i,h1,h2,rfl⟩,fun i h1 h2=>⟨i,h1,h2,rfl⟩⟩
theorem Same.trans{p q r:Nat->Nat}{a b:Nat}(h:Same p q a b)(k:Same q r a b):Same p r a b :=
 ⟨fun i hi=>(k.out i hi).trans (h.out i hi),fun i h1 h2=>by
  obtain⟨j,a1,a2,a3⟩:=k.fwd i h1 h2
  obtain⟨l,b1,b2,b3⟩:=h.fwd j a1 a2
  exact⟨l,b1,b2,a3.trans b3⟩,fun i h1 h2=>by
  obtain⟨j,a1,a2,a3⟩:=h.bwd i h1 h2
  obtain⟨l,b1,b2,b3⟩:=k.bwd j a1 a2
  exact⟨l,b1,b2,a3.trans b3⟩⟩
theorem Same.wide{p q:Nat->Nat}{a b a' b':Nat}(h:Same p q a b)(ha:a'<=a)(hb:b<=b'):Same p q a' b' :=
 ⟨fun i hi=>h.out i (fun e=>hi (by omega)),fun i h1 h2=>by
  by_cases hi:a<=i/\i<b
  ·obtain⟨j,a1,a2,a3⟩:=h.fwd i hi.1 hi.2
   exact⟨j,by omega,by omega,a3⟩
  ·exact⟨i,h1,h2,h.out i hi⟩,fun i h1 h2=>by
  by_cases hi:a<=i/\i<b
  ·obtain⟨j,a1,a2,a3⟩:=h.bwd i hi.1 hi.2
   exact⟨j,by omega,by omega,a3⟩
  ·exact⟨i,h1,h2,(h.out i hi).symm⟩⟩
theorem jb7(p:Nat->Nat)(a m b:Nat)(h1:a<=m)(h2:m<=b):Same p (rot p a m b) a b:=by
 refine⟨fun i hi=>?_,fun i ha hb=>?_,fun i ha hb=>?_⟩
 ·unfold rot;repeat' split
  all_goals first|rfl|(exfalso;omega)
 ·unfold rot
  split
  ·exact⟨i+(m - a),by omega,by omega,rfl⟩
  ·split
   ·exact⟨i - (b - m),by omega,by omega,rfl⟩
   ·omega
 ·by_cases hm:i<m
  ·refine⟨i+(b - m),by omega,by omega,?_⟩
   unfold rot
   rw[if_neg (by omega),if_pos (by omega)]
   congr 1;omega
  ·refine⟨i - (m - a),by omega,by omega,?_⟩
   unfold rot
   rw[if_pos (by omega)]
   congr 1;omega
theorem Inj.rot{n:Nat}{p:Nat->Nat}(h:Inj n p){a m b:Nat}(h1:a<=m)(h2:m<=b)(h3:b<=n):Inj n (rot p a m b):=by
 have key:∀ i,i<n->∃ j,j<n/\YtoefgnnkajhmiaaGreatDoor.rot p a m b i=p j/\((a<=i/\i<a+(b - m)/\j=i+(m - a))\/(a+(b - m)<=i/\i<b/\j=i - (b - m))\/(¬ (a<=i/\i<b)/\j=i)):=fun i hi=>by
  unfold YtoefgnnkajhmiaaGreatDoor.rot
  split
  ·exact⟨_,by omega,rfl,by omega⟩
  ·split
   ·exact⟨_,by omega,rfl,by omega⟩
   ·exact⟨_,hi,rfl,by omega⟩
 refine⟨fun i hi=>?_,fun i j hi hj e=>?_⟩
 ·obtain⟨k,a1,a2,_⟩:=key i hi
  rw[a2];exact h.lt k a1
 ·obtain⟨k,a1,a2,a3⟩:=key i hi
  obtain⟨l,b1,b2,b3⟩:=key j hj
  rw [a2,b2] at e
  have:=h.un k l a1 b1 e
  omega
section
variable(L:Nat->Nat->Prop)
def Rise(p:Nat->Nat)(a b:Nat):Prop:=∀ i j,a<=i->i<j->j<b->L (p i) (p j)
def Sep(p:Nat->Nat)(a m b:Nat):Prop:=∀ i j,a<=i->i<m->m<=j->j<b->p i<p j
structure Ord(n:Nat):Prop where
 trans:∀ i j k,i<n->j<n->k<n->L i j->L j k->L i k
 irr:∀ i,i<n->¬ L i i
 tot:∀ i j,i<n->j<n->i≠j->L i j\/L j i
variable{L}{n:Nat}{p:Nat->Nat}
theorem Rise.sub{a b a' b':Nat}(h:Rise L p a b)(ha:a<=a')(hb:b'<=b):Rise L p a' b':=fun i j h1 h2 h3=>h i j (by omega) h2 (by omega)
theorem Rise.congr{q:Nat->Nat}{a b:Nat}(h:Rise L p a b)(he:∀ i,a<=i->i<b->q i=p i):Rise L q a b:=fun i j h1 h2 h3=>by
 rw[he i h1 (by omega),he j (by omega) h3];exact h i j h1 h2 h3
structure Cut(p:Nat->Nat)(a m b s e:Nat):Prop where
 sa:a<=s
 sm:s<=m
 me:m<=e
 eb:e<=b
 lo:∀ i j,a<=i->i<s->e<=j->j<b->L (p i) (p j)
 hi:∀ i j,s<=i->i<m->m<=j->j<e->L (p j) (p i)
structure Merged(p q:Nat->Nat)(n a b:Nat):Prop where
 inj:Inj n q
 same:Same p q a b
 rise:Rise L q a b
theorem merge_two{a m b s e mid:Nat}(h1:Rise L p a m)(h2:Rise L p m b)(hc:Cut (L:=L) p a m b s e)(hmid:mid=s+(e - m)){q r:Nat->Nat}(hq:Merged (L:=L) (rot p s m e) q n a mid)(hr:Merged (L:=L) q r n mid b):Merged (L:=L) p r n a b:=by
 have hsa:=hc.sa
 have hsm:=hc.sm
 have hme:=hc.me
 have heb:=hc.eb
 have hs:Same p (rot p s m e) a b:=(jb7 p s m e hsm hme).wide hsa heb
 have hpq:Same p q a b:=hs.trans (hq.same.wide (pr _) (by omega))
 refine⟨hr.inj,hpq.trans (hr.same.wide (by omega) (pr _)),fun i j hi hij hj=>?_⟩
 -- what stands below mid,and what above
 have low:∀ i,a<=i->i<mid->∃ k,((a<=k/\k<s)\/(m<=k/\k<e))/\r i=p k:=fun i h3 h4=>by
  rw[hr.same.out i (by omega)]
  obtain⟨k,b1,b2,b3⟩:=hq.same.fwd i h3 h4
  rw[b3]
  unfold rot
  split
  ·exact⟨_,by omega,rfl⟩
  ·split
   ·omega
   ·exact⟨_,by omega,rfl⟩
 have high:∀ i,mid<=i->i<b->∃ k,((s<=k/\k<m)\/(e<=k/\k<b))/\r i=p k:=fun i h3 h4=>by
  obtain⟨k,b1,b2,b3⟩:=hr.same.fwd i h3 h4
  rw[b3,hq.same.out k (by omega)]
  unfold rot
  split
  ·omega
  ·split
   ·exact⟨_,by omega,rfl⟩
   ·exact⟨_,by omega,rfl⟩
 by_cases hjm:j<mid
 ·rw[hr.same.out i (by omega),hr.same.out j (by omega)]
  exact hq.rise i j hi hij hjm
 ·by_cases him:mid<=i
  ·exact hr.rise i j him hij hj
  ·obtain⟨k,a1,a2⟩:=low i hi (by omega)
   obtain⟨l,b1,b2⟩:=high j (by omega) hj
   rw[a2,b2]
   rcases a1 with a1|a1 <;> rcases b1 with b1|b1
   ·exact h1 k l a1.1 (by omega) b1.2
   ·exact hc.lo k l a1.1 a1.2 b1.1 b1.2
   ·exact hc.hi l k b1.1 b1.2 a1.1 a1.2
   ·exact h2 k l a1.1 (by omega) b1.2
theorem merge_up{a b i:Nat}(hp:Inj n p)(hbn:b<=n)(hai:a+1<=i)(hib:i<=b)(h2:Rise L p (a+1) b)(hlo:∀ j,a+1<=j->j<i->L (p j) (p a))(hhi:∀ j,i<=j->j<b->L (p a) (p j)):Merged (L:=L) p (rot p a (a+1) i) n a b:=by
 refine⟨hp.rot (by omega) hai (by omega),(jb7 p a (a+1) i (by omega) hai).wide (pr _) hib,fun x y hx hxy hy=>?_⟩
 unfold rot
 repeat' split
 ·exact h2 _ _ (by omega) (by omega) (by omega)
 ·have e:y - (i - (a+1))=a:=by omega
  rw[e];exact hlo _ (by omega) (by omega)
 ·exact h2 _ _ (by omega) (by omega) (by omega)
 ·omega
 ·omega
 ·have e:x - (i - (a+1))=a:=by omega
  rw[e];exact hhi _ (by omega) (by omega)
 ·omega
 ·omega
 ·exact h2 _ _ (by omega) (by omega) (by omega)
theorem merge_down{a m i:Nat}(hp:Inj n p)(hmn:m<n)(hai:a<=i)(him:i<=m)(h1:Rise L p a m)(hlo:∀ j,a<=j->j<i->L (p j) (p m))(hhi:∀ j,i<=j->j<m->L (p m) (p j)):Merged (L:=L) p (rot p i m (m+1)) n a (m+1):=by
 refine⟨hp.rot him (by omega) (by omega),(jb7 p i m (m+1) him (by omega)).wide hai (pr _),fun x y hx hxy hy=>?_⟩
 unfold rot
 repeat' split
 ·omega
 ·have e:x+(m - i)=m:=by omega
  rw[e];exact hhi _ (by omega) (by omega)
 ·omega
 ·omega
 ·exact h1 _ _ (by omega) (by omega) (by omega)
 ·omega
 ·have e:y+(m - i)=m:=by omega
  rw[e];exact hlo _ (by omega) (by omega)
 ·exact h1 _ _ (by omega) (by omega) (by omega)
 ·exact h1 _ _ (by omega) (by omega) (by omega)
end
structure Weak(n:Nat)(lt:Nat->Nat->Bool):Prop where
 asym:∀ i j,i<n->j<n->lt i j=true->lt j i=false
 trans:∀ i j k,i<n->j<n->k<n->lt i j=true->lt j k=true->lt i k=true
 ntrans:∀ i j k,i<n->j<n->k<n->lt i j=false->lt j k=false->lt i k=false
def LL(lt:Nat->Nat->Bool)(i j:Nat):Prop:=lt i j=true\/(lt j i=false/\i<j)
theorem Weak.irr{n:Nat}{lt:Nat->Nat->Bool}(h:Weak n lt)(i:Nat)(hi:i<n):lt i i=false:=by
 cases e:lt i i
 ·rfl
 ·have:=h.asym i i hi hi e;rw [e] at this;cases this
theorem Weak.ord{n:Nat}{lt:Nat->Nat->Bool}(h:Weak n lt):Ord (LL lt) n:=by
 refine⟨fun i j k hi hj hk a b=>?_,fun i hi a=>?_,fun i j hi hj hne=>?_⟩
 ·rcases a with a|⟨a,a'⟩ <;> rcases b with b|⟨b,b'⟩
  ·exact .inl (h.trans i j k hi hj hk a b)
  ·left
   cases e:lt i k
   ·have:=h.ntrans i k j hi hk hj e b;rw [a] at this;cases this
   ·rfl
  ·left
   cases e:lt i k
   ·have:=h.ntrans j i k hj hi hk a e;rw [b] at this;cases this
   ·rfl
  ·exact .inr ⟨h.ntrans k j i hk hj hi b a,by omega⟩
 ·rcases a with a|⟨_,a⟩
  ·rw [h.irr i hi] at a;cases a
  ·omega
 ·cases e:lt i j
  ·cases e':lt j i
   ·rcases ot i j with hl|hl
    ·exact .inl (.inr ⟨e',hl⟩)
    ·exact .inr (.inr ⟨e,by omega⟩)
   ·exact .inr (.inl e')
  ·exact .inl (.inl e)
theorem cut_of{L:Nat->Nat->Prop}{n a m b s e:Nat}{p:Nat->Nat}(hO:Ord L n)(hp:Inj n p)(hbn:b<=n)(h1:Rise L p a m)(h2:Rise L p m b)(sa:a<=s)(sm:s<=m)(me:m<=e)(eb:e<=b)
 (hlo:s=a\/e=b\/L (p (s - 1)) (p e)) (hhi:s=m\/e=m\/L (p (e - 1)) (p s)):Cut (L:=L) p a m b s e:=by
 refine⟨sa,sm,me,eb,fun i j hi his hj hjb=>?_,fun i j hi him hj hje=>?_⟩
 ·have hl:L (p (s - 1)) (p e):=by
   rcases hlo with h|h|h
   ·omega
   ·omega
   ·exact h
  have hx:L (p i) (p e):=by
   rcases ot i (s - 1) with h|h
   ·exact hO.trans _ _ _ (hp.lt i (by omega)) (hp.lt _ (by omega)) (hp.lt _ (by omega)) (h1 i (s - 1) hi h (by omega)) hl
   ·have:i=s - 1:=by omega
    rw[this];exact hl
  rcases ot e j with h|h
  ·exact hO.trans _ _ _ (hp.lt i (by omega)) (hp.lt _ (by omega)) (hp.lt _ (by omega)) hx (h2 e j me h hjb)
  ·have:j=e:=by omega
   rw[this];exact hx
 ·have hl:L (p (e - 1)) (p s):=by
   rcases hhi with h|h|h
   ·omega
   ·omega
   ·exact h
  have hx:L (p j) (p s):=by
   rcases ot j (e - 1) with h|h
   ·exact hO.trans _ _ _ (hp.lt j (by omega)) (hp.lt _ (by omega)) (hp.lt _ (by omega)) (h2 j (e - 1) hj h (by omega)) hl
   ·have:j=e - 1:=by omega
    rw[this];exact hl
  rcases ot s i with h|h
  ·exact hO.trans _ _ _ (hp.lt j (by omega)) (hp.lt _ (by omega)) (hp.lt _ (by omega)) hx (h1 s i sa h him)
  ·have:i=s:=by omega
   rw[this];exact hx
theorem up_of{L:Nat->Nat->Prop}{n a b i:Nat}{p:Nat->Nat}(hO:Ord L n)(hp:Inj n p)(hbn:b<=n)(hai:a+1<=i)(hib:i<=b)(h2:Rise L p (a+1) b)(hlo:i=a+1\/L (p (i - 1)) (p a))(hhi:i=b\/L (p a) (p i)):Merged (L:=L) p (rot p a (a+1) i) n a b:=by
 refine merge_up hp hbn hai hib h2 (fun j h3 h4=>?_) (fun j h3 h4=>?_)
 ·have hl:L (p (i - 1)) (p a):=by
   rcases hlo with h|h
   ·omega
   ·exact h
  rcases ot j (i - 1) with h|h
  ·exact hO.trans _ _ _ (hp.lt _ (by omega)) (hp.lt _ (by omega)) (hp.lt _ (by omega)) (h2 j (i - 1) h3 h (by omega)) hl
  ·have:j=i - 1:=by omega
   rw[this];exact hl
 ·have hl:L (p a) (p i):=by
   rcases hhi with h|h
   ·omega
   ·exact h
  rcases ot i j with h|h
  ·exact hO.trans _ _ _ (hp.lt _ (by omega)) (hp.lt _ (by omega)) (hp.lt _ (by omega)) hl (h2 i j hai h h4)
  ·have:j=i:=by omega
   rw[this];exact hl
theorem down_of{L:Nat->Nat->Prop}{n a m i:Nat}{p:Nat->Nat}(hO:Ord L n)(hp:Inj n p)(hmn:m<n)(hai:a<=i)(him:i<=m)(h1:Rise L p a m)(hlo:i=a\/L (p (i - 1)) (p m))(hhi:i=m\/L (p m) (p i)):Merged (L:=L) p (rot p i m (m+1)) n a (m+1):=by
 refine merge_down hp hmn hai him h1 (fun j h3 h4=>?_) (fun j h3 h4=>?_)
 ·have hl:L (p (i - 1)) (p m):=by
   rcases hlo with h|h
   ·omega
   ·exact h
  rcases ot j (i - 1) with h|h
  ·exact hO.trans _ _ _ (hp.lt _ (by omega)) (hp.lt _ (by omega)) (hp.lt _ (by omega)) (h1 j (i - 1) h3 h (by omega)) hl
  ·have:j=i - 1:=by omega
   rw[this];exact hl
 ·have hl:L (p m) (p i):=by
   rcases hhi with h|h
   ·omega
   ·exact h
  rcases ot i j with h|h
  ·exact hO.trans _ _ _ (hp.lt _ (by omega)) (hp.lt _ (by omega)) (hp.lt _ (by omega)) hl (h1 i j hai h h4)
  ·have:j=i:=by omega
   rw[this];exact hl
theorem Sep.congr{q p:Nat->Nat}{a m b:Nat}(h:Sep p a m b)(he:∀ i,a<=i->i<b->q i=p i):Sep q a m b:=fun i j h1 h2 h3 h4=>by
 by_cases hx:i<b
 ·by_cases hy:a<=j
  ·rw[he i h1 hx,he j hy h4];exact h i j h1 h2 h3 h4
  ·omega
 ·omega
theorem rot_a{α:Type}(p:Nat->α){a m b i:Nat}(h:a<=i)(h2:i<a+(b - m)):rot p a m b i=p (i+(m - a)):=by
 unfold rot;rw[if_pos ⟨h,h2⟩]
theorem rot_b{α:Type}(p:Nat->α){a m b i:Nat}(h:a+(b - m)<=i)(h2:i<b):rot p a m b i=p (i - (b - m)):=by
 unfold rot;rw[if_neg (by omega),if_pos ⟨h,h2⟩]
theorem rot_o{α:Type}(p:Nat->α){a m b i:Nat}(h0:a<=m)(h1:m<=b)(h:i<a\/b<=i):rot p a m b i=p i:=by
 unfold rot;rw[if_neg (by omega),if_neg (by omega)]
theorem cut_left{L:Nat->Nat->Prop}{a m b s e mid:Nat}{p:Nat->Nat}(h1:Rise L p a m)(h2:Rise L p m b)(hs:Sep p a m b)(hc:Cut (L:=L) p a m b s e)(hmid:mid=s+(e - m)):Rise L (rot p s m e) a s/\Rise L (rot p s m e) s mid/\Sep (rot p s m e) a s mid:=by
 obtain⟨sa,sm,me,eb,_,_⟩:=hc
 refine⟨fun i j hi hij hj=>?_,fun i j hi hij hj=>?_,fun i j hi hij hj hjb=>?_⟩
 ·rw[rot_o p sm me (by omega),rot_o p sm me (by omega)];exact h1 i j hi hij (by omega)
 ·rw[rot_a p hi (by omega),rot_a p (by omega) (by omega)];exact h2 _ _ (by omega) (by omega) (by omega)
 ·rw[rot_o p sm me (by omega),rot_a p hj (by omega)];exact hs _ _ hi (by omega) (by omega) (by omega)
theorem cut_right{L:Nat->Nat->Prop}{a m b s e mid:Nat}{p:Nat->Nat}(h1:Rise L p a m)(h2:Rise L p m b)(hs:Sep p a m b)(hc:Cut (L:=L) p a m b s e)(hmid:mid=s+(e - m)):Rise L (rot p s m e) mid e/\Rise L (rot p s m e) e b/\Sep (rot p s m e) mid e b:=by
 obtain⟨sa,sm,me,eb,_,_⟩:=hc
 refine⟨fun i j hi hij hj=>?_,fun i j hi hij hj=>?_,fun i j hi hij hj hjb=>?_⟩
 ·rw[rot_b p (by omega) (by omega),rot_b p (by omega) (by omega)];exact h1 _ _ (by omega) (by omega) (by omega)
 ·rw[rot_o p sm me (by omega),rot_o p sm me (by omega)];exact h2 _ _ (by omega) hij hj
 ·rw[rot_b p (by omega) (by omega),rot_o p sm me (by omega)];exact hs _ _ (by omega) (by omega) (by omega) (by omega)
theorem Merged.stay{L:Nat->Nat->Prop}{n a b:Nat}{q:Nat->Nat}(hi:Inj n q)(h:Rise L q a b):Merged (L:=L) q q n a b:=⟨hi,.refl _ _ _,h⟩
def Lc(k lo n:Nat)(p:Nat->Nat):Prop:=∀ i,lo<=i->i<n->p i / k=i / k
def Rs(L:Nat->Nat->Prop)(k lo hi:Nat)(p:Nat->Nat):Prop:=∀ i j,lo<=i->i<j->j<hi->i / k=j / k->L (p i) (p j)
theorem x8{k c i:Nat}(h1:c * k<=i)(h2:i<c * k+k):i / k=c:=by
 have hk:0<k:=by omega
 apply Nat.le_antisymm
 ·exact Nat.lt_succ_iff.1 (Nat.div_lt_of_lt_mul (by rw[cu];rw[b9];exact h2))
 ·exact(Nat.le_div_iff_mul_le hk).2 h1
theorem div_two(i k:Nat):i / (2 * k)=(i / k) / 2:=by rw[Nat.div_div_eq_div_mul,cu]
structure Mg(L:Nat->Nat->Prop)(k n c:Nat)(p:Nat->Nat):Prop where
 inj:Inj n p
 big:Lc (2 * k) 0 n p
 done:Rs L (2 * k) 0 (min (c * (2 * k)) n) p
 rest:Rs L k (c * (2 * k)) n p
 small:Lc k (c * (2 * k)) n p
theorem Mg.begin{L:Nat->Nat->Prop}{k n:Nat}{p:Nat->Nat}(h1:Inj n p)(h2:Lc k 0 n p)(h3:Rs L k 0 n p):Mg L k n 0 p :=
 ⟨h1,fun i hi hn=>by rw[div_two,div_two,h2 i hi hn],fun i j hi hij hj _=>by omega,fun i j hi=>h3 i j (by omega),fun i hi=>h2 i (by omega)⟩
theorem Mg.left{L:Nat->Nat->Prop}{k n c:Nat}{p:Nat->Nat}(h:Mg L k n c p)(hm:c * (2 * k)+k<=n):Rise L p (c * (2 * k)) (c * (2 * k)+k):=fun i j hi hij hj=>by
 have e:c * (2 * k)=(c * 2) * k:=by rw[Nat.mul_assoc]
 refine h.rest i j hi hij (by omega) ?_
 rw[x8 (c:=c * 2) (by omega) (by omega),x8 (c:=c * 2) (by omega) (by omega)]
theorem Mg.right{L:Nat->Nat->Prop}{k n c b:Nat}{p:Nat->Nat}(h:Mg L k n c p)(hb:b<=n)(hb2:b<=c * (2 * k)+2 * k):Rise L p (c * (2 * k)+k) b:=fun i j hi hij hj=>by
 have e:c * (2 * k)=(c * 2) * k:=by rw[Nat.mul_assoc]
 have e2:(c * 2+1) * k=(c * 2) * k+k:=by rw[b9]
 refine h.rest i j (by omega) hij (by omega) ?_
 rw[x8 (c:=c * 2+1) (by omega) (by omega),x8 (c:=c * 2+1) (by omega) (by omega)]
theorem Mg.sep{L:Nat->Nat->Prop}{k n c b:Nat}{p:Nat->Nat}(h:Mg L k n c p)(hb:b<=n)(hb2:b<=c * (2 * k)+2 * k):Sep p (c * (2 * k)) (c * (2 * k)+k) b:=fun i j hi him hj hjb=>by
 have hk:0<k:=by omega
 have e:c * (2 * k)=(c * 2) * k:=by rw[Nat.mul_assoc]
 have e2:(c * 2+1) * k=(c * 2) * k+k:=by rw[b9]
 have a1:=h.small i hi (by omega)
 have a2:=h.small j (by omega) (by omega)
 rw [x8 (c:=c * 2) (i:=i) (by omega) (by omega)] at a1
 rw [x8 (c:=c * 2+1) (i:=j) (by omega) (by omega)] at a2
 rcases ot (p i) (p j) with hl|hl
 ·exact hl
 ·have:=Nat.div_le_div_right (c:=k) hl
  omega
theorem Mg.next{L:Nat->Nat->Prop}{k n c b:Nat}{p r:Nat->Nat}(hk:0<k)(h:Mg L k n c p)(hb:b<=n)(hb2:b<=c * (2 * k)+2 * k)(hb3:b=n\/b=c * (2 * k)+2 * k)(hab:c * (2 * k)<=b)(hr:Merged (L:=L) p r n (c * (2 * k)) b):Mg L k n (c+1) r:=by
 have e:(c+1) * (2 * k)=c * (2 * k)+2 * k:=by rw[b9]
 refine⟨hr.inj,fun i hi hin=>?_,fun i j hi hij hj hd=>?_,fun i j hi hij hj hd=>?_,fun i hi hin=>?_⟩
 ·by_cases hc:c * (2 * k)<=i/\i<b
  ·obtain⟨j,b1,b2,b3⟩:=hr.same.fwd i hc.1 hc.2
   rw[b3,h.big j (by omega) (by omega),x8 (c:=c) b1 (by omega),x8 (c:=c) hc.1 (by omega)]
  ·rw[hr.same.out i hc];exact h.big i hi hin
 ·by_cases hc:c * (2 * k)<=i
  ·exact hr.rise i j hc hij (by omega)
  ·by_cases hjc:j<c * (2 * k)
   ·rw[hr.same.out i (by omega),hr.same.out j (by omega)]
    exact h.done i j hi hij (by omega) hd
   ·exfalso
    rw [x8 (c:=c) (i:=j) (by omega) (by omega)] at hd
    have:=Nat.div_mul_le_self i (2 * k)
    rw [hd] at this
    omega
 ·rw[hr.same.out i (by omega),hr.same.out j (by omega)]
  exact h.rest i j (by omega) hij hj hd
 ·rw[hr.same.out i (by omega)]
  exact h.small i (by omega) hin
theorem Mg.over{L:Nat->Nat->Prop}{k n c:Nat}{p:Nat->Nat}(hk:0<k)(h:Mg L k n c p)(hn:n<=c * (2 * k)+k):Lc (2 * k) 0 n p/\Rs L (2 * k) 0 n p:=by
 refine⟨h.big,fun i j hi hij hj hd=>?_⟩
 have e:c * (2 * k)=(c * 2) * k:=by rw[Nat.mul_assoc]
 by_cases hjc:j<c * (2 * k)
 ·exact h.done i j hi hij (by omega) hd
 ·have hj2:=x8 (k:=2 * k) (c:=c) (i:=j) (by omega) (by omega)
  by_cases hic:c * (2 * k)<=i
  ·refine h.rest i j hic hij hj ?_
   rw[x8 (c:=c * 2) (by omega) (by omega),x8 (c:=c * 2) (by omega) (by omega)]
  ·exfalso
   rw [hj2] at hd
   have:=Nat.div_mul_le_self i (2 * k)
   rw [hd] at this
   omega
structure Fst(L:Nat->Nat->Prop)(k n c:Nat)(p:Nat->Nat):Prop where
 inj:Inj n p
 loc:Lc k 0 n p
 done:Rs L k 0 (min (c * k) n) p
 rest:∀ i,c * k<=i->p i=i
theorem Fst.zero{L:Nat->Nat->Prop}(k n:Nat):Fst L k n 0 id:=⟨⟨fun i h=>h,fun i j _ _ h=>h⟩,fun i _ _=>rfl,fun i j hi hij hj _=>by omega,fun i _=>rfl⟩
theorem Fst.next{L:Nat->Nat->Prop}{k n c b:Nat}{p r:Nat->Nat}(h:Fst L k n c p)(hb:b<=n)(hb2:b<=c * k+k)(hb3:b=n\/b=c * k+k)(hr:Merged (L:=L) p r n (c * k) b):Fst L k n (c+1) r:=by
 have e:(c+1) * k=c * k+k:=by rw[b9]
 refine⟨hr.inj,fun i hi hin=>?_,fun i j hi hij hj hd=>?_,fun i hi=>?_⟩
 ·by_cases hc:c * k<=i/\i<b
  ·obtain⟨j,b1,b2,b3⟩:=hr.same.fwd i hc.1 hc.2
   rw[b3,h.rest j b1,x8 (c:=c) b1 (by omega),x8 (c:=c) hc.1 (by omega)]
  ·rw[hr.same.out i hc];exact h.loc i hi hin
 ·by_cases hc:c * k<=i
  ·exact hr.rise i j hc hij (by omega)
  ·by_cases hjc:j<c * k
   ·rw[hr.same.out i (by omega),hr.same.out j (by omega)]
    exact h.done i j hi hij (by omega) hd
   ·exfalso
    rw [x8 (c:=c) (i:=j) (by omega) (by omega)] at hd
    have:=Nat.div_mul_le_self i k
    rw [hd] at this
    omega
 ·rw[hr.same.out i (by omega)]
  exact h.rest i (by omega)
theorem Rs.all{L:Nat->Nat->Prop}{k n:Nat}{p:Nat->Nat}(h:Rs L k 0 n p)(hk:n<=k):Rise L p 0 n:=fun i j hi hij hj=>h i j hi hij hj (by rw[Nat.div_eq_of_lt (by omega),Nat.div_eq_of_lt (by omega)])
end
theorem u8_tri(a b:UInt8)(h1:¬ a<b)(h2:¬ b<a):a=b:=by
 rw [UInt8.lt_iff_toNat_lt] at h1 h2
 exact UInt8.toNat_inj.1 (by omega)
theorem vn:∀ a:List UInt8,Op.bytesLess a a=false
 |[]=>rfl
 |a :: l=>by
  have:¬ a<a:=by rw[UInt8.lt_iff_toNat_lt];omega
  simp[Op.bytesLess,this,vn l]
theorem jd6:∀ a b c:List UInt8,Op.bytesLess a b=true->Op.bytesLess b c=true->Op.bytesLess a c=true
 |_,_,[]=>fun _ h=>by simp [Op.bytesLess] at h
 |_,[],_ :: _=>fun h _=>by simp [Op.bytesLess] at h
 |[],_ :: _,_ :: _=>fun _ _=>rfl
 |a :: l,b :: m,c :: n=>fun h k=>by
  have ih:=jd6 l m n
  simp only [Op.bytesLess,co,oq,ly,m8] at h k ⊢
  rcases h with h|⟨rfl,h⟩ <;> rcases k with k|⟨rfl,k⟩
  ·left;rw [UInt8.lt_iff_toNat_lt] at *;omega
  ·exact .inl h
  ·exact .inl k
  ·exact .inr ⟨rfl,ih h k⟩
theorem bl_asym(a b:List UInt8)(h:Op.bytesLess a b=true):Op.bytesLess b a=false:=by
 cases e:Op.bytesLess b a
 ·rfl
 ·have:=jd6 a b a h e
  rw [vn] at this;cases this
theorem bl_tri:∀ a b:List UInt8,Op.bytesLess a b=false->Op.bytesLess b a=false->a=b
 |[],[]=>fun _ _=>rfl
 |[],_ :: _=>fun h _=>by simp [Op.bytesLess] at h
 |_ :: _,[]=>fun _ h=>by simp [Op.bytesLess] at h
 |a :: l,b :: m=>fun h k=>by
  have ih:=bl_tri l m
  simp only [Op.bytesLess,az,Bool.and_eq_false_iff,decide_eq_false_iff_not,o9] at h k
  have e:a=b:=u8_tri a b h.1 k.1
  subst e
  rw[ih (h.2.resolve_left (fun h=>h rfl)) (k.2.resolve_left (fun h=>h rfl))]
theorem bl_ntrans(a b c:List UInt8)(h:Op.bytesLess a b=false)(k:Op.bytesLess b c=false):Op.bytesLess a c=false:=by
 cases e:Op.bytesLess a c
 ·rfl
 ·cases e2:Op.bytesLess b a
  ·rw [bl_tri a b h e2] at e;rw [e] at k;cases k
  ·rw [jd6 b a c e2 e] at k;cases k
theorem cmp_bl:∀ a b:List UInt8,Lib.compareBytes a b=if Op.bytesLess a b then -1 else if Op.bytesLess b a then 1 else 0
 |[],[]=>rfl
 |[],_ :: _=>rfl
 |_ :: _,[]=>rfl
 |a :: l,b :: m=>by
  have ih:=cmp_bl l m
  unfold Lib.compareBytes
  by_cases h1:a<b
  ·simp[Op.bytesLess,h1]
  ·by_cases h2:b<a
   ·have:¬ a=b:=fun e=>by rw [UInt8.lt_iff_toNat_lt,e] at h2;omega
    simp[Op.bytesLess,h1,h2,this]
   ·have e:=u8_tri a b h1 h2
    subst e
    simp[Op.bytesLess,h1,ih]
theorem ql0(a b:List UInt8):(Lib.compareBytes a b<0)↔Op.bytesLess a b=true:=by
 rw[cmp_bl]
 cases h:Op.bytesLess a b
 ·cases h2:Op.bytesLess b a <;> simp
 ·simp
theorem qw3(a b:List UInt8):(Lib.compareBytes a b=0)↔a=b:=by
 rw[cmp_bl]
 constructor
 ·intro h
  cases h1:Op.bytesLess a b
  ·cases h2:Op.bytesLess b a
   ·exact bl_tri a b h1 h2
   ·rw [h1,h2] at h;simp at h
  ·rw [h1] at h;simp at h
 ·rintro rfl;rw[vn];rfl
structure Firsts(F:List UInt8->List UInt8)(xs D:List (List UInt8)):Prop where
 rise:D.Pairwise (fun a b=>Op.bytesLess (F a) (F b)=true)
 mem:∀ x,x ∈ D↔∃ i:Nat,xs[i]? = some x/\∀ (j:Nat) (y:List UInt8),j<i->xs[j]? = some y->F y≠F x
theorem rise_uniq(F:List UInt8->List UInt8):∀ (A B:List (List UInt8)),A.Pairwise (fun a b=>Op.bytesLess (F a) (F b)=true)->B.Pairwise (fun a b=>Op.bytesLess (F a) (F b)=true)->(∀ x,x ∈ A↔x ∈ B)->A=B
 |[],[]=>fun _ _ _=>rfl
 |[],b :: B=>fun _ _ h=>by have:=(h b).2 (by simp);simp at this
 |a :: A,[]=>fun _ _ h=>by have:=(h a).1 (by simp);simp at this
 |a :: A,b :: B=>fun hA hB h=>by
  obtain⟨a1,a2⟩:=dz.1 hA
  obtain⟨b1,b2⟩:=dz.1 hB
  have e:a=b:=by
   rcases pu.1 ((h a).1 (by simp)) with e|e
   ·exact e
   ·rcases pu.1 ((h b).2 (by simp)) with e'|e'
    ·exact e'.symm
    ·have:=bl_asym _ _ (b1 a e)
     rw [a1 b e'] at this;cases this
  subst e
  have:A=B:=rise_uniq F A B a2 b2 fun x=>by
   constructor
   ·intro hx
    rcases pu.1 ((h x).1 (lv _ hx)) with e|e
    ·subst e;have:=a1 x hx;rw [vn] at this;cases this
    ·exact e
   ·intro hx
    rcases pu.1 ((h x).2 (lv _ hx)) with e|e
    ·subst e;have:=b1 x hx;rw [vn] at this;cases this
    ·exact e
  rw[this]
theorem Firsts.uniq{F:List UInt8->List UInt8}{xs A B:List (List UInt8)}(h:Firsts F xs A)(k:Firsts F xs B):A=B :=
 rise_uniq F A B h.rise k.rise fun x=>(h.mem x).trans (k.mem x).symm
theorem Firsts.self{F:List UInt8->List UInt8}{xs:List (List UInt8)}(h:xs.Pairwise (fun a b=>Op.bytesLess (F a) (F b)=true)):Firsts F xs xs:=by
 refine⟨h,fun x=>⟨fun hx=>?_,fun⟨i,hi,_⟩=>oy hi⟩⟩
 obtain⟨i,hi⟩:=List.getElem?_of_mem hx
 refine⟨i,hi,fun j y hj hy e=>?_⟩
 obtain⟨hi1,rfl⟩:=pq.1 hi
 obtain⟨hj1,rfl⟩:=pq.1 hy
 have:=tn.1 h j i hj1 hi1 hj
 rw [e,vn] at this;cases this
theorem Firsts.cover{F:List UInt8->List UInt8}{xs D:List (List UInt8)}(h:Firsts F xs D):∀ (i:Nat) (y:List UInt8),xs[i]? = some y->∃ a ∈ D,F a=F y:=by
 intro i
 induction i using Nat.strongRecOn with
 |_ i ih =>
  intro y hy
  by_cases hx:∃ j z,j<i/\xs[j]? = some z/\F z=F y
  ·obtain⟨j,z,hj,hz,e⟩:=hx
   obtain⟨a,ha,e2⟩:=ih j hj z hz
   exact⟨a,ha,e2.trans e⟩
  ·exact⟨y,(h.mem y).2 ⟨i,hy,fun j z hj hz e=>hx ⟨j,z,hj,hz,e⟩⟩,rfl⟩
theorem Firsts.from{F:List UInt8->List UInt8}{xs D:List (List UInt8)}(h:Firsts F xs D){a:List UInt8}(ha:a ∈ D):∃ i:Nat,xs[i]? = some a:=by
 obtain⟨i,hi,_⟩:=(h.mem a).1 ha
 exact⟨i,hi⟩
theorem Firsts.skip{F:List UInt8->List UInt8}{xs D:List (List UInt8)}(h:Firsts F xs D){x a:List UInt8}(ha:a ∈ D)(e:F a=F x):Firsts F (xs++[x]) D:=by
 refine⟨h.rise,fun z=>(h.mem z).trans ⟨fun⟨i,hi,hf⟩=>?_,fun⟨i,hi,hf⟩=>?_⟩⟩
 ·have hil:=(pq.1 hi).1
  refine⟨i,by rw[oo hil];exact hi,fun j y hj hy=>hf j y hj ?_⟩
  rwa [oo (by omega)] at hy
 ·rcases ot i xs.length with hl|hl
  ·rw [oo hl] at hi
   exact⟨i,hi,fun j y hj hy=>hf j y hj (by rw[oo (by omega)];exact hy)⟩
  ·exfalso
   obtain⟨q,hq⟩:=h.from ha
   have hql:=(pq.1 hq).1
   have hx:z=x:=by
    rw [o4 hl] at hi
    have:i - xs.length=0:=by
     rcases gz (i - xs.length) with h|h
     ·exact h
     ·rw [l7 (by simp;omega)] at hi;cases hi
    rw [this] at hi
    exact(p8 hi).symm
   refine hf q a (by omega) (by rw[oo hql];exact hq) (by rw[hx];exact e)
theorem Firsts.put{F:List UInt8->List UInt8}{xs A B:List (List UInt8)}(h:Firsts F xs (A++B)){x:List UInt8}(hA:∀ a ∈ A,Op.bytesLess (F a) (F x)=true)(hB:∀ b ∈ B,Op.bytesLess (F x) (F b)=true):Firsts F (xs++[x]) (A++x :: B):=by
 have hr:=List.pairwise_append.1 h.rise
 have hno:∀ i y,xs[i]? = some y->F y≠F x:=fun i y hy e=>by
  obtain⟨a,ha,e2⟩:=h.cover i y hy
  rcases mn.1 ha with ha|ha
  ·have:=hA a ha;rw [e2,e,vn] at this;cases this
  ·have:=hB a ha;rw [e2,e,vn] at this;cases this
 refine⟨?_,fun z=>?_⟩
 ·refine List.pairwise_append.2 ⟨hr.1,dz.2 ⟨hB,hr.2.1⟩,fun a ha b hb=>?_⟩
  rcases pu.1 hb with rfl|hb
  ·exact hA a ha
  ·exact hr.2.2 a ha b hb
 ·have:z ∈ A++x :: B↔z ∈ A++B\/z=x:=by
   simp only[mn,pu]
   constructor
   ·rintro (h|h|h)
    ·exact .inl (.inl h)
    ·exact .inr h
    ·exact .inl (.inr h)
   ·rintro ((h|h)|h)
    ·exact .inl h
    ·exact .inr (.inr h)
    ·exact .inr (.inl h)
  rw[this,h.mem z]
  constructor
  ·rintro (⟨i,hi,hf⟩|rfl)
   ·have hil:=(pq.1 hi).1
    refine⟨i,by rw[oo hil];exact hi,fun j y hj hy=>hf j y hj ?_⟩
    rwa [oo (by omega)] at hy
   ·refine⟨xs.length,by simp,fun j y hj hy=>hno j y ?_⟩
    rwa [oo hj] at hy
  ·rintro ⟨i,hi,hf⟩
   rcases ot i xs.length with hl|hl
   ·left
    rw [oo hl] at hi
    exact⟨i,hi,fun j y hj hy=>hf j y hj (by rw[oo (by omega)];exact hy)⟩
   ·right
    rw [o4 hl] at hi
    have:i - xs.length=0:=by
     rcases gz (i - xs.length) with h|h
     ·exact h
     ·rw [l7 (by simp;omega)] at hi;cases hi
    rw [this] at hi
    exact(p8 hi).symm
theorem Firsts.len{F:List UInt8->List UInt8}{xs D:List (List UInt8)}(h:Firsts F xs D)(hx:xs≠[]):0<D.length:=by
 cases xs with
 |nil=>exact absurd rfl hx
 |cons x l =>
  obtain⟨a,ha,_⟩:=h.cover 0 x rfl
  exact List.length_pos_of_mem ha
def upN(n:List UInt8):List UInt8:=n.drop (1+bt n 0)
def qx(n:List UInt8):List UInt8 × Int:=if qc n then (if n=[0] then ([],3) else (upN n,0)) else ([],2)
theorem we{n:List UInt8}(h:qc n)(hn:n≠[0]):1+bt n 0<=n.length/\bt n 0<=63:=by
 obtain⟨h1,h2,h3⟩:=xg h
 cases hl:labN n with
 |nil=>rw [hl] at h3;exact absurd h3 hn
 |cons l ls =>
  rw [hl] at h2 h3
  have hok:=h2 l (by simp)
  have hb:bt n 0=l.length:=by rw[h3];exact qa3 l (mk ls) hok
  rw[hb]
  have:=hok.2
  refine⟨?_,this⟩
  conv=>rhs;rw[h3]
  show _<=(lab l++mk ls).length
  rw[pv,kq];omega
theorem wy(n:List UInt8):FnOk Tryz.prog 198 [.d (.str n)] (.tup [.d (.str (qx n).1),.d (.int .i64 (qx n).2)]):=by
 refine qz (TT:=TT) (IN:=qi []) qk qm mixed 1000 Tryz.func198 rfl (qe Tryz.func198 (by kernel_rfl) rfl) rfl 14 (by kernel_rfl) ?_
 conv=>whnf
 refine oD (y7 n) rfl rfl ?_
 by_cases hn:qc n
 ·rw[if_pos hn]
  conv=>whnf
  refine brF rfl ?_
  conv=>whnf
  refine⟨fun h1=>?_,fun h1=>?_⟩
  ·have h1:n=[0]:=by simpa using h1
   rw[show qx n=([],3) by unfold qx;rw[if_pos hn,if_pos h1]]
   conv=>whnf
   repeat'(first|exact ⟨⟩|exact rfl|exact .inr rfl|exact .inl rfl|exact fun _ _=>rfl|exact noI|apply And.intro)
  ·have h1:n≠[0]:=by simpa using h1
   rw[show qx n=(upN n,0) by unfold qx;rw[if_pos hn,if_neg h1]]
   obtain⟨k1,k2⟩:=we hn h1
   have hpos:=hn.1
   have e1:IntKind.i64.wrap (1+IntKind.i64.wrap (je n 0))=((1+bt n 0:Nat):Int):=by
    have:=yn n 0
    rw [show ((0:Nat):Int)=0 from rfl] at this
    rw[this,qd (bt n 0:Int) (by omega),qd _ (by omega)];omega
   conv=>whnf
   refine⟨by omega,?_⟩
   conv=>whnf
   rw[e1]
   refine⟨by omega,?_⟩
   conv=>whnf
   rw[qf5]
   repeat'(first|exact ⟨⟩|exact rfl|exact .inr rfl|exact .inl rfl|exact fun _ _=>rfl|exact noI|apply And.intro)
 ·rw[if_neg hn]
  rw[show qx n=([],2) by unfold qx;rw[if_neg hn]]
  conv=>whnf
  refine brT rfl ?_
  conv=>whnf
  repeat'(first|exact ⟨⟩|exact rfl|exact .inr rfl|exact .inl rfl|exact fun _ _=>rfl|exact noI|apply And.intro)
theorem w5{n:List UInt8}(h:qc n)(hn:n≠[0]):qc (upN n):=by
 obtain⟨h1,h2,h3⟩:=xg h
 cases hl:labN n with
 |nil=>rw [hl] at h3;exact absurd h3 hn
 |cons l ls =>
  rw [hl] at h2 h3
  have hok:=h2 l (by simp)
  have hb:bt n 0=l.length:=by rw[h3];exact qa3 l (mk ls) hok
  have hu:upN n=mk ls:=by
   unfold upN
   rw[hb,h3]
   show(UInt8.ofNat l.length :: (l++mk ls)).drop (1+l.length)=_
   rw[Nat.add_comm,List.drop_succ_cons,List.drop_left]
  rw[hu]
  refine(qy6 _).2 ⟨?_,ls,fun x hx=>h2 x (by simp[hx]),rfl⟩
  rw [h3] at h1
  have:(mk (l :: ls)).length=(lab l).length+(mk ls).length:=by
   show(lab l++mk ls).length=_
   rw[pv]
  omega
theorem COk.frameX{P:Program}{f:FuncId}{as0:List SV}{ks0:List KB}{R0:SV->List KB->Prop}(h:COk P f as0 ks0 R0)(is:List Nat){al:List SV}{ks:List KB}
 (hok:okN (lenB ks) is=true) (ha:mapL (sig is (lenB ks)) as0=al) (hk:qb2 ks is=mapB (sig is (lenB ks)) ks0):COk P f al ks (fun s k=>∃ s0 k0,R0 s0 k0/\s=mapV (sig is (lenB ks)) s0/\k=putBs ks is (mapB (sig is (lenB ks)) k0)) :=
 COk.frame h is hok ha hk (fun s0 k0 h=>⟨s0,k0,h,rfl,rfl⟩)
theorem qv2{K V:Type}{ek:K->List DV}{ev:V->List SV}{σ:Nat->Nat}(hv:∀ v,mapL σ (ev v)=ev v):∀ l:List (K × V),mapM σ (aenc ek ev l)=aenc ek ev l
 |[]=>rfl
 |e :: l=>by
  show(ek e.1,mapL σ (ev e.2)) :: mapM σ (aenc ek ev l)=(ek e.1,ev e.2) :: aenc ek ev l
  rw[hv,qv2 hv l]
theorem qi9{K V:Type}{ek:K->List DV}{ev:V->List SV}{ρ:List Nat}(hv:∀ v,renL ρ (ev v)=ev v):∀ l:List (K × V),renM ρ (aenc ek ev l)=aenc ek ev l
 |[]=>rfl
 |e :: l=>by
  show(ek e.1,renL ρ (ev e.2)) :: renM ρ (aenc ek ev l)=(ek e.1,ev e.2) :: aenc ek ev l
  rw[hv,qi9 hv l]
def intV(n:Nat):List SV:=[.d (.int .i64 (n:Nat))]
def lookB(z:Zo)(i:Nat):KB:=.cells 128 [.d (.str z.apex),.d (rrsD z.z z.rrs),.map i,.map (i+1)]
def vb(S:List ((List UInt8 × Int × Int × List UInt8) × Nat)):KB:=.map [.str,.int .u16,.int .u16,.str] true false (aenc z7 intV S)
def k6(N:List (List UInt8 × Hd))(st:MS):KB:=.mapx [.str] false true (aenc strK Hd.enc N) st
def lookK(z:Zo)(S:List ((List UInt8 × Int × Int × List UInt8) × Nat))(N:List (List UInt8 × Hd))(st:MS):List KB:=[lookB z 1,vb S,k6 N st]
theorem qq{ρ:List Nat}(S:List ((List UInt8 × Int × Int × List UInt8) × Nat)):renM ρ (aenc z7 intV S)=aenc z7 intV S:=qi9 (fun _=>rfl) S
theorem qp{ρ:List Nat}(N:List (List UInt8 × Hd)):renM ρ (aenc strK Hd.enc N)=aenc strK Hd.enc N:=qi9 (fun _=>rfl) N
theorem jb8{σ:Nat->Nat}(S:List ((List UInt8 × Int × Int × List UInt8) × Nat)):mapM σ (aenc z7 intV S)=aenc z7 intV S:=qv2 (fun _=>rfl) S
theorem jc3{σ:Nat->Nat}(N:List (List UInt8 × Hd)):mapM σ (aenc strK Hd.enc N)=aenc strK Hd.enc N:=qv2 (fun _=>rfl) N
theorem qr(N:List (List UInt8 × Hd))(st:MS)(ρ:List Nat):SubK (renK ρ (k6 N st)) (k6 N st):=by
 cases st
 ·exact⟨⟨rfl,rfl,rfl⟩,qp N⟩
 ·exact⟨⟨⟨rfl,rfl,rfl⟩,qp N⟩,rfl⟩
 ·exact⟨⟨⟨rfl,rfl,rfl⟩,qp N⟩,rfl⟩
theorem um(p:RR->Bool)(l:List RR)(n:List UInt8):cntZ p l n<=l.length:=rn _ _
theorem fits_ok(z:Zo)(S:List ((List UInt8 × Int × Int × List UInt8) × Nat))(l:List RR)(hl:l.length<=300)(st:MS)(name top:List UInt8)(hn:qc name) :
 COk Tryz.prog 141 [.ptr 0 0,.d (.str name),.d (.str top),.agg (j5 l name).enc] (lookK z S (qb l) st) (fun s k=>s = .d (.bool (q8 l top name))/\k=lookK z S (qb l) st):=by
 refine yg (TT:=TT) (IN:=qi [(176,Tryz.f176,1),(197,Tryz.f197,2)]) qk (ju (ju qm Tryz.func197 (by kernel_rfl) (by kernel_rfl)) Tryz.func176 (by kernel_rfl) (by kernel_rfl)) mixed 1000 Tryz.func141 rfl (qe Tryz.func141 (by kernel_rfl) rfl) 59 (by kernel_rfl) ?_
 have b1:=um anyR l name
 have b2:=um zr l name
 have b3:=um isNs l name
 have b4:=um vl l name
 have b5:=um j3 l name
 conv=>whnf
 refine⟨fun h1=>?_,fun h1=>?_⟩
 ·have h1:0<cntZ vl l name:=by
   have h:((cntZ vl l name:Nat):Int) > 0:=pw h1
   omega
  conv=>whnf
  refine⟨fun h2=>?_,fun h2=>?_⟩
  ·have h2:1<cntZ anyR l name:=by
    have h:((cntZ anyR l name:Nat):Int) > 1:=pw h2
    omega
   have hf:q8 l top name=false:=by unfold q8;rw[if_pos ⟨h1,h2⟩]
   conv=>whnf
   rw[hf]
   refine⟨[0,1,2],_,lookK z S (qb l) st,rfl,rfl,?_,?_,rfl,rfl⟩
   ·exact rfl
   ·conv=>whnf
    repeat'(first|exact ⟨⟩|exact rfl|exact qa _|exact .inr rfl|exact fun _ _=>rfl|exact noI|apply And.intro)
    all_goals first
     |exact qq _
     |exact qp _
     |exact qr _ _ _
  ·have h2:¬ 1<cntZ anyR l name:=by
    have h:¬ ((cntZ anyR l name:Nat):Int) > 1:=px h2
    omega
   have hA:¬ (0<cntZ vl l name/\1<cntZ anyR l name):=fun h=>h2 h.2
   conv=>whnf
   refine⟨fun h3=>?_,fun h3=>?_⟩
   ·have h3:name=top:=by simpa using h3
    have hf:q8 l top name=true:=by unfold q8;rw[if_neg hA,if_pos h3]
    conv=>whnf
    rw[hf]
    refine⟨[0,1,2],_,lookK z S (qb l) st,rfl,rfl,?_,?_,rfl,rfl⟩
    ·exact rfl
    ·conv=>whnf
     repeat'(first|exact ⟨⟩|exact rfl|exact qa _|exact .inr rfl|exact fun _ _=>rfl|exact noI|apply And.intro)
     all_goals first
      |exact qq _
      |exact qp _
      |exact qr _ _ _
   ·have h3:name≠top:=by simpa using h3
    conv=>whnf
    refine⟨fun h4=>?_,fun h4=>?_⟩
    ·have h4:0<cntZ zr l name:=by
      have h:((cntZ zr l name:Nat):Int) > 0:=pw h4
      omega
     have hf:q8 l top name=false:=by unfold q8;rw[if_neg hA,if_neg h3,if_pos (.inl h4)]
     conv=>whnf
     rw[hf]
     refine⟨[0,1,2],_,lookK z S (qb l) st,rfl,rfl,?_,?_,rfl,rfl⟩
     ·exact rfl
     ·conv=>whnf
      repeat'(first|exact ⟨⟩|exact rfl|exact qa _|exact .inr rfl|exact fun _ _=>rfl|exact noI|apply And.intro)
      all_goals first
       |exact qq _
       |exact qp _
       |exact qr _ _ _
    ·have h4:¬ 0<cntZ zr l name:=by
      have h:¬ ((cntZ zr l name:Nat):Int) > 0:=px h4
      omega
     conv=>whnf
     refine⟨fun h5=>?_,fun h5=>?_⟩
     ·have h5:0<cntZ isNs l name:=by
       have h:((cntZ isNs l name:Nat):Int) > 0:=pw h5
       omega
      have hw:IntKind.i64.wrap (((j5 l name).ns:Nat)+((j5 l name).addr:Nat):Int)=((cntZ isNs l name+cntZ j3 l name:Nat):Int):=by
       show IntKind.i64.wrap (((cntZ isNs l name:Nat):Int)+((cntZ j3 l name:Nat):Int))=_
       rw[qd _ (by omega)];omega
      conv=>whnf
      rw[hw]
      refine⟨fun h6=>?_,fun h6=>?_⟩
      ·have h6:cntZ isNs l name+cntZ j3 l name<cntZ anyR l name:=by
        have h:((cntZ anyR l name:Nat):Int) > ((cntZ isNs l name+cntZ j3 l name:Nat):Int):=pw h6
        omega
       have hf:q8 l top name=false:=by unfold q8;rw[if_neg hA,if_neg h3,if_pos (.inr ⟨h5,h6⟩)]
       conv=>whnf
       rw[hf]
       refine⟨[0,1,2],_,lookK z S (qb l) st,rfl,rfl,?_,?_,rfl,rfl⟩
       ·exact rfl
       ·conv=>whnf
        repeat'(first|exact ⟨⟩|exact rfl|exact qa _|exact .inr rfl|exact fun _ _=>rfl|exact noI|apply And.intro)
        all_goals first
         |exact qq _
         |exact qp _
         |exact qr _ _ _
      ·have h6:¬ cntZ isNs l name+cntZ j3 l name<cntZ anyR l name:=by
        have h:¬ ((cntZ anyR l name:Nat):Int) > ((cntZ isNs l name+cntZ j3 l name:Nat):Int):=px h6
        omega
       have hf:q8 l top name=zx l name top (upsN name):=by unfold q8;rw[if_neg hA,if_neg h3,if_neg (fun h=>h.elim h4 (fun h=>h6 h.2))]
       conv=>whnf
       refine oD (y7 name) rfl rfl ?_
       rw[if_pos hn]
       conv=>whnf
       refine brF rfl ?_
       conv=>whnf
       refine .inv (List UInt8 × Nat) (fun s=>qc s.1/\s.1.length<=s.2/\zx l name top (upsF s.2 s.1)=q8 l top name) (fun s=>[(3,.d (.str s.1))]) (fun s=>[]) (fun s=>s.2) ⟨(name,name.length),[0,1,2,3,4,5,6,7,8,9],⟨hn,pr _,by rw[hf];unfold upsN;rw[if_pos hn]⟩,?_⟩ ?_
       ·conv=>whnf
        repeat'(first|exact ⟨⟩|exact rfl|exact qa _|exact .inr rfl|exact fun _ _=>rfl|exact noI|apply And.intro)
        all_goals first
         |exact qq _
         |exact qp _
         |exact qr _ _ _
       clear hf
       intro s hs
       obtain⟨g1,g2,g3⟩:=hs
       conv=>whnf
       generalize s.1=n at g1 g2 g3 ⊢
       generalize s.2=k at g2 g3 ⊢
       obtain⟨k,rfl⟩:∃ k',k=k'+1:=⟨k - 1,by have:=g1.1;omega⟩
       have hc:zx l name top (upsF (k+1) n)=if n=top then true else if n≠name/\0<cntZ isNs l n then cntZ anyR l name == cntZ j3 l name else zx l name top (if n=[0] then [] else upsF k (n.drop (1+bt n 0))):=rfl
       refine⟨fun g4=>?_,fun g4=>?_⟩
       ·have g4:n=top:=by simpa using g4
        have hf:q8 l top name=true:=by rw[<-g3,hc,if_pos g4]
        conv=>whnf
        rw[hf]
        refine⟨[0,1,2],_,lookK z S (qb l) st,rfl,rfl,?_,?_,rfl,rfl⟩
        ·exact rfl
        ·conv=>whnf
         repeat'(first|exact ⟨⟩|exact rfl|exact qa _|exact .inr rfl|exact fun _ _=>rfl|exact noI|apply And.intro)
         all_goals first
          |exact qq _
          |exact qp _
          |exact qr _ _ _
       ·have g4:n≠top:=by simpa using g4
        rw [if_neg g4] at hc
        conv=>whnf
        refine⟨fun g5=>?_,fun g5=>?_⟩
        ·have g5:n≠name:=by simpa using g5
         conv=>whnf
         have hg:=qf3 l n
         cases ha:aget (qb l) n with
         |none =>
          rw [ha] at hg
          have hns:cntZ isNs l n=0:=(congrArg Hd.ns hg).symm
          rw [if_neg (fun h=>by rw [hns] at h;exact absurd h.2 (cw 0))] at hc
          refine ⟨none,by have:=xe (ev:=Hd.enc) y8 (qb l) n;rw [ha] at this;exact this,?_⟩
          conv=>whnf
          refine brF rfl ?_
          conv=>whnf
          refine oD (wy n) rfl rfl ?_
          by_cases hz:n=[0]
          ·have hp:qx n=([],3):=by unfold qx;rw[if_pos g1,if_pos hz]
           have hf:q8 l top name=true:=by rw[<-g3,hc,if_pos hz];rfl
           rw[hp]
           conv=>whnf
           refine brT rfl ?_
           conv=>whnf
           rw[hf]
           refine⟨[0,1,2],_,lookK z S (qb l) st,rfl,rfl,?_,?_,rfl,rfl⟩
           ·exact rfl
           ·conv=>whnf
            repeat'(first|exact ⟨⟩|exact rfl|exact qa _|exact .inr rfl|exact fun _ _=>rfl|exact noI|apply And.intro)
            all_goals first
             |exact qq _
             |exact qp _
             |exact qr _ _ _
          ·have hp:qx n=(upN n,0):=by unfold qx;rw[if_pos g1,if_neg hz]
           rw [if_neg hz] at hc
           rw[hp]
           conv=>whnf
           refine brF rfl ?_
           conv=>whnf
           refine⟨(upN n,k),[0,1,2,3,4,5,6,7,8,9],⟨w5 g1 hz,?_,?_⟩,l6 k,?_⟩
           ·have:=we g1 hz
            show(upN n).length<=k
            unfold upN
            rw[o6]
            omega
           ·exact(by rw[<-g3,hc];rfl)
           ·conv=>whnf
            repeat'(first|exact ⟨⟩|exact rfl|exact qa _|exact .inr rfl|exact fun _ _=>rfl|exact noI|apply And.intro)
            all_goals first
             |exact qq _
             |exact qp _
             |exact qr _ _ _
         |some h0 =>
          rw [ha] at hg
          have hns:h0.ns=cntZ isNs l n:=congrArg Hd.ns hg
          refine ⟨some h0.enc,by have:=xe (ev:=Hd.enc) y8 (qb l) n;rw [ha] at this;exact this,?_⟩
          conv=>whnf
          refine⟨fun g6=>?_,fun g6=>?_⟩
          ·have g6:0<cntZ isNs l n:=by
            have h:((h0.ns:Nat):Int) > 0:=pw g6
            omega
           have hf:q8 l top name=((((j5 l name).all:Nat):Int) == (((j5 l name).addr:Nat):Int)):=by
            rw[<-g3,hc,if_pos ⟨g5,g6⟩,l5,m8,m8]
            show(cntZ anyR l name=cntZ j3 l name)↔((cntZ anyR l name:Nat):Int)=((cntZ j3 l name:Nat):Int)
            omega
           conv=>whnf
           rw[hf]
           refine⟨[0,1,2],_,lookK z S (qb l) st,rfl,rfl,?_,?_,rfl,rfl⟩
           ·exact rfl
           ·conv=>whnf
            repeat'(first|exact ⟨⟩|exact rfl|exact qa _|exact .inr rfl|exact fun _ _=>rfl|exact noI|apply And.intro)
            all_goals first
             |exact qq _
             |exact qp _
             |exact qr _ _ _
          ·have g6:¬ 0<cntZ isNs l n:=by
            have h:¬ ((h0.ns:Nat):Int) > 0:=px g6
            omega
           rw [if_neg (fun h=>g6 h.2)] at hc
           conv=>whnf
           refine oD (wy n) rfl rfl ?_
           by_cases hz:n=[0]
           ·have hp:qx n=([],3):=by unfold qx;rw[if_pos g1,if_pos hz]
            have hf:q8 l top name=true:=by rw[<-g3,hc,if_pos hz];rfl
            rw[hp]
            conv=>whnf
            refine brT rfl ?_
            conv=>whnf
            rw[hf]
            refine⟨[0,1,2],_,lookK z S (qb l) st,rfl,rfl,?_,?_,rfl,rfl⟩
            ·exact rfl
            ·conv=>whnf
             repeat'(first|exact ⟨⟩|exact rfl|exact qa _|exact .inr rfl|exact fun _ _=>rfl|exact noI|apply And.intro)
             all_goals first
              |exact qq _
              |exact qp _
              |exact qr _ _ _
           ·have hp:qx n=(upN n,0):=by unfold qx;rw[if_pos g1,if_neg hz]
            rw [if_neg hz] at hc
            rw[hp]
            conv=>whnf
            refine brF rfl ?_
            conv=>whnf
            refine⟨(upN n,k),[0,1,2,3,4,5,6,7,8,9],⟨w5 g1 hz,?_,?_⟩,l6 k,?_⟩
            ·have:=we g1 hz
             show(upN n).length<=k
             unfold upN
             rw[o6]
             omega
            ·exact(by rw[<-g3,hc];rfl)
            ·conv=>whnf
             repeat'(first|exact ⟨⟩|exact rfl|exact qa _|exact .inr rfl|exact fun _ _=>rfl|exact noI|apply And.intro)
             all_goals first
              |exact qq _
              |exact qp _
              |exact qr _ _ _
        ·have g5:n=name:=by simpa using g5
         rw [if_neg (fun h=>h.1 g5)] at hc
         conv=>whnf
         refine oD (wy n) rfl rfl ?_
         by_cases hz:n=[0]
         ·have hp:qx n=([],3):=by unfold qx;rw[if_pos g1,if_pos hz]
          have hf:q8 l top name=true:=by rw[<-g3,hc,if_pos hz];rfl
          rw[hp]
          conv=>whnf
          refine brT rfl ?_
          conv=>whnf
          rw[hf]
          refine⟨[0,1,2],_,lookK z S (qb l) st,rfl,rfl,?_,?_,rfl,rfl⟩
          ·exact rfl
          ·conv=>whnf
           repeat'(first|exact ⟨⟩|exact rfl|exact qa _|exact .inr rfl|exact fun _ _=>rfl|exact noI|apply And.intro)
           all_goals first
            |exact qq _
            |exact qp _
            |exact qr _ _ _
         ·have hp:qx n=(upN n,0):=by unfold qx;rw[if_pos g1,if_neg hz]
          rw [if_neg hz] at hc
          rw[hp]
          conv=>whnf
          refine brF rfl ?_
          conv=>whnf
          refine⟨(upN n,k),[0,1,2,3,4,5,6,7,8,9],⟨w5 g1 hz,?_,?_⟩,l6 k,?_⟩
          ·have:=we g1 hz
           show(upN n).length<=k
           unfold upN
           rw[o6]
           omega
          ·exact(by rw[<-g3,hc];rfl)
          ·conv=>whnf
           repeat'(first|exact ⟨⟩|exact rfl|exact qa _|exact .inr rfl|exact fun _ _=>rfl|exact noI|apply And.intro)
           all_goals first
            |exact qq _
            |exact qp _
            |exact qr _ _ _
     ·have h5:¬ 0<cntZ isNs l name:=by
       have h:¬ ((cntZ isNs l name:Nat):Int) > 0:=px h5
       omega
      have hf:q8 l top name=zx l name top (upsN name):=by unfold q8;rw[if_neg hA,if_neg h3,if_neg (fun h=>h.elim h4 (fun h=>h5 h.1))]
      conv=>whnf
      refine oD (y7 name) rfl rfl ?_
      rw[if_pos hn]
      conv=>whnf
      refine brF rfl ?_
      conv=>whnf
      refine .inv (List UInt8 × Nat) (fun s=>qc s.1/\s.1.length<=s.2/\zx l name top (upsF s.2 s.1)=q8 l top name) (fun s=>[(3,.d (.str s.1))]) (fun s=>[]) (fun s=>s.2) ⟨(name,name.length),[0,1,2,3,4,5,6,7,8,9],⟨hn,pr _,by rw[hf];unfold upsN;rw[if_pos hn]⟩,?_⟩ ?_
      ·conv=>whnf
       repeat'(first|exact ⟨⟩|exact rfl|exact qa _|exact .inr rfl|exact fun _ _=>rfl|exact noI|apply And.intro)
       all_goals first
        |exact qq _
        |exact qp _
        |exact qr _ _ _
      clear hf
      intro s hs
      obtain⟨g1,g2,g3⟩:=hs
      conv=>whnf
      generalize s.1=n at g1 g2 g3 ⊢
      generalize s.2=k at g2 g3 ⊢
      obtain⟨k,rfl⟩:∃ k',k=k'+1:=⟨k - 1,by have:=g1.1;omega⟩
      have hc:zx l name top (upsF (k+1) n)=if n=top then true else if n≠name/\0<cntZ isNs l n then cntZ anyR l name == cntZ j3 l name else zx l name top (if n=[0] then [] else upsF k (n.drop (1+bt n 0))):=rfl
      refine⟨fun g4=>?_,fun g4=>?_⟩
      ·have g4:n=top:=by simpa using g4
       have hf:q8 l top name=true:=by rw[<-g3,hc,if_pos g4]
       conv=>whnf
       rw[hf]
       refine⟨[0,1,2],_,lookK z S (qb l) st,rfl,rfl,?_,?_,rfl,rfl⟩
       ·exact rfl
       ·conv=>whnf
        repeat'(first|exact ⟨⟩|exact rfl|exact qa _|exact .inr rfl|exact fun _ _=>rfl|exact noI|apply And.intro)
        all_goals first
         |exact qq _
         |exact qp _
         |exact qr _ _ _
      ·have g4:n≠top:=by simpa using g4
       rw [if_neg g4] at hc
       conv=>whnf
       refine⟨fun g5=>?_,fun g5=>?_⟩
       ·have g5:n≠name:=by simpa using g5
        conv=>whnf
        have hg:=qf3 l n
        cases ha:aget (qb l) n with
        |none =>
         rw [ha] at hg
         have hns:cntZ isNs l n=0:=(congrArg Hd.ns hg).symm
         rw [if_neg (fun h=>by rw [hns] at h;exact absurd h.2 (cw 0))] at hc
         refine ⟨none,by have:=xe (ev:=Hd.enc) y8 (qb l) n;rw [ha] at this;exact this,?_⟩
         conv=>whnf
         refine brF rfl ?_
         conv=>whnf
         refine oD (wy n) rfl rfl ?_
         by_cases hz:n=[0]
         ·have hp:qx n=([],3):=by unfold qx;rw[if_pos g1,if_pos hz]
          have hf:q8 l top name=true:=by rw[<-g3,hc,if_pos hz];rfl
          rw[hp]
          conv=>whnf
          refine brT rfl ?_
          conv=>whnf
          rw[hf]
          refine⟨[0,1,2],_,lookK z S (qb l) st,rfl,rfl,?_,?_,rfl,rfl⟩
          ·exact rfl
          ·conv=>whnf
           repeat'(first|exact ⟨⟩|exact rfl|exact qa _|exact .inr rfl|exact fun _ _=>rfl|exact noI|apply And.intro)
           all_goals first
            |exact qq _
            |exact qp _
            |exact qr _ _ _
         ·have hp:qx n=(upN n,0):=by unfold qx;rw[if_pos g1,if_neg hz]
          rw [if_neg hz] at hc
          rw[hp]
          conv=>whnf
          refine brF rfl ?_
          conv=>whnf
          refine⟨(upN n,k),[0,1,2,3,4,5,6,7,8,9],⟨w5 g1 hz,?_,?_⟩,l6 k,?_⟩
          ·have:=we g1 hz
           show(upN n).length<=k
           unfold upN
           rw[o6]
           omega
          ·exact(by rw[<-g3,hc];rfl)
          ·conv=>whnf
           repeat'(first|exact ⟨⟩|exact rfl|exact qa _|exact .inr rfl|exact fun _ _=>rfl|exact noI|apply And.intro)
           all_goals first
            |exact qq _
            |exact qp _
            |exact qr _ _ _
        |some h0 =>
         rw [ha] at hg
         have hns:h0.ns=cntZ isNs l n:=congrArg Hd.ns hg
         refine ⟨some h0.enc,by have:=xe (ev:=Hd.enc) y8 (qb l) n;rw [ha] at this;exact this,?_⟩
         conv=>whnf
         refine⟨fun g6=>?_,fun g6=>?_⟩
         ·have g6:0<cntZ isNs l n:=by
           have h:((h0.ns:Nat):Int) > 0:=pw g6
           omega
          have hf:q8 l top name=((((j5 l name).all:Nat):Int) == (((j5 l name).addr:Nat):Int)):=by
           rw[<-g3,hc,if_pos ⟨g5,g6⟩,l5,m8,m8]
           show(cntZ anyR l name=cntZ j3 l name)↔((cntZ anyR l name:Nat):Int)=((cntZ j3 l name:Nat):Int)
           omega
          conv=>whnf
          rw[hf]
          refine⟨[0,1,2],_,lookK z S (qb l) st,rfl,rfl,?_,?_,rfl,rfl⟩
          ·exact rfl
          ·conv=>whnf
           repeat'(first|exact ⟨⟩|exact rfl|exact qa _|exact .inr rfl|exact fun _ _=>rfl|exact noI|apply And.intro)
           all_goals first
            |exact qq _
            |exact qp _
            |exact qr _ _ _
         ·have g6:¬ 0<cntZ isNs l n:=by
           have h:¬ ((h0.ns:Nat):Int) > 0:=px g6
           omega
          rw [if_neg (fun h=>g6 h.2)] at hc
          conv=>whnf
          refine oD (wy n) rfl rfl ?_
          by_cases hz:n=[0]
          ·have hp:qx n=([],3):=by unfold qx;rw[if_pos g1,if_pos hz]
           have hf:q8 l top name=true:=by rw[<-g3,hc,if_pos hz];rfl
           rw[hp]
           conv=>whnf
           refine brT rfl ?_
           conv=>whnf
           rw[hf]
           refine⟨[0,1,2],_,lookK z S (qb l) st,rfl,rfl,?_,?_,rfl,rfl⟩
           ·exact rfl
           ·conv=>whnf
            repeat'(first|exact ⟨⟩|exact rfl|exact qa _|exact .inr rfl|exact fun _ _=>rfl|exact noI|apply And.intro)
            all_goals first
             |exact qq _
             |exact qp _
             |exact qr _ _ _
          ·have hp:qx n=(upN n,0):=by unfold qx;rw[if_pos g1,if_neg hz]
           rw [if_neg hz] at hc
           rw[hp]
           conv=>whnf
           refine brF rfl ?_
           conv=>whnf
           refine⟨(upN n,k),[0,1,2,3,4,5,6,7,8,9],⟨w5 g1 hz,?_,?_⟩,l6 k,?_⟩
           ·have:=we g1 hz
            show(upN n).length<=k
            unfold upN
            rw[o6]
            omega
           ·exact(by rw[<-g3,hc];rfl)
           ·conv=>whnf
            repeat'(first|exact ⟨⟩|exact rfl|exact qa _|exact .inr rfl|exact fun _ _=>rfl|exact noI|apply And.intro)
            all_goals first
             |exact qq _
             |exact qp _
             |exact qr _ _ _
       ·have g5:n=name:=by simpa using g5
        rw [if_neg (fun h=>h.1 g5)] at hc
        conv=>whnf
        refine oD (wy n) rfl rfl ?_
        by_cases hz:n=[0]
        ·have hp:qx n=([],3):=by unfold qx;rw[if_pos g1,if_pos hz]
         have hf:q8 l top name=true:=by rw[<-g3,hc,if_pos hz];rfl
         rw[hp]
         conv=>whnf
         refine brT rfl ?_
         conv=>whnf
         rw[hf]
         refine⟨[0,1,2],_,lookK z S (qb l) st,rfl,rfl,?_,?_,rfl,rfl⟩
         ·exact rfl
         ·conv=>whnf
          repeat'(first|exact ⟨⟩|exact rfl|exact qa _|exact .inr rfl|exact fun _ _=>rfl|exact noI|apply And.intro)
          all_goals first
           |exact qq _
           |exact qp _
           |exact qr _ _ _
        ·have hp:qx n=(upN n,0):=by unfold qx;rw[if_pos g1,if_neg hz]
         rw [if_neg hz] at hc
         rw[hp]
         conv=>whnf
         refine brF rfl ?_
         conv=>whnf
         refine⟨(upN n,k),[0,1,2,3,4,5,6,7,8,9],⟨w5 g1 hz,?_,?_⟩,l6 k,?_⟩
         ·have:=we g1 hz
          show(upN n).length<=k
          unfold upN
          rw[o6]
          omega
         ·exact(by rw[<-g3,hc];rfl)
         ·conv=>whnf
          repeat'(first|exact ⟨⟩|exact rfl|exact qa _|exact .inr rfl|exact fun _ _=>rfl|exact noI|apply And.intro)
          all_goals first
           |exact qq _
           |exact qp _
           |exact qr _ _ _
 ·have h1:¬ 0<cntZ vl l name:=by
   have h:¬ ((cntZ vl l name:Nat):Int) > 0:=px h1
   omega
  have hA:¬ (0<cntZ vl l name/\1<cntZ anyR l name):=fun h=>h1 h.1
  conv=>whnf
  refine⟨fun h3=>?_,fun h3=>?_⟩
  ·have h3:name=top:=by simpa using h3
   have hf:q8 l top name=true:=by unfold q8;rw[if_neg hA,if_pos h3]
   conv=>whnf
   rw[hf]
   refine⟨[0,1,2],_,lookK z S (qb l) st,rfl,rfl,?_,?_,rfl,rfl⟩
   ·exact rfl
   ·conv=>whnf
    repeat'(first|exact ⟨⟩|exact rfl|exact qa _|exact .inr rfl|exact fun _ _=>rfl|exact noI|apply And.intro)
    all_goals first
     |exact qq _
     |exact qp _
     |exact qr _ _ _
  ·have h3:name≠top:=by simpa using h3
   conv=>whnf
   refine⟨fun h4=>?_,fun h4=>?_⟩
   ·have h4:0<cntZ zr l name:=by
     have h:((cntZ zr l name:Nat):Int) > 0:=pw h4
     omega
    have hf:q8 l top name=false:=by unfold q8;rw[if_neg hA,if_neg h3,if_pos (.inl h4)]
    conv=>whnf
    rw[hf]
    refine⟨[0,1,2],_,lookK z S (qb l) st,rfl,rfl,?_,?_,rfl,rfl⟩
    ·exact rfl
    ·conv=>whnf
     repeat'(first|exact ⟨⟩|exact rfl|exact qa _|exact .inr rfl|exact fun _ _=>rfl|exact noI|apply And.intro)
     all_goals first
      |exact qq _
      |exact qp _
      |exact qr _ _ _
   ·have h4:¬ 0<cntZ zr l name:=by
     have h:¬ ((cntZ zr l name:Nat):Int) > 0:=px h4
     omega
    conv=>whnf
    refine⟨fun h5=>?_,fun h5=>?_⟩
    ·have h5:0<cntZ isNs l name:=by
      have h:((cntZ isNs l name:Nat):Int) > 0:=pw h5
      omega
     have hw:IntKind.i64.wrap (((j5 l name).ns:Nat)+((j5 l name).addr:Nat):Int)=((cntZ isNs l name+cntZ j3 l name:Nat):Int):=by
      show IntKind.i64.wrap (((cntZ isNs l name:Nat):Int)+((cntZ j3 l name:Nat):Int))=_
      rw[qd _ (by omega)];omega
     conv=>whnf
     rw[hw]
     refine⟨fun h6=>?_,fun h6=>?_⟩
     ·have h6:cntZ isNs l name+cntZ j3 l name<cntZ anyR l name:=by
       have h:((cntZ anyR l name:Nat):Int) > ((cntZ isNs l name+cntZ j3 l name:Nat):Int):=pw h6
       omega
      have hf:q8 l top name=false:=by unfold q8;rw[if_neg hA,if_neg h3,if_pos (.inr ⟨h5,h6⟩)]
      conv=>whnf
      rw[hf]
      refine⟨[0,1,2],_,lookK z S (qb l) st,rfl,rfl,?_,?_,rfl,rfl⟩
      ·exact rfl
      ·conv=>whnf
       repeat'(first|exact ⟨⟩|exact rfl|exact qa _|exact .inr rfl|exact fun _ _=>rfl|exact noI|apply And.intro)
       all_goals first
        |exact qq _
        |exact qp _
        |exact qr _ _ _
     ·have h6:¬ cntZ isNs l name+cntZ j3 l name<cntZ anyR l name:=by
       have h:¬ ((cntZ anyR l name:Nat):Int) > ((cntZ isNs l name+cntZ j3 l name:Nat):Int):=px h6
       omega
      have hf:q8 l top name=zx l name top (upsN name):=by unfold q8;rw[if_neg hA,if_neg h3,if_neg (fun h=>h.elim h4 (fun h=>h6 h.2))]
      conv=>whnf
      refine oD (y7 name) rfl rfl ?_
      rw[if_pos hn]
      conv=>whnf
      refine brF rfl ?_
      conv=>whnf
      refine .inv (List UInt8 × Nat) (fun s=>qc s.1/\s.1.length<=s.2/\zx l name top (upsF s.2 s.1)=q8 l top name) (fun s=>[(3,.d (.str s.1))]) (fun s=>[]) (fun s=>s.2) ⟨(name,name.length),[0,1,2,3,4,5,6,7,8,9],⟨hn,pr _,by rw[hf];unfold upsN;rw[if_pos hn]⟩,?_⟩ ?_
      ·conv=>whnf
       repeat'(first|exact ⟨⟩|exact rfl|exact qa _|exact .inr rfl|exact fun _ _=>rfl|exact noI|apply And.intro)
       all_goals first
        |exact qq _
        |exact qp _
        |exact qr _ _ _
      clear hf
      intro s hs
      obtain⟨g1,g2,g3⟩:=hs
      conv=>whnf
      generalize s.1=n at g1 g2 g3 ⊢
      generalize s.2=k at g2 g3 ⊢
      obtain⟨k,rfl⟩:∃ k',k=k'+1:=⟨k - 1,by have:=g1.1;omega⟩
      have hc:zx l name top (upsF (k+1) n)=if n=top then true else if n≠name/\0<cntZ isNs l n then cntZ anyR l name == cntZ j3 l name else zx l name top (if n=[0] then [] else upsF k (n.drop (1+bt n 0))):=rfl
      refine⟨fun g4=>?_,fun g4=>?_⟩
      ·have g4:n=top:=by simpa using g4
       have hf:q8 l top name=true:=by rw[<-g3,hc,if_pos g4]
       conv=>whnf
       rw[hf]
       refine⟨[0,1,2],_,lookK z S (qb l) st,rfl,rfl,?_,?_,rfl,rfl⟩
       ·exact rfl
       ·conv=>whnf
        repeat'(first|exact ⟨⟩|exact rfl|exact qa _|exact .inr rfl|exact fun _ _=>rfl|exact noI|apply And.intro)
        all_goals first
         |exact qq _
         |exact qp _
         |exact qr _ _ _
      ·have g4:n≠top:=by simpa using g4
       rw [if_neg g4] at hc
       conv=>whnf
       refine⟨fun g5=>?_,fun g5=>?_⟩
       ·have g5:n≠name:=by simpa using g5
        conv=>whnf
        have hg:=qf3 l n
        cases ha:aget (qb l) n with
        |none =>
         rw [ha] at hg
         have hns:cntZ isNs l n=0:=(congrArg Hd.ns hg).symm
         rw [if_neg (fun h=>by rw [hns] at h;exact absurd h.2 (cw 0))] at hc
         refine ⟨none,by have:=xe (ev:=Hd.enc) y8 (qb l) n;rw [ha] at this;exact this,?_⟩
         conv=>whnf
         refine brF rfl ?_
         conv=>whnf
         refine oD (wy n) rfl rfl ?_
         by_cases hz:n=[0]
         ·have hp:qx n=([],3):=by unfold qx;rw[if_pos g1,if_pos hz]
          have hf:q8 l top name=true:=by rw[<-g3,hc,if_pos hz];rfl
          rw[hp]
          conv=>whnf
          refine brT rfl ?_
          conv=>whnf
          rw[hf]
          refine⟨[0,1,2],_,lookK z S (qb l) st,rfl,rfl,?_,?_,rfl,rfl⟩
          ·exact rfl
          ·conv=>whnf
           repeat'(first|exact ⟨⟩|exact rfl|exact qa _|exact .inr rfl|exact fun _ _=>rfl|exact noI|apply And.intro)
           all_goals first
            |exact qq _
            |exact qp _
            |exact qr _ _ _
         ·have hp:qx n=(upN n,0):=by unfold qx;rw[if_pos g1,if_neg hz]
          rw [if_neg hz] at hc
          rw[hp]
          conv=>whnf
          refine brF rfl ?_
          conv=>whnf
          refine⟨(upN n,k),[0,1,2,3,4,5,6,7,8,9],⟨w5 g1 hz,?_,?_⟩,l6 k,?_⟩
          ·have:=we g1 hz
           show(upN n).length<=k
           unfold upN
           rw[o6]
           omega
          ·exact(by rw[<-g3,hc];rfl)
          ·conv=>whnf
           repeat'(first|exact ⟨⟩|exact rfl|exact qa _|exact .inr rfl|exact fun _ _=>rfl|exact noI|apply And.intro)
           all_goals first
            |exact qq _
            |exact qp _
            |exact qr _ _ _
        |some h0 =>
         rw [ha] at hg
         have hns:h0.ns=cntZ isNs l n:=congrArg Hd.ns hg
         refine ⟨some h0.enc,by have:=xe (ev:=Hd.enc) y8 (qb l) n;rw [ha] at this;exact this,?_⟩
         conv=>whnf
         refine⟨fun g6=>?_,fun g6=>?_⟩
         ·have g6:0<cntZ isNs l n:=by
           have h:((h0.ns:Nat):Int) > 0:=pw g6
           omega
          have hf:q8 l top name=((((j5 l name).all:Nat):Int) == (((j5 l name).addr:Nat):Int)):=by
           rw[<-g3,hc,if_pos ⟨g5,g6⟩,l5,m8,m8]
           show(cntZ anyR l name=cntZ j3 l name)↔((cntZ anyR l name:Nat):Int)=((cntZ j3 l name:Nat):Int)
           omega
          conv=>whnf
          rw[hf]
          refine⟨[0,1,2],_,lookK z S (qb l) st,rfl,rfl,?_,?_,rfl,rfl⟩
          ·exact rfl
          ·conv=>whnf
           repeat'(first|exact ⟨⟩|exact rfl|exact qa _|exact .inr rfl|exact fun _ _=>rfl|exact noI|apply And.intro)
           all_goals first
            |exact qq _
            |exact qp _
            |exact qr _ _ _
         ·have g6:¬ 0<cntZ isNs l n:=by
           have h:¬ ((h0.ns:Nat):Int) > 0:=px g6
           omega
          rw [if_neg (fun h=>g6 h.2)] at hc
          conv=>whnf
          refine oD (wy n) rfl rfl ?_
          by_cases hz:n=[0]
          ·have hp:qx n=([],3):=by unfold qx;rw[if_pos g1,if_pos hz]
           have hf:q8 l top name=true:=by rw[<-g3,hc,if_pos hz];rfl
           rw[hp]
           conv=>whnf
           refine brT rfl ?_
           conv=>whnf
           rw[hf]
           refine⟨[0,1,2],_,lookK z S (qb l) st,rfl,rfl,?_,?_,rfl,rfl⟩
           ·exact rfl
           ·conv=>whnf
            repeat'(first|exact ⟨⟩|exact rfl|exact qa _|exact .inr rfl|exact fun _ _=>rfl|exact noI|apply And.intro)
            all_goals first
             |exact qq _
             |exact qp _
             |exact qr _ _ _
          ·have hp:qx n=(upN n,0):=by unfold qx;rw[if_pos g1,if_neg hz]
           rw [if_neg hz] at hc
           rw[hp]
           conv=>whnf
           refine brF rfl ?_
           conv=>whnf
           refine⟨(upN n,k),[0,1,2,3,4,5,6,7,8,9],⟨w5 g1 hz,?_,?_⟩,l6 k,?_⟩
           ·have:=we g1 hz
            show(upN n).length<=k
            unfold upN
            rw[o6]
            omega
           ·exact(by rw[<-g3,hc];rfl)
           ·conv=>whnf
            repeat'(first|exact ⟨⟩|exact rfl|exact qa _|exact .inr rfl|exact fun _ _=>rfl|exact noI|apply And.intro)
            all_goals first
             |exact qq _
             |exact qp _
             |exact qr _ _ _
       ·have g5:n=name:=by simpa using g5
        rw [if_neg (fun h=>h.1 g5)] at hc
        conv=>whnf
        refine oD (wy n) rfl rfl ?_
        by_cases hz:n=[0]
        ·have hp:qx n=([],3):=by unfold qx;rw[if_pos g1,if_pos hz]
         have hf:q8 l top name=true:=by rw[<-g3,hc,if_pos hz];rfl
         rw[hp]
         conv=>whnf
         refine brT rfl ?_
         conv=>whnf
         rw[hf]
         refine⟨[0,1,2],_,lookK z S (qb l) st,rfl,rfl,?_,?_,rfl,rfl⟩
         ·exact rfl
         ·conv=>whnf
          repeat'(first|exact ⟨⟩|exact rfl|exact qa _|exact .inr rfl|exact fun _ _=>rfl|exact noI|apply And.intro)
          all_goals first
           |exact qq _
           |exact qp _
           |exact qr _ _ _
        ·have hp:qx n=(upN n,0):=by unfold qx;rw[if_pos g1,if_neg hz]
         rw [if_neg hz] at hc
         rw[hp]
         conv=>whnf
         refine brF rfl ?_
         conv=>whnf
         refine⟨(upN n,k),[0,1,2,3,4,5,6,7,8,9],⟨w5 g1 hz,?_,?_⟩,l6 k,?_⟩
         ·have:=we g1 hz
          show(upN n).length<=k
          unfold upN
          rw[o6]
          omega
         ·exact(by rw[<-g3,hc];rfl)
         ·conv=>whnf
          repeat'(first|exact ⟨⟩|exact rfl|exact qa _|exact .inr rfl|exact fun _ _=>rfl|exact noI|apply And.intro)
          all_goals first
           |exact qq _
           |exact qp _
           |exact qr _ _ _
    ·have h5:¬ 0<cntZ isNs l name:=by
      have h:¬ ((cntZ isNs l name:Nat):Int) > 0:=px h5
      omega
     have hf:q8 l top name=zx l name top (upsN name):=by unfold q8;rw[if_neg hA,if_neg h3,if_neg (fun h=>h.elim h4 (fun h=>h5 h.1))]
     conv=>whnf
     refine oD (y7 name) rfl rfl ?_
     rw[if_pos hn]
     conv=>whnf
     refine brF rfl ?_
     conv=>whnf
     refine .inv (List UInt8 × Nat) (fun s=>qc s.1/\s.1.length<=s.2/\zx l name top (upsF s.2 s.1)=q8 l top name) (fun s=>[(3,.d (.str s.1))]) (fun s=>[]) (fun s=>s.2) ⟨(name,name.length),[0,1,2,3,4,5,6,7,8,9],⟨hn,pr _,by rw[hf];unfold upsN;rw[if_pos hn]⟩,?_⟩ ?_
     ·conv=>whnf
      repeat'(first|exact ⟨⟩|exact rfl|exact qa _|exact .inr rfl|exact fun _ _=>rfl|exact noI|apply And.intro)
      all_goals first
       |exact qq _
       |exact qp _
       |exact qr _ _ _
     clear hf
     intro s hs
     obtain⟨g1,g2,g3⟩:=hs
     conv=>whnf
     generalize s.1=n at g1 g2 g3 ⊢
     generalize s.2=k at g2 g3 ⊢
     obtain⟨k,rfl⟩:∃ k',k=k'+1:=⟨k - 1,by have:=g1.1;omega⟩
     have hc:zx l name top (upsF (k+1) n)=if n=top then true else if n≠name/\0<cntZ isNs l n then cntZ anyR l name == cntZ j3 l name else zx l name top (if n=[0] then [] else upsF k (n.drop (1+bt n 0))):=rfl
     refine⟨fun g4=>?_,fun g4=>?_⟩
     ·have g4:n=top:=by simpa using g4
      have hf:q8 l top name=true:=by rw[<-g3,hc,if_pos g4]
      conv=>whnf
      rw[hf]
      refine⟨[0,1,2],_,lookK z S (qb l) st,rfl,rfl,?_,?_,rfl,rfl⟩
      ·exact rfl
      ·conv=>whnf
       repeat'(first|exact ⟨⟩|exact rfl|exact qa _|exact .inr rfl|exact fun _ _=>rfl|exact noI|apply And.intro)
       all_goals first
        |exact qq _
        |exact qp _
        |exact qr _ _ _
     ·have g4:n≠top:=by simpa using g4
      rw [if_neg g4] at hc
      conv=>whnf
      refine⟨fun g5=>?_,fun g5=>?_⟩
      ·have g5:n≠name:=by simpa using g5
       conv=>whnf
       have hg:=qf3 l n
       cases ha:aget (qb l) n with
       |none =>
        rw [ha] at hg
        have hns:cntZ isNs l n=0:=(congrArg Hd.ns hg).symm
        rw [if_neg (fun h=>by rw [hns] at h;exact absurd h.2 (cw 0))] at hc
        refine ⟨none,by have:=xe (ev:=Hd.enc) y8 (qb l) n;rw [ha] at this;exact this,?_⟩
        conv=>whnf
        refine brF rfl ?_
        conv=>whnf
        refine oD (wy n) rfl rfl ?_
        by_cases hz:n=[0]
        ·have hp:qx n=([],3):=by unfold qx;rw[if_pos g1,if_pos hz]
         have hf:q8 l top name=true:=by rw[<-g3,hc,if_pos hz];rfl
         rw[hp]
         conv=>whnf
         refine brT rfl ?_
         conv=>whnf
         rw[hf]
         refine⟨[0,1,2],_,lookK z S (qb l) st,rfl,rfl,?_,?_,rfl,rfl⟩
         ·exact rfl
         ·conv=>whnf
          repeat'(first|exact ⟨⟩|exact rfl|exact qa _|exact .inr rfl|exact fun _ _=>rfl|exact noI|apply And.intro)
          all_goals first
           |exact qq _
           |exact qp _
           |exact qr _ _ _
        ·have hp:qx n=(upN n,0):=by unfold qx;rw[if_pos g1,if_neg hz]
         rw [if_neg hz] at hc
         rw[hp]
         conv=>whnf
         refine brF rfl ?_
         conv=>whnf
         refine⟨(upN n,k),[0,1,2,3,4,5,6,7,8,9],⟨w5 g1 hz,?_,?_⟩,l6 k,?_⟩
         ·have:=we g1 hz
          show(upN n).length<=k
          unfold upN
          rw[o6]
          omega
         ·exact(by rw[<-g3,hc];rfl)
         ·conv=>whnf
          repeat'(first|exact ⟨⟩|exact rfl|exact qa _|exact .inr rfl|exact fun _ _=>rfl|exact noI|apply And.intro)
          all_goals first
           |exact qq _
           |exact qp _
           |exact qr _ _ _
       |some h0 =>
        rw [ha] at hg
        have hns:h0.ns=cntZ isNs l n:=congrArg Hd.ns hg
        refine ⟨some h0.enc,by have:=xe (ev:=Hd.enc) y8 (qb l) n;rw [ha] at this;exact this,?_⟩
        conv=>whnf
        refine⟨fun g6=>?_,fun g6=>?_⟩
        ·have g6:0<cntZ isNs l n:=by
          have h:((h0.ns:Nat):Int) > 0:=pw g6
          omega
         have hf:q8 l top name=((((j5 l name).all:Nat):Int) == (((j5 l name).addr:Nat):Int)):=by
          rw[<-g3,hc,if_pos ⟨g5,g6⟩,l5,m8,m8]
          show(cntZ anyR l name=cntZ j3 l name)↔((cntZ anyR l name:Nat):Int)=((cntZ j3 l name:Nat):Int)
          omega
         conv=>whnf
         rw[hf]
         refine⟨[0,1,2],_,lookK z S (qb l) st,rfl,rfl,?_,?_,rfl,rfl⟩
         ·exact rfl
         ·conv=>whnf
          repeat'(first|exact ⟨⟩|exact rfl|exact qa _|exact .inr rfl|exact fun _ _=>rfl|exact noI|apply And.intro)
          all_goals first
           |exact qq _
           |exact qp _
           |exact qr _ _ _
        ·have g6:¬ 0<cntZ isNs l n:=by
          have h:¬ ((h0.ns:Nat):Int) > 0:=px g6
          omega
         rw [if_neg (fun h=>g6 h.2)] at hc
         conv=>whnf
         refine oD (wy n) rfl rfl ?_
         by_cases hz:n=[0]
         ·have hp:qx n=([],3):=by unfold qx;rw[if_pos g1,if_pos hz]
          have hf:q8 l top name=true:=by rw[<-g3,hc,if_pos hz];rfl
          rw[hp]
          conv=>whnf
          refine brT rfl ?_
          conv=>whnf
          rw[hf]
          refine⟨[0,1,2],_,lookK z S (qb l) st,rfl,rfl,?_,?_,rfl,rfl⟩
          ·exact rfl
          ·conv=>whnf
           repeat'(first|exact ⟨⟩|exact rfl|exact qa _|exact .inr rfl|exact fun _ _=>rfl|exact noI|apply And.intro)
           all_goals first
            |exact qq _
            |exact qp _
            |exact qr _ _ _
         ·have hp:qx n=(upN n,0):=by unfold qx;rw[if_pos g1,if_neg hz]
          rw [if_neg hz] at hc
          rw[hp]
          conv=>whnf
          refine brF rfl ?_
          conv=>whnf
          refine⟨(upN n,k),[0,1,2,3,4,5,6,7,8,9],⟨w5 g1 hz,?_,?_⟩,l6 k,?_⟩
          ·have:=we g1 hz
           show(upN n).length<=k
           unfold upN
           rw[o6]
           omega
          ·exact(by rw[<-g3,hc];rfl)
          ·conv=>whnf
           repeat'(first|exact ⟨⟩|exact rfl|exact qa _|exact .inr rfl|exact fun _ _=>rfl|exact noI|apply And.intro)
           all_goals first
            |exact qq _
            |exact qp _
            |exact qr _ _ _
      ·have g5:n=name:=by simpa using g5
       rw [if_neg (fun h=>h.1 g5)] at hc
       conv=>whnf
       refine oD (wy n) rfl rfl ?_
       by_cases hz:n=[0]
       ·have hp:qx n=([],3):=by unfold qx;rw[if_pos g1,if_pos hz]
        have hf:q8 l top name=true:=by rw[<-g3,hc,if_pos hz];rfl
        rw[hp]
        conv=>whnf
        refine brT rfl ?_
        conv=>whnf
        rw[hf]
        refine⟨[0,1,2],_,lookK z S (qb l) st,rfl,rfl,?_,?_,rfl,rfl⟩
        ·exact rfl
        ·conv=>whnf
         repeat'(first|exact ⟨⟩|exact rfl|exact qa _|exact .inr rfl|exact fun _ _=>rfl|exact noI|apply And.intro)
         all_goals first
          |exact qq _
          |exact qp _
          |exact qr _ _ _
       ·have hp:qx n=(upN n,0):=by unfold qx;rw[if_pos g1,if_neg hz]
        rw [if_neg hz] at hc
        rw[hp]
        conv=>whnf
        refine brF rfl ?_
        conv=>whnf
        refine⟨(upN n,k),[0,1,2,3,4,5,6,7,8,9],⟨w5 g1 hz,?_,?_⟩,l6 k,?_⟩
        ·have:=we g1 hz
         show(upN n).length<=k
         unfold upN
         rw[o6]
         omega
        ·exact(by rw[<-g3,hc];rfl)
        ·conv=>whnf
         repeat'(first|exact ⟨⟩|exact rfl|exact qa _|exact .inr rfl|exact fun _ _=>rfl|exact noI|apply And.intro)
         all_goals first
          |exact qq _
          |exact qp _
          |exact qr _ _ _
def xq(z:Zo)(l:List RR)(r:RR):Bool:=zy z.apex r && !l.any fun x=>keyZ x == keyZ r
theorem opnM_new:∀ {l:List (List DV × List SV)} {key:List DV} (z:List SV),yz l key=none->opnM l key z=(l++[(key,z)],z,l.length)
 |[],_,_,_=>rfl
 |(k,v) :: l,key,z,h=>by
  unfold yz at h
  split at h
  ·cases h
  ·rename_i hk
   unfold opnM
   rw[if_neg hk,opnM_new z h]
   rfl
theorem findM_end{key:List DV}{v:List SV}(hk:ji key key=true):∀ {l:List (List DV × List SV)},yz l key=none->yz (l++[(key,v)]) key=some v
 |[],_=>by
  show(if ji key key then some v else yz [] key)=some v
  rw[if_pos hk]
 |(k,u) :: l,h=>by
  unfold yz at h
  split at h
  ·cases h
  ·rename_i hn
   show(if ji key k then some u else yz (l++[(key,v)]) key)=some v
   rw[if_neg hn]
   exact findM_end hk h
theorem lookE{zero:List SV}{o:Option Hd}{F:SV->Prop}(hz:zero=Hd.no.enc)(hF:Eng.lookK false true zero (some (o.getD Hd.no).enc) F):Eng.lookK false true zero (o.map Hd.enc) F:=by
 cases o with
 |none=>subst hz;exact hF
 |some h=>exact hF
theorem putQ_end(k:List DV)(v v':List SV):∀ l:List (List DV × List SV),putQ (l++[(k,v)]) l.length v'=l++[(k,v')]
 |[]=>rfl
 |p :: l=>by
  show p :: putQ (l++[(k,v)]) l.length v'=_
  rw[putQ_end k v v' l]
  rfl
theorem take_ok(z:Zo)(l:List RR)(hl:l.length<=300)(r:RR)(hr:r.nm.length<=100000) :
 COk Tryz.prog 109 [.ptr 0 0,.agg (r.enc.map .d)] (lookK z (jr l) (qb l) .free) (fun s k=>s = .d (.bool (xq z l r))/\k=if xq z l r then lookK z (jr (l++[r])) (qb (l++[r])) .free else lookK z (jr l) (qb l) .free):=by
 refine yg (TT:=TT) (IN:=qi []) qk qm mixed 1000 Tryz.func109 rfl (qe Tryz.func109 (by kernel_rfl) rfl) 106 (by kernel_rfl) ?_
 conv=>whnf
 refine⟨fun h1=>?_,fun h1=>?_⟩
 ·have hb:xq z l r=false:=by unfold xq zy;rw[show(r.cl == 1)=false by simpa using h1];rfl
  conv=>whnf
  rw[hb]
  refine⟨[0,1,2],_,lookK z (jr l) (qb l) .free,rfl,rfl,?_,?_,rfl,rfl⟩
  ·exact rfl
  ·conv=>whnf
   repeat'(first|exact ⟨⟩|exact rfl|exact qa _|exact .inr rfl|exact fun _ _=>rfl|exact noI|apply And.intro)
   all_goals first
    |exact qq _
    |exact qp _
    |exact qr _ _ _
 have h1:(r.cl == 1)=true:=by simpa using h1
 conv=>whnf
 refine⟨fun h2=>?_,fun h2=>?_⟩
 ·have hb:xq z l r=false:=by unfold xq zy;rw[h1,show(r.ty != 41)=false by simpa using h2];rfl
  conv=>whnf
  rw[hb]
  refine⟨[0,1,2],_,lookK z (jr l) (qb l) .free,rfl,rfl,?_,?_,rfl,rfl⟩
  ·exact rfl
  ·conv=>whnf
   repeat'(first|exact ⟨⟩|exact rfl|exact qa _|exact .inr rfl|exact fun _ _=>rfl|exact noI|apply And.intro)
   all_goals first
    |exact qq _
    |exact qp _
    |exact qr _ _ _
 have h2:(r.ty != 41)=true:=by simpa using h2
 conv=>whnf
 refine⟨fun h3=>?_,fun h3=>?_⟩
 ·have hb:xq z l r=false:=by unfold xq zy;rw[h1,h2,show(r.ttl != 0)=false by simpa using h3];rfl
  conv=>whnf
  rw[hb]
  refine⟨[0,1,2],_,lookK z (jr l) (qb l) .free,rfl,rfl,?_,?_,rfl,rfl⟩
  ·exact rfl
  ·conv=>whnf
   repeat'(first|exact ⟨⟩|exact rfl|exact qa _|exact .inr rfl|exact fun _ _=>rfl|exact noI|apply And.intro)
   all_goals first
    |exact qq _
    |exact qp _
    |exact qr _ _ _
 have h3:(r.ttl != 0)=true:=by simpa using h3
 conv=>whnf
 refine .data _ (ji0 r) rfl rfl ?_
 cases h4:r.check with
 |false =>
  have hb:xq z l r=false:=by unfold xq zy;rw[h1,h2,h3,h4];rfl
  conv=>whnf
  refine brT rfl ?_
  conv=>whnf
  rw[hb]
  refine⟨[0,1,2],_,lookK z (jr l) (qb l) .free,rfl,rfl,?_,?_,rfl,rfl⟩
  ·exact rfl
  ·conv=>whnf
   repeat'(first|exact ⟨⟩|exact rfl|exact qa _|exact .inr rfl|exact fun _ _=>rfl|exact noI|apply And.intro)
   all_goals first
    |exact qq _
    |exact qp _
    |exact qr _ _ _
 |true =>
  conv=>whnf
  refine brF rfl ?_
  conv=>whnf
  refine .data _ (within_ok _ _) rfl rfl ?_
  cases h5:jg r.nm z.apex with
  |false =>
   have hb:xq z l r=false:=by unfold xq zy;rw[h1,h2,h3,h4,h5];rfl
   conv=>whnf
   refine brT rfl ?_
   conv=>whnf
   rw[hb]
   refine⟨[0,1,2],_,lookK z (jr l) (qb l) .free,rfl,rfl,?_,?_,rfl,rfl⟩
   ·exact rfl
   ·conv=>whnf
    repeat'(first|exact ⟨⟩|exact rfl|exact qa _|exact .inr rfl|exact fun _ _=>rfl|exact noI|apply And.intro)
    all_goals first
     |exact qq _
     |exact qp _
     |exact qr _ _ _
  |true =>
   have hb:xq z l r = !l.any fun x=>keyZ x == keyZ r:=by unfold xq zy;rw[h1,h2,h3,h4,h5];rfl
   conv=>whnf
   refine brF rfl ?_
   conv=>whnf
   refine oD (x5 r.nm (by omega)) rfl rfl ?_
   conv=>whnf
   refine .data _ (rfold_ok r.ty r.d) rfl rfl ?_
   conv=>whnf
   have hfs:yz (aenc z7 intV (jr l)) [.str (fold r.nm),.int .u16 r.ty,.int .u16 r.cl,.str (vt r.ty r.d)]=(aget (jr l) (keyZ r)).map intV:=xe saidK_eq (jr l) (keyZ r)
   rw [said_get] at hfs
   cases h6:l.any fun x=>keyZ x == keyZ r with
   |true =>
    rw [h6] at hfs hb
    refine⟨_,hfs,?_⟩
    conv=>whnf
    refine brT rfl ?_
    conv=>whnf
    rw[hb]
    refine⟨[0,1,2],_,lookK z (jr l) (qb l) .free,rfl,rfl,?_,?_,rfl,rfl⟩
    ·exact rfl
    ·conv=>whnf
     repeat'(first|exact ⟨⟩|exact rfl|exact qa _|exact .inr rfl|exact fun _ _=>rfl|exact noI|apply And.intro)
     all_goals first
      |exact qq _
      |exact qp _
      |exact qr _ _ _
   |false =>
    rw [h6] at hfs hb
    refine⟨_,hfs,?_⟩
    conv=>whnf
    refine brF rfl ?_
    conv=>whnf
    have hop:=opnM_new [SV.d (.int .i64 0)] hfs
    have hfs2:yz (aenc z7 intV (jr l)++[(z7 (keyZ r),[SV.d (.int .i64 0)])]) [.str (fold r.nm),.int .u16 r.ty,.int .u16 r.cl,.str (vt r.ty r.d)]=some [SV.d (.int .i64 0)]:=findM_end ((saidK_eq (keyZ r) (keyZ r)).trans (pn rfl)) hfs
    have hss:putQ (aenc z7 intV (jr l)++[(z7 (keyZ r),[SV.d (.int .i64 0)])]) (aenc z7 intV (jr l)).length [SV.d (.int .i64 1)]=aenc z7 intV (jr (l++[r])):=by
     rw[putQ_end,said_snoc]
     unfold aenc
     rw[d6]
     rfl
    apply Exists.intro
    refine⟨?_,?_⟩
    ·conv=>whnf
     repeat'(first|exact ⟨⟩|exact⟨rfl,rfl⟩|refine⟨_,hfs,?_⟩|refine⟨_,hfs2,?_⟩|refine⟨_,_,_,hop,?_⟩|intro s|refine⟨rfl,_,hss,?_⟩|apply And.intro|(conv=>whnf))
    conv=>whnf
    rw[hb]
    have hfn:yz (aenc strK Hd.enc (qb l)) [.str (fold r.nm)]=(aget (qb l) (fold r.nm)).map Hd.enc:=xe y8 (qb l) (fold r.nm)
    have hg:=qf3 l (fold r.nm)
    have b1:=um anyR l (fold r.nm)
    have b2:=um zr l (fold r.nm)
    have b3:=um isNs l (fold r.nm)
    have b4:=um vl l (fold r.nm)
    have b5:=um j3 l (fold r.nm)
    have hh:(aget (qb l) (fold r.nm)).getD Hd.no=j5 l (fold r.nm):=hg
    refine⟨_,hfn,?_⟩
    refine lookE rfl ?_
    rw[hh]
    have hg:j5 l (fold r.nm)=j5 l (fold r.nm):=rfl
    generalize hgen:j5 l (fold r.nm)=h at hh ⊢
    clear hg
    have hg:h=j5 l (fold r.nm):=hgen.symm
    have c1:h.all<=300:=by rw[hg];exact gn b1 hl
    have c2:h.soa<=300:=by rw[hg];exact gn b2 hl
    have c3:h.ns<=300:=by rw[hg];exact gn b3 hl
    have c4:h.alias<=300:=by rw[hg];exact gn b4 hl
    have c5:h.addr<=300:=by rw[hg];exact gn b5 hl
    have e0:IntKind.i64.wrap ((h.all:Int)+1)=((h.all+1:Nat):Int):=by rw[qd _ (by omega)];omega
    have e1:IntKind.i64.wrap ((h.soa:Int)+1)=((h.soa+1:Nat):Int):=by rw[qd _ (by omega)];omega
    have e2:IntKind.i64.wrap ((h.ns:Int)+1)=((h.ns+1:Nat):Int):=by rw[qd _ (by omega)];omega
    have e3:IntKind.i64.wrap ((h.alias:Int)+1)=((h.alias+1:Nat):Int):=by rw[qd _ (by omega)];omega
    have e4:IntKind.i64.wrap ((h.addr:Int)+1)=((h.addr+1:Nat):Int):=by rw[qd _ (by omega)];omega
    conv=>whnf
    rw[e0]
    refine⟨fun k1=>?_,fun k1=>?_⟩
    ·have k1:r.ty=6:=by simpa using k1
     have hadd:h.add r=⟨h.all+1,h.soa+1,h.ns,h.alias,h.addr⟩:=by unfold Hd.add;rw[k1];rfl
     conv=>whnf
     rw[e1]
     have hput:putM (aenc strK Hd.enc (qb l)) [.str (fold r.nm)] (h.add r).enc=aenc strK Hd.enc (qb (l++[r])):=by
      have:=qd4 (ev:=Hd.enc) y8 (qb l) (fold r.nm) (h.add r)
      rw[ub,hh]
      exact this
     rw [hadd] at hput
     refine⟨_,hput,?_⟩
     conv=>whnf
     refine⟨[0,1,2],_,lookK z (jr (l++[r])) (qb (l++[r])) .free,rfl,rfl,?_,?_,rfl,rfl⟩
     ·exact rfl
     ·conv=>whnf
      repeat'(first|exact ⟨⟩|exact rfl|exact qa _|exact .inr rfl|exact fun _ _=>rfl|exact noI|apply And.intro)
      all_goals first
       |exact qq _
       |exact qp _
       |exact qr _ _ _
    have k1:r.ty≠6:=by simpa using k1
    conv=>whnf
    refine⟨fun k2=>?_,fun k2=>?_⟩
    ·have k2:r.ty=2:=by simpa using k2
     have hadd:h.add r=⟨h.all+1,h.soa,h.ns+1,h.alias,h.addr⟩:=by unfold Hd.add;rw[k2];rfl
     conv=>whnf
     rw[e2]
     have hput:putM (aenc strK Hd.enc (qb l)) [.str (fold r.nm)] (h.add r).enc=aenc strK Hd.enc (qb (l++[r])):=by
      have:=qd4 (ev:=Hd.enc) y8 (qb l) (fold r.nm) (h.add r)
      rw[ub,hh]
      exact this
     rw [hadd] at hput
     refine⟨_,hput,?_⟩
     conv=>whnf
     refine⟨[0,1,2],_,lookK z (jr (l++[r])) (qb (l++[r])) .free,rfl,rfl,?_,?_,rfl,rfl⟩
     ·exact rfl
     ·conv=>whnf
      repeat'(first|exact ⟨⟩|exact rfl|exact qa _|exact .inr rfl|exact fun _ _=>rfl|exact noI|apply And.intro)
      all_goals first
       |exact qq _
       |exact qp _
       |exact qr _ _ _
    have k2:r.ty≠2:=by simpa using k2
    conv=>whnf
    refine⟨fun k3=>?_,fun k3=>?_⟩
    ·have k3:r.ty=5:=by simpa using k3
     have hadd:h.add r=⟨h.all+1,h.soa,h.ns,h.alias+1,h.addr⟩:=by unfold Hd.add;rw[k3];rfl
     conv=>whnf
     rw[e3]
     have hput:putM (aenc strK Hd.enc (qb l)) [.str (fold r.nm)] (h.add r).enc=aenc strK Hd.enc (qb (l++[r])):=by
      have:=qd4 (ev:=Hd.enc) y8 (qb l) (fold r.nm) (h.add r)
      rw[ub,hh]
      exact this
     rw [hadd] at hput
     refine⟨_,hput,?_⟩
     conv=>whnf
     refine⟨[0,1,2],_,lookK z (jr (l++[r])) (qb (l++[r])) .free,rfl,rfl,?_,?_,rfl,rfl⟩
     ·exact rfl
     ·conv=>whnf
      repeat'(first|exact ⟨⟩|exact rfl|exact qa _|exact .inr rfl|exact fun _ _=>rfl|exact noI|apply And.intro)
      all_goals first
       |exact qq _
       |exact qp _
       |exact qr _ _ _
    have k3:r.ty≠5:=by simpa using k3
    conv=>whnf
    refine⟨fun k4=>?_,fun k4=>?_⟩
    ·have k4':=k4
     have k4:r.ty=1:=by simpa using k4
     have hadd:h.add r=⟨h.all+1,h.soa,h.ns,h.alias,h.addr+1⟩:=by unfold Hd.add;rw[k4];rfl
     conv=>whnf
     refine brT k4' ?_
     conv=>whnf
     rw[e4]
     have hput:putM (aenc strK Hd.enc (qb l)) [.str (fold r.nm)] (h.add r).enc=aenc strK Hd.enc (qb (l++[r])):=by
      have:=qd4 (ev:=Hd.enc) y8 (qb l) (fold r.nm) (h.add r)
      rw[ub,hh]
      exact this
     rw [hadd] at hput
     refine⟨_,hput,?_⟩
     conv=>whnf
     refine⟨[0,1,2],_,lookK z (jr (l++[r])) (qb (l++[r])) .free,rfl,rfl,?_,?_,rfl,rfl⟩
     ·exact rfl
     ·conv=>whnf
      repeat'(first|exact ⟨⟩|exact rfl|exact qa _|exact .inr rfl|exact fun _ _=>rfl|exact noI|apply And.intro)
      all_goals first
       |exact qq _
       |exact qp _
       |exact qr _ _ _
    have k4:r.ty≠1:=by simpa using k4
    conv=>whnf
    refine⟨fun k5=>?_,fun k5=>?_⟩
    ·have k5:r.ty=28:=by simpa using k5
     have hadd:h.add r=⟨h.all+1,h.soa,h.ns,h.alias,h.addr+1⟩:=by unfold Hd.add;rw[k5];rfl
     conv=>whnf
     rw[e4]
     have hput:putM (aenc strK Hd.enc (qb l)) [.str (fold r.nm)] (h.add r).enc=aenc strK Hd.enc (qb (l++[r])):=by
      have:=qd4 (ev:=Hd.enc) y8 (qb l) (fold r.nm) (h.add r)
      rw[ub,hh]
      exact this
     rw [hadd] at hput
     refine⟨_,hput,?_⟩
     conv=>whnf
     refine⟨[0,1,2],_,lookK z (jr (l++[r])) (qb (l++[r])) .free,rfl,rfl,?_,?_,rfl,rfl⟩
     ·exact rfl
     ·conv=>whnf
      repeat'(first|exact ⟨⟩|exact rfl|exact qa _|exact .inr rfl|exact fun _ _=>rfl|exact noI|apply And.intro)
      all_goals first
       |exact qq _
       |exact qp _
       |exact qr _ _ _
    have k5:r.ty≠28:=by simpa using k5
    have hadd:h.add r=⟨h.all+1,h.soa,h.ns,h.alias,h.addr⟩:=by unfold Hd.add;rw[if_neg k1,if_neg k2,if_neg k3,if_neg (fun h=>h.elim k4 k5)]
    conv=>whnf
    have hput:putM (aenc strK Hd.enc (qb l)) [.str (fold r.nm)] (h.add r).enc=aenc strK Hd.enc (qb (l++[r])):=by
     have:=qd4 (ev:=Hd.enc) y8 (qb l) (fold r.nm) (h.add r)
     rw[ub,hh]
     exact this
    rw [hadd] at hput
    refine⟨_,hput,?_⟩
    conv=>whnf
    refine⟨[0,1,2],_,lookK z (jr (l++[r])) (qb (l++[r])) .free,rfl,rfl,?_,?_,rfl,rfl⟩
    ·exact rfl
    ·conv=>whnf
     repeat'(first|exact ⟨⟩|exact rfl|exact qa _|exact .inr rfl|exact fun _ _=>rfl|exact noI|apply And.intro)
     all_goals first
      |exact qq _
      |exact qp _
      |exact qr _ _ _
theorem sound_law{z:Zo}(h1:cntZ zr z.rrs (fold z.apex)=1)(h2:cntZ isNs z.rrs (fold z.apex)≠0):wl z=(qb z.rrs).all fun e=>q8 z.rrs (fold z.apex) e.1:=by
 unfold wl
 rw[h1,names_all z.rrs (fun n=>q8 z.rrs (fold z.apex) n)]
 have:(cntZ isNs z.rrs (fold z.apex) != 0)=true:=by simpa using h2
 rw[this]
 rfl
instance:Inhabited Hd:=⟨Hd.no⟩
theorem lookK_map(z:Zo)(S:List ((List UInt8 × Int × Int × List UInt8) × Nat))(N:List (List UInt8 × Hd))(st:MS){σ:Nat->Nat}(h1:σ 1=1)(h2:σ 2=2):mapB σ (lookK z S N st)=lookK z S N st:=by
 show[KB.cells _ [_,_,SV.map (σ 1),SV.map (σ 2)],KB.mapx _ _ _ (mapM _ (aenc z7 intV S)) _,KB.mapx _ _ _ (mapM _ (aenc strK Hd.enc N)) _]=_
 rw[h1,h2,jb8,jc3]
 rfl
theorem sound_ok(z:Zo)(S:List ((List UInt8 × Int × Int × List UInt8) × Nat))(hl:z.rrs.length<=300)(hn:∀ r ∈ z.rrs,qc r.nm)(ha:z.apex.length<=100000) :
 COk Tryz.prog 110 [.ptr 0 0] (lookK z S (qb z.rrs) .free) (fun s k=>s = .d (.bool (wl z))/\k=lookK z S (qb z.rrs) .free):=by
 refine yg (TT:=TT) (IN:=qi []) qk qm mixed 1000 Tryz.func110 rfl (qe Tryz.func110 (by kernel_rfl) rfl) 42 (by kernel_rfl) ?_
 conv=>whnf
 refine oD (x5 z.apex (by omega)) rfl rfl ?_
 conv=>whnf
 have hfn:yz (aenc strK Hd.enc (qb z.rrs)) [.str (fold z.apex)]=(aget (qb z.rrs) (fold z.apex)).map Hd.enc:=xe y8 (qb z.rrs) (fold z.apex)
 have hg:=qf3 z.rrs (fold z.apex)
 refine⟨_,hfn,?_⟩
 refine lookE rfl ?_
 rw[hg]
 conv=>whnf
 refine⟨fun h1=>?_,fun h1=>?_⟩
 ·have hb:wl z=false:=by
   have h1:((cntZ zr z.rrs (fold z.apex):Nat):Int)≠1:=(show(((j5 z.rrs (fold z.apex)).soa:Nat):Int)≠1 by simpa using h1)
   unfold wl
   rw[show(cntZ zr z.rrs (fold z.apex) == 1)=false by rw[o9];omega]
   rfl
  conv=>whnf
  rw[hb]
  refine⟨[0,1,2],_,lookK z S (qb z.rrs) .free,rfl,rfl,?_,?_,rfl,rfl⟩
  ·exact rfl
  ·conv=>whnf
   repeat'(first|exact ⟨⟩|exact rfl|exact qa _|exact .inr rfl|exact fun _ _=>rfl|exact noI|apply And.intro)
   all_goals first
    |exact qq _
    |exact qp _
    |exact qr _ _ _
 have h1:cntZ zr z.rrs (fold z.apex)=1:=by
  have h2:(((j5 z.rrs (fold z.apex)).soa:Nat):Int)=1:=by simpa using h1
  have h3:((cntZ zr z.rrs (fold z.apex):Nat):Int)=1:=h2
  omega
 conv=>whnf
 refine⟨fun h2=>?_,fun h2=>?_⟩
 ·have hb:wl z=false:=by
   have h2:(((j5 z.rrs (fold z.apex)).ns:Nat):Int)=0:=by simpa using h2
   have h3:((cntZ isNs z.rrs (fold z.apex):Nat):Int)=0:=h2
   unfold wl
   rw[show(cntZ isNs z.rrs (fold z.apex) != 0)=false by rw[bne_eq_false_iff_eq];omega]
   rw[f8,f9]
  conv=>whnf
  rw[hb]
  refine⟨[0,1,2],_,lookK z S (qb z.rrs) .free,rfl,rfl,?_,?_,rfl,rfl⟩
  ·exact rfl
  ·conv=>whnf
   repeat'(first|exact ⟨⟩|exact rfl|exact qa _|exact .inr rfl|exact fun _ _=>rfl|exact noI|apply And.intro)
   all_goals first
    |exact qq _
    |exact qp _
    |exact qr _ _ _
 have h2:cntZ isNs z.rrs (fold z.apex)≠0:=by
  have h2:¬ (((j5 z.rrs (fold z.apex)).ns:Nat):Int)=0:=by simpa using h2
  have h3:¬ ((cntZ isNs z.rrs (fold z.apex):Nat):Int)=0:=h2
  omega
 have hlaw:=sound_law h1 h2
 conv=>whnf
 intro bs c rem hbl hrem
 conv=>whnf
 refine .inv (List Nat × Nat) (fun s=>s.1.Nodup/\(∀ q ∈ s.1,q<(qb z.rrs).length)/\∀ q,q<(qb z.rrs).length->q ∉ s.1->q8 z.rrs (fold z.apex) ((qb z.rrs).getD q default).1=true) (fun s=>[]) (fun s=>[(4,.iter 2 bs c s.1 s.2)]) (fun s=>s.1.length) ⟨(rem,bs.length),[0,1,2,3,4],?_,?_⟩ ?_
 ·have hL:(aenc strK Hd.enc (qb z.rrs)).length=(qb z.rrs).length:=mr ..
  refine⟨?_,fun q hq=>?_,fun q hq hn=>?_⟩
  ·rw[<-hrem];exact List.nodup_range
  ·rw [<-hrem,hL] at hq;exact m7.1 hq
  ·exact absurd (by rw[<-hrem,hL];exact m7.2 hq) hn
 ·conv=>whnf
  repeat'(first|exact ⟨⟩|exact rfl|exact qa _|exact .inr rfl|exact fun _ _=>rfl|exact noI|apply And.intro)
  all_goals first
   |exact qq _
   |exact qp _
   |exact qr _ _ _
 intro s hs
 conv=>whnf
 obtain⟨s1,s2,s3⟩:=hs
 generalize s.1=R at s1 s2 s3 ⊢
 generalize s.2=lst
 refine⟨⟨rfl,rfl⟩,fun q hq=>?_,fun h0=>?_⟩
 ·have hql:=s2 q hq
  have hqe:(qb z.rrs)[q]? = some (qb z.rrs)[q]:=pp hql
  have hgd:(qb z.rrs).getD q default=(qb z.rrs)[q]:=by rw[dq,hqe];rfl
  have hmem:=gv hql
  generalize (qb z.rrs)[q]=e at hqe hgd hmem
  have hae:(aenc strK Hd.enc (qb z.rrs))[q]? = some (strK e.1,e.2.enc):=by unfold aenc;rw[o5,hqe];rfl
  have he2:=namesL_mem hmem
  obtain⟨r,hr,hre⟩:=namesL_of hmem
  have hen:qc e.1:=by rw[<-hre];exact qq4 (hn r hr)
  refine⟨_,_,hae,?_⟩
  conv=>whnf
  intro R' hR'
  conv=>whnf
  refine⟨⟨rfl,rfl⟩,_,_,hae,?_⟩
  conv=>whnf
  rw[he2]
  refine .rel _ (COk.frameX (fits_ok z S z.rrs hl (.born bs c) e.1 (fold z.apex) hen) [0,1,2] rfl rfl (lookK_map z S (qb z.rrs) (.born bs c) rfl rfl).symm) (fun x ks' hR=>?_)
  obtain⟨s0,k0,⟨rfl,rfl⟩,rfl,rfl⟩:=hR
  rw[lookK_map z S (qb z.rrs) (.born bs c) rfl rfl]
  cases hfit:q8 z.rrs (fold z.apex) e.1 with
  |false =>
   have hb:wl z=false:=by
    rw[hlaw,ao]
    exact⟨e,hmem,by rw[hfit];decide⟩
   conv=>whnf
   refine brT rfl ?_
   conv=>whnf
   rw[hb]
   refine⟨[0,1,2],_,lookK z S (qb z.rrs) .free,rfl,rfl,?_,?_,rfl,rfl⟩
   ·exact rfl
   ·conv=>whnf
    repeat'(first|exact ⟨⟩|exact rfl|exact qa _|exact .inr rfl|exact fun _ _=>rfl|exact noI|apply And.intro)
    all_goals first
     |exact qq _
     |exact qp _
     |exact qr _ _ _
  |true =>
   conv=>whnf
   refine brF rfl ?_
   conv=>whnf
   refine⟨(R',q),[0,1,2,3,4],⟨?_,?_,?_⟩,?_,?_⟩
   ·rw[<-hR'];exact s1.erase q
   ·intro q' hq'
    rw [<-hR'] at hq'
    exact s2 q' (List.mem_of_mem_erase hq')
   ·intro q' hq' hn'
    by_cases hqq:q'=q
    ·subst hqq;rw[hgd];exact hfit
    ·exact s3 q' hq' (fun hm=>hn' (by rw[<-hR'];exact(List.mem_erase_of_ne hqq).2 hm))
   ·rw[<-hR']
    show(R.erase q).length<R.length
    rw[List.length_erase_of_mem hq]
    have:=List.length_pos_of_mem hq
    omega
   ·conv=>whnf
    repeat'(first|exact ⟨⟩|exact rfl|exact qa _|exact .inr rfl|exact fun _ _=>rfl|exact noI|apply And.intro)
    all_goals first
     |exact qq _
     |exact qp _
     |exact qr _ _ _
 ·have hb:wl z=true:=by
   rw[hlaw,lw]
   intro e he
   obtain⟨q,hq,rfl⟩:=o8.1 he
   have:=s3 q hq (by rw[h0];simp)
   rw [dq,pp hq] at this
   exact this
  conv=>whnf
  rw[hb]
  refine⟨[0,1,2],_,lookK z S (qb z.rrs) .free,rfl,rfl,?_,?_,rfl,rfl⟩
  ·exact rfl
  ·conv=>whnf
   repeat'(first|exact ⟨⟩|exact rfl|exact qa _|exact .inr rfl|exact fun _ _=>rfl|exact noI|apply And.intro)
   all_goals first
    |exact qq _
    |exact qp _
    |exact qr _ _ _
theorem DenTo.tup[Dr]{l m:List SV}(h:DenToL l m):DenTo (.tup l) (.tup m):=fun w M β v hd=>by
 cases hd with
 |tup _ vs h1 h2 =>
  refine .tup _ vs (by rw[<-h.len];exact h1) (fun j t u ht hu=>?_)
  have hj:j<l.length:=by rw[h.len];exact(pq.1 ht).1
  exact h.at j _ t (pp hj) ht _ _ _ _ (h2 j _ u (pp hj) hu)
theorem COk.resD[Dr]{P:Program}{f:FuncId}{args:List SV}{ks:List KB}{R R':SV->List KB->Prop}(h:COk P f args ks R)(hR:∀ s k,R s k->∃ s',DenTo s s'/\R' s' k):COk P f args ks R' :=
 ⟨h.1,fun X w β fp vs hM hl hd=>(h.2 X w β fp vs hM hl hd).mono (fun e w' h=>by
  obtain⟨r,s,ks',β',fp',h1,h2,h3,h4⟩:=h
  obtain⟨s',hs,hR'⟩:=hR s ks' h2
  exact⟨r,s',ks',β',fp',h1,hR',h3,hs _ _ _ _ h4⟩)⟩
structure Fo where
 zz:Bool
 zones:List Zo
 hz:Bool
 hosts:List (Int × Bool × List Int)
def zb(zs:List Zo)(n:List UInt8):Option Nat:=zs.findIdx? fun z=>fold z.apex == n
def topCut(name:List UInt8):List (List UInt8)->Option (List UInt8)
 |[]=>none
 |c :: l=>if jg name c then (match topCut name l with
  |none=>some (fold c)
  |some b=>if ja c<=ja b then some (fold c) else some b) else topCut name l
def Zo.cut(z:Zo)(name:List UInt8):Option (List UInt8):=topCut name z.cutL
theorem qe4{n c:List UInt8}(h:jg n c=true):qc n/\qc c:=by
 unfold jg at h
 simp only [oq,ly] at h
 exact⟨h.1,h.2.1⟩
theorem qy3{c:List UInt8}(hc:qc c):ja (fold c)=ja c:=by
 unfold ja
 rw[if_pos hc,if_pos (qq4 hc),qs5 hc]
 unfold fl
 rw[mr]
theorem fl_of_fold{a b:List UInt8}(ha:qc a)(hb:qc b)(h:fold a=fold b):fl a=fl b:=by
 rw[<-qs5 ha,<-qs5 hb,h]
theorem jp3{n a b:List UInt8}(ha:qc a)(h:fold a=fold b)(hw:jg n b=true):jg n a=true:=by
 have hb:=(qe4 hw).2
 unfold jg at hw ⊢
 rw[fl_of_fold ha hb h,pn ha]
 rwa [pn hb] at hw
theorem within_count{n z:List UInt8}(h:jg n z=true):ja z<=ja n:=by
 obtain⟨hn,hz⟩:=qe4 h
 unfold jg at h
 simp only [oq,sq] at h
 have hl:=h.2.2.length_le
 unfold fl at hl
 rw [mr,mr] at hl
 unfold ja
 rw[if_pos hn,if_pos hz]
 exact hl
theorem jq5{n z:List UInt8}(h:jg n z=true)(hs:xr n z=false):ja z<ja n:=by
 obtain⟨hn,hz⟩:=qe4 h
 have hle:=within_count h
 apply Classical.byContradiction
 intro hc
 unfold jg at h
 simp only [oq,sq] at h
 have hlen:(fl z).length=(fl n).length:=by
  unfold ja at hle hc
  rw [if_pos hn,if_pos hz] at hle hc
  unfold fl
  rw[mr,mr]
  omega
 have e:=h.2.2.eq_of_length hlen
 have:xr n z=true:=by
  unfold xr
  rw[pn hn,pn hz,my,my,m8,qd6 hn,qd6 hz,e]
 rw [this] at hs
 cases hs
theorem Zo.ok_name{z:Zo}(h:z.ok=true):qc z.apex:=by
 unfold Zo.ok at h
 simp only [oq,ly] at h
 exact h.1
theorem Zo.ok_take{z:Zo}(h:z.ok=true){r:RR}(hr:r ∈ z.rrs):zy z.apex r=true:=by
 unfold Zo.ok at h
 simp only [oq,lw] at h
 exact h.2.2.1 r hr
theorem qr3{zs:List Zo}{b:List UInt8}{i:Nat}(h:zb zs b=some i):∃ z,zs[i]? = some z/\fold z.apex=b:=by
 unfold zb at h
 obtain⟨hi,h1,_⟩:=List.findIdx?_eq_some_iff_getElem.1 h
 exact⟨zs[i],pp hi,by simpa using h1⟩
def Zo.V(z:Zo):SV:=.agg [.d (.str z.apex),.d (rrsD z.z z.rrs)]
theorem took_next(z:Zo){i:Nat}{r:RR}(h:z.rrs[i]? = some r):xj z.apex (z.rrs.take (i+1))=(xj z.apex (z.rrs.take i) && xq z (z.rrs.take i) r):=by
 rw[m5,h]
 exact jl1 _ _ _
theorem qh2(z:Zo)(S:List ((List UInt8 × Int × Int × List UInt8) × Nat))(N:List (List UInt8 × Hd))(st:MS)(σ:Nat->Nat):mapB σ (lookK z S N st)=[.cells 128 [.d (.str z.apex),.d (rrsD z.z z.rrs),.map (σ 1),.map (σ 2)],vb S,k6 N st]:=by
 show[KB.cells _ [_,_,SV.map (σ 1),SV.map (σ 2)],KB.mapx _ _ _ (mapM _ (aenc z7 intV S)) _,KB.mapx _ _ _ (mapM _ (aenc strK Hd.enc N)) _]=_
 rw[jb8,jc3]
 rfl
theorem see_raw(z:Zo)(hz:∀ r ∈ z.rrs,r.nm.length<=100000/\r.d.length<=100000) :
 COk Tryz.prog 73 [z.V] [] (fun s k=>∃ S N b,s = .tup [.agg [.d (.str z.apex),.d (rrsD z.z z.rrs),.map 0,.map 1],.d b]/\DenTo (.d b) (.d (.bool z.ok))/\k=[vb S,k6 N .free]):=by
 refine yg (TT:=TT) (IN:=qi []) qk qm mixed 1000 Tryz.func73 rfl (qe Tryz.func73 (by kernel_rfl) rfl) 38 (by kernel_rfl) ?_
 conv=>whnf
 refine oD (y7 z.apex) rfl rfl ?_
 by_cases hn:qc z.apex
 case neg =>
  rw[if_neg hn]
  have hb:z.ok=false:=by rw[z.ok_eq,po hn];rfl
  conv=>whnf
  refine brT rfl ?_
  conv=>whnf
  rw[hb]
  refine⟨[2,3],_,[vb [],k6 [] .free],rfl,rfl,?_,?_,[],[],.ff,rfl,DenTo.ff,rfl⟩
  ·exact rfl
  ·conv=>whnf
   repeat'(first|exact ⟨⟩|exact rfl|exact qa _|exact .inr rfl|exact fun _ _=>rfl|exact noI|apply And.intro)
 rw[if_pos hn]
 conv=>whnf
 refine brF rfl ?_
 conv=>whnf
 refine⟨fun h1=>?_,fun h1=>?_⟩
 ·have h1:¬ z.rrs.length<=256:=by
   have h:(z.rrs.length:Int) > 256:=pw h1
   omega
  have hb:z.ok=false:=by rw[z.ok_eq,po h1,f8,f9]
  rw[hb]
  conv=>whnf
  refine⟨[2,3],_,[vb [],k6 [] .free],rfl,rfl,?_,?_,[],[],.ff,rfl,DenTo.ff,rfl⟩
  ·exact rfl
  ·conv=>whnf
   repeat'(first|exact ⟨⟩|exact rfl|exact qa _|exact .inr rfl|exact fun _ _=>rfl|exact noI|apply And.intro)
 have h1:z.rrs.length<=256:=by
  have h:¬ (z.rrs.length:Int) > 256:=px h1
  omega
 have hok:z.ok=(xj z.apex z.rrs && wl z):=by rw[z.ok_eq,pn hn,pn h1];rfl
 conv=>whnf
 refine .inv Nat (fun i=>i<=z.rrs.length/\xj z.apex (z.rrs.take i)=true) (fun i=>[(28,iV i)]) (fun i=>[(2,vb (jr (z.rrs.take i))),(3,k6 (qb (z.rrs.take i)) .free)]) (fun i=>z.rrs.length - i) ⟨0,[0,1,2,3,4],⟨p6 _,rfl⟩,?_⟩ ?_
 ·conv=>whnf
  repeat'(first|exact ⟨⟩|exact rfl|exact qa _|exact .inr rfl|exact fun _ _=>rfl|exact noI|apply And.intro)
 intro i hi
 obtain⟨hi,hti⟩:=hi
 conv=>whnf
 refine⟨fun h2=>?_,fun h2=>?_⟩
 ·have h2:i<z.rrs.length:=by
   have h:(i:Int)<z.rrs.length:=pw h2
   omega
  have hw1:=w64s i (by omega)
  obtain⟨r,hr⟩:∃ r,z.rrs.getD i default=r:=⟨_,rfl⟩
  have hrl:z.rrs[i]? = some r:=by rw[<-hr,List.getD,pp h2];rfl
  have hnx:=took_next z hrl
  have htk:z.rrs.take (i+1)=z.rrs.take i++[r]:=by rw[m5,hrl];rfl
  conv=>whnf
  refine⟨by omega,?_⟩
  conv=>whnf
  rw[pz,hr]
  refine .rel _ (COk.frameX (take_ok z (z.rrs.take i) (by rw[lu];omega) r (hz r (oy hrl)).1) [4,2,3] rfl rfl (by rw[qh2];rfl)) (fun x ks' hR=>?_)
  obtain⟨s0,k0,⟨rfl,rfl⟩,rfl,rfl⟩:=hR
  cases hto:xq z (z.rrs.take i) r with
  |false =>
   have hb:z.ok=false:=by
    rw[hok,taken_bad (i:=i+1) (by rw[hnx,hto,f9])]
    rfl
   rw[hb,if_neg (by decide),qh2]
   conv=>whnf
   refine brT rfl ?_
   conv=>whnf
   refine⟨[2,3],_,[vb (jr (z.rrs.take i)),k6 (qb (z.rrs.take i)) .free],rfl,rfl,?_,?_,_,_,.ff,rfl,DenTo.ff,rfl⟩
   ·exact rfl
   ·conv=>whnf
    repeat'(first|exact ⟨⟩|exact rfl|exact qa _|exact .inr rfl|exact fun _ _=>rfl|exact noI|apply And.intro)
    all_goals first
     |exact qq _
     |exact qp _
     |exact qr _ _ _
  |true =>
   rw[if_pos rfl,qh2]
   conv=>whnf
   refine brF rfl ?_
   conv=>whnf
   rw[hw1]
   refine⟨i+1,[0,1,2,3,4],⟨h2,by rw[hnx,hti,hto];rfl⟩,by omega,?_⟩
   rw[htk]
   conv=>whnf
   repeat'(first|exact ⟨⟩|exact rfl|exact qa _|exact .inr rfl|exact fun _ _=>rfl|exact noI|apply And.intro)
   all_goals first
    |exact qq _
    |exact qp _
    |exact qr _ _ _
 ·have h2:i=z.rrs.length:=by
   have h:¬ (i:Int)<z.rrs.length:=px h2
   omega
  subst h2
  rw [lx] at hti ⊢
  rw [hti,my] at hok
  have hnm:∀ r ∈ z.rrs,qc r.nm:=fun r hr=>by
   unfold xj at hti
   simp only [oq,lw] at hti
   have:=hti.1 r hr
   unfold zy at this
   simp only [oq] at this
   exact(qe4 this.2.2.2.2).1
  have hsd:COk Tryz.prog 110 [.ptr 4 0] [.cells 58 [.d (.str z.apex),.d (rrsD z.z z.rrs)],.cells 128 [.d (.str []),nilS,.v (.map none),.v (.map none)],vb (jr z.rrs),k6 (qb z.rrs) .free,.cells 128 [.d (.str z.apex),.d (rrsD z.z z.rrs),.map 2,.map 3]]
   (fun s k=>s = .d (.bool (wl z))/\k=[.cells 58 [.d (.str z.apex),.d (rrsD z.z z.rrs)],.cells 128 [.d (.str []),nilS,.v (.map none),.v (.map none)],vb (jr z.rrs),k6 (qb z.rrs) .free,.cells 128 [.d (.str z.apex),.d (rrsD z.z z.rrs),.map 2,.map 3]]) :=
   (COk.frameX (sound_ok z (jr z.rrs) (by omega) hnm (by have:=hn.2.1;omega)) [4,2,3] rfl rfl (by rw[qh2];rfl)).imp fun r k ⟨s0,k0,⟨h1,h2⟩,h3,h4⟩=>by
    subst h1 h2 h3 h4
    rw[qh2]
    exact⟨rfl,rfl⟩
  conv=>whnf
  apply Exists.intro
  apply Exists.intro
  refine⟨?_,?_⟩
  ·conv=>whnf
   repeat'(first|exact ⟨⟩|exact⟨rfl,rfl⟩|refine .mem _ _ hsd ?_|apply And.intro|(conv=>whnf))
  conv=>whnf
  refine⟨[2,3],_,[vb (jr z.rrs),k6 (qb z.rrs) .free],rfl,rfl,?_,?_,_,_,_,rfl,by rw[hok];exact DenTo.refl _,rfl⟩
  ·exact rfl
  ·conv=>whnf
   repeat'(first|exact ⟨⟩|exact rfl|exact qa _|exact .inr rfl|exact fun _ _=>rfl|exact noI|apply And.intro)
   all_goals first
    |exact qq _
    |exact qp _
    |exact qr _ _ _
theorem see_ok(z:Zo)(hz:∀ r ∈ z.rrs,r.nm.length<=100000/\r.d.length<=100000) :
 COk Tryz.prog 73 [z.V] [] (fun s k=>∃ S N,s = .tup [.agg [.d (.str z.apex),.d (rrsD z.z z.rrs),.map 0,.map 1],.d (.bool z.ok)]/\k=[vb S,k6 N .free]) :=
 COk.resD (see_raw z hz) fun s k ⟨S,N,b,h1,h2,h3⟩=>⟨_,h1 ▸ DenTo.tup ⟨DenTo.refl _,h2,trivial⟩,S,N,rfl,h3⟩
def rvF(l:List (List UInt8))(k j:Nat):List DV:=[.str (if j<k\/l.length<=j+k then (l[l.length - 1 - j]?).getD [] else (l[j]?).getD [])]
theorem rvF_zero(l:List (List UInt8))(j:Nat)(h:j<l.length):rvF l 0 j=strs l j:=by
 unfold rvF strs
 rw[if_neg (by omega)]
theorem rvF_end(l:List (List UInt8))(k j:Nat)(h:j<l.length)(hk:l.length<=2 * k+1):rvF l k j=strs l.reverse j:=by
 unfold rvF strs
 rw[List.getElem?_reverse h]
 split
 ·rfl
 ·rw[show l.length - 1 - j=j by omega]
theorem rev_ok(z:Z)(l:List (List UInt8))(hn:l.length<=1000000):COk Tryz.prog 194 [.all 0] [.row 9 1 l.length z (strs l)] (fun r k=>r = .tup []/\k=[.row 9 1 l.length z (strs l.reverse)]):=by
 refine yg (TT:=TT) (IN:=qi []) qk qm mixed 1000 Tryz.func194 rfl (qe Tryz.func194 (by kernel_rfl) rfl) 27 (by kernel_rfl) ?_
 conv=>whnf
 have e0:IntKind.i64.wrap ((l.length:Int) - 1)=(l.length:Int) - 1 - (0:Nat):=by rw[qd _ (by omega)];omega
 rw[e0]
 refine .inv Nat (fun k=>2 * k<=l.length) (fun k=>[(2,.d (.int .i64 k)),(3,.d (.int .i64 ((l.length:Int) - 1 - k)))]) (fun k=>[(0,.row 9 1 l.length z (rvF l k))]) (fun k=>l.length - k) ⟨0,[0],by omega,?_⟩ ?_
 ·conv=>whnf
  repeat'(first|exact ⟨⟩|exact rfl|exact qa _|exact .inr rfl|exact fun _ _=>rfl|exact noI|apply And.intro)
  exact fun j hj=>(rvF_zero l j hj).symm
 intro k hk
 conv=>whnf
 refine⟨fun h1=>?_,fun h1=>?_⟩
 ·have h1:(k:Int)<(l.length:Int) - 1 - k:=pw h1
  have e1:((l.length:Int) - 1 - k).toNat=l.length - 1 - k:=by omega
  conv=>whnf
  refine⟨?_,?_,?_,?_⟩
  rotate_left 2
  ·conv=>whnf
   repeat'(first|exact⟨rfl,rfl⟩|(refine⟨⟨by omega,by omega⟩,?_⟩;conv=>whnf)|exact ⟨⟩|apply And.intro|(conv=>whnf))
  ·conv=>whnf
   refine⟨k+1,[0],by omega,by show l.length - (k+1)<l.length - k;omega,?_⟩
   have e3:=w64s k (by omega)
   have e4:IntKind.i64.wrap ((l.length:Int) - 1 - k - 1)=(l.length:Int) - 1 - (k+1:Nat):=by rw[qd _ (by omega)];omega
   rw[e3,e4]
   conv=>whnf
   repeat'(first|exact ⟨⟩|exact rfl|exact qa _|exact .inr rfl|exact fun _ _=>rfl|exact noI|apply And.intro)
   intro j hj
   rw[e1,pz,if_neg (by omega),if_neg (by omega)]
   unfold oneF
   by_cases h2:j=l.length - 1 - k
   ·rw[if_pos h2,if_neg (by omega)]
    show[DV.str (l[k]?.getD [])]=_
    unfold rvF
    rw[if_pos (by omega),show l.length - 1 - j=k by omega]
   ·rw[if_neg h2]
    by_cases h3:j=k
    ·rw[if_pos h3]
     show[DV.str (l[l.length - 1 - k]?.getD [])]=_
     unfold rvF
     rw[if_pos (by omega),h3]
    ·rw[if_neg h3]
     unfold rvF
     by_cases h4:j<k\/l.length<=j+k
     ·rw[if_pos h4,if_pos (by omega)]
     ·rw[if_neg h4,if_neg (by omega)]
 ·have h1:¬ (k:Int)<(l.length:Int) - 1 - k:=px h1
  conv=>whnf
  refine⟨[0],_,_,rfl,rfl,?_,?_,rfl,rfl⟩
  ·exact rfl
  ·conv=>whnf
   repeat'(first|exact ⟨⟩|exact rfl|exact qa _|exact .inr rfl|exact fun _ _=>rfl|exact noI|apply And.intro)
   exact fun j hj=>(rvF_end l k j hj (by omega))
def qt(n:List UInt8):List (List UInt8):=(fl n).reverse
theorem jq6{ls:List (List UInt8)}{i:Nat}{l:List UInt8}(h:ls[i]? = some l)(j:Nat)(hj:j<i+1):catF i (strs (ls.take i)) (qy [DV.str l] 1) j=strs (ls.take i++[l]) j:=by
 have hi:=(pq.1 h).1
 have:=vi (ls.take i) l (qy [DV.str l] 1) rfl j (by rw[lu];omega)
 rwa [lu,rv (by omega)] at this
theorem rising_ok(n0:List UInt8)(hn0:qc n0):FnOk Tryz.prog 171 [.d (.str n0)] (.d (.sl (qt n0).isEmpty (qt n0).length 1 (strs (qt n0)))):=by
 refine qz (TT:=TT) (IN:=qi [(193,Tryz.f193,1),(208,Tryz.f208,2),(70,Tryz.f70,1),(106,Tryz.f106,2),(107,Tryz.f107,1),(139,Tryz.f139,2)]) qk (ju (ju (ju (ju (ju (ju qm Tryz.func139 (by kernel_rfl) (by kernel_rfl)) Tryz.func107 (by kernel_rfl) (by kernel_rfl)) Tryz.func106 (by kernel_rfl) (by kernel_rfl)) Tryz.func70 (by kernel_rfl) (by kernel_rfl)) Tryz.func208 (by kernel_rfl) (by kernel_rfl)) Tryz.func193 (by kernel_rfl) (by kernel_rfl)) mixed 1000 Tryz.func171 rfl (qe Tryz.func171 (by kernel_rfl) rfl) rfl 10 (by kernel_rfl) ?_
 conv=>whnf
 refine oD (x5 n0 (by have:=hn0.2.1;omega)) rfl rfl ?_
 have hn:qc (fold n0):=qq4 hn0
 conv=>whnf
 refine oD (y7 (fold n0)) rfl rfl ?_
 rw[if_pos hn]
 conv=>whnf
 refine brF rfl ?_
 have hlf:=qs5 hn0
 generalize hnn:fold n0=n at hn hlf ⊢
 conv=>whnf
 have hflok:=fl_ok hn0
 obtain⟨hn1,hn2,hn3⟩:=xg hn
 have hend:∀ i,qh (labN n) i<n.length:=fun i=>by have:=pos_lt (labN n) i;rw [<-hn3] at this;exact this
 have hbt:∀ i l,(labN n)[i]? = some l->bt n (qh (labN n) i)=l.length:=fun i l h=>by
  have:=bt_pos hn2 h
  rw [<-hn3] at this;exact this
 have hbe:bt n (qh (labN n) (labN n).length)=0:=by
  have:=bt_end (labN n)
  rw [<-hn3] at this;exact this
 have hll:=pos_end (labN n)
 rw [<-hn3] at hll
 have hlab:∀ i l,(labN n)[i]? = some l->(n.drop (qh (labN n) i+1)).take l.length=l:=fun i l h=>by
  have:=label_at h
  rw [<-hn3] at this;exact this
 generalize hls:labN n=ls at hn2 hn3 hend hbt hbe hll hlf hlab
 have hcnt:∀ i,i<=ls.length->i<=qh ls i:=fun i=>by
  induction i with
  |zero=>intro _;exact p6 _
  |succ i ih =>
   intro h
   have:=ih (by omega)
   have:=jb9 (ls:=ls) (i:=i) (j:=i+1) (by omega) h
   omega
 have hlc:=hcnt ls.length (pr _)
 refine .nilC 1 0 9 1 (strs []) _ _ _ _ rfl rfl ?_
 conv=>whnf
 refine .inv Nat (fun i=>i<=ls.length) (fun i=>[(3,iV (qh ls i))]) (fun i=>[(4,.cells 3 [iV (qh ls i)]),(7,.row 9 1 i .iff (strs (ls.take i)))]) (fun i=>ls.length - i) ⟨0,[0,1,2,3,4,5,6,7],p6 _,?_⟩ ?_
 ·conv=>whnf
  repeat'(first|exact ⟨⟩|exact rfl|exact qa _|exact .inr rfl|exact fun _ _=>rfl|exact noI|apply And.intro)
 intro i hi
 have hp:=hend i
 conv=>whnf
 refine brT (pn (by omega)) ?_
 conv=>whnf
 refine⟨by omega,?_⟩
 conv=>whnf
 rw[yn,qd (bt n (qh ls i):Int) (by have:=qb4 n (qh ls i);omega)]
 rcases ot i ls.length with hlt|hge
 ·have hli:ls[i]? = some ls[i]:=pp hlt
  have hb:=hbt i _ hli
  have hok:=hn2 _ (gv hlt)
  have hps:=qm1 hli
  have hp2:=hend (i+1)
  rw[hb]
  generalize ls[i]=l at hli hb hok hps
  obtain⟨ho1,ho2⟩:=hok
  refine brF (by rw[o9];omega) ?_
  conv=>whnf
  refine brF (po (by omega)) ?_
  conv=>whnf
  have e1:IntKind.i64.wrap ((n.length:Int) - (qh ls i:Int))=((n.length - qh ls i:Nat):Int):=by rw[qd _ (by omega)];omega
  rw[e1]
  refine brF (po (by omega)) ?_
  conv=>whnf
  have e2:IntKind.i64.wrap ((qh ls i:Int)+IntKind.i64.wrap (1+(l.length:Int)))=((qh ls (i+1):Nat):Int):=by rw[qd (1+(l.length:Int)) (by omega),qd _ (by omega)];omega
  rw[e2]
  have e3:IntKind.i64.wrap ((qh ls i:Int)+1)=((qh ls i+1:Nat):Int):=by rw[qd _ (by omega)];omega
  rw[e3]
  refine⟨by omega,?_⟩
  conv=>whnf
  have hsub:sub n ((qh ls i+1:Nat):Int) ((qh ls (i+1):Nat):Int)=l:=by
   unfold sub
   rw[pz,pz]
   rw[show qh ls (i+1) - (qh ls i+1)=l.length by omega]
   exact hlab i l hli
  rw[hsub]
  refine⟨by omega,?_⟩
  conv=>whnf
  refine⟨i+1,[0,1,2,3,4,5,6,9],hlt,by omega,?_⟩
  conv=>whnf
  repeat'(first|exact ⟨⟩|exact rfl|exact qa _|exact .inr rfl|exact fun _ _=>rfl|exact noI|apply And.intro)
  exact fun j hj=>by rw[m5,hli];exact jq6 hli j hj
 ·have hil:i=ls.length:=by omega
  subst hil
  rw[hbe]
  conv=>whnf
  refine brT rfl ?_
  conv=>whnf
  refine .rel _ (COk.frameX (rev_ok .iff ls (by omega)) [7] rfl rfl (by rw[lx];rfl)) (fun y ks' hR=>?_)
  obtain⟨_,_,⟨rfl,rfl⟩,rfl,rfl⟩:=hR
  conv=>whnf
  have hr:qt n0=ls.reverse:=by unfold qt;rw[hlf]
  rw[hr]
  refine⟨?_,List.length_reverse.symm,.inr rfl,fun _ _=>rfl⟩
  rw[l5,Nat.beq_eq,List.isEmpty_iff,List.reverse_eq_nil_iff,sw]
def cmpS(a b:List UInt8):Int:=if Op.bytesLess a b then -1 else if a=b then 0 else 1
def yc:List (List UInt8)->List (List UInt8)->Int
 |[],[]=>0
 |[],_ :: _=>-1
 |_ :: _,[]=>1
 |a :: l,b :: m=>if cmpS a b≠0 then cmpS a b else yc l m
theorem cmps_ok(a b:List UInt8):FnOk Tryz.prog 196 [.d (.str a),.d (.str b)] (.d (.int .i64 (cmpS a b))):=by
 refine qz (TT:=TT) (IN:=qi [(211,Tryz.f211,1)]) qk (ju qm Tryz.func211 (by kernel_rfl) (by kernel_rfl)) mixed 1000 Tryz.func196 rfl (qe Tryz.func196 (by kernel_rfl) rfl) rfl 18 (by kernel_rfl) ?_
 conv=>whnf
 refine brF (by simp) ?_
 conv=>whnf
 refine brF (by simp) ?_
 conv=>whnf
 unfold cmpS
 refine⟨fun h=>?_,fun h=>?_⟩
 ·rw[if_pos h]
  conv=>whnf
  try exact rfl
 rw[if_neg (by rw[h];decide)]
 conv=>whnf
 rw[h,ay]
 by_cases e:a=b
 ·rw[if_pos e]
  refine brF (by simp[e]) ?_
  conv=>whnf
  try exact rfl
 ·rw[if_neg e]
  refine brT (by simp[e]) ?_
  conv=>whnf
  try exact rfl
theorem cmpll_ok(y z:Bool)(l m:List (List UInt8))(hl:l.length<=1000000)(hm:m.length<=1000000):FnOk Tryz.prog 174 [.d (.sl y l.length 1 (strs l)),.d (.sl z m.length 1 (strs m))] (.d (.int .i64 (yc l m))):=by
 refine qz (TT:=TT) (IN:=qi []) qk qm mixed 1000 Tryz.func174 rfl (qe Tryz.func174 (by kernel_rfl) rfl) rfl 34 (by kernel_rfl) ?_
 conv=>whnf
 refine .inv Nat (fun i=>i<=l.length/\i<=m.length/\yc (l.drop i) (m.drop i)=yc l m) (fun i=>[(11,iV i)]) (fun _=>[]) (fun i=>l.length - i) ⟨0,[],⟨p6 _,p6 _,rfl⟩,?_⟩ ?_
 ·conv=>whnf
  repeat'(first|exact ⟨⟩|exact rfl|exact fun _=>Iff.rfl|exact fun _ _=>rfl|exact renM_ent rfl _|apply And.intro)
 intro i hi
 obtain⟨hi1,hi2,hi3⟩:=hi
 have hw1:=w64s i (by omega)
 conv=>whnf
 generalize yc l m=Y at hi3 ⊢
 refine⟨fun c0=>?_,fun c0=>?_⟩
 ·have c0':i<l.length:=(by have h:(i:Int)<l.length:=pw c0;omega)
  rw [l9 c0'] at hi3
  conv=>whnf
  refine⟨by omega,?_⟩
  conv=>whnf
  by_cases hlt:i<m.length
  case neg =>
   rw [show m.drop i=[] from bx (by omega)] at hi3
   simp only [yc] at hi3
   rw[<-hi3]
   refine brT (pn (by omega)) ?_
   conv=>whnf
   repeat'(first|exact ⟨⟩|exact rfl|exact fun _=>Iff.rfl|exact fun _ _=>rfl|exact renM_ent rfl _|apply And.intro)
  rw [l9 hlt] at hi3
  refine brF (po (by omega)) ?_
  conv=>whnf
  refine⟨by omega,?_⟩
  conv=>whnf
  rw[pz,show l[i]?.getD []=l[i] by rw[pp c0'];rfl,show m[i]?.getD []=m[i] by rw[pp hlt];rfl]
  refine oD (cmps_ok _ _) rfl rfl ?_
  conv=>whnf
  simp only [yc] at hi3
  by_cases hc:cmpS l[i] m[i]=0
  ·rw [if_neg (by simpa using hc)] at hi3
   refine brF (by rw[bne_eq_false_iff_eq];exact hc) ?_
   conv=>whnf
   rw[hw1]
   refine⟨i+1,[],⟨c0',hlt,hi3⟩,by omega,?_⟩
   conv=>whnf
   repeat'(first|exact ⟨⟩|exact rfl|exact fun _=>Iff.rfl|exact fun _ _=>rfl|exact renM_ent rfl _|apply And.intro)
  ·rw [if_pos hc] at hi3
   rw[<-hi3]
   refine brT (by rw[bne_iff_ne];exact hc) ?_
   conv=>whnf
   repeat'(first|exact ⟨⟩|exact rfl|exact fun _=>Iff.rfl|exact fun _ _=>rfl|exact renM_ent rfl _|apply And.intro)
 ·have c0':i=l.length:=(by have h:¬ (i:Int)<l.length:=px c0;omega)
  rw [show l.drop i=[] from bx (by omega)] at hi3
  conv=>whnf
  by_cases hlt:i<m.length
  ·rw [l9 hlt] at hi3
   simp only [yc] at hi3
   rw[<-hi3]
   refine brT (pn (by omega)) ?_
   conv=>whnf
   repeat'(first|exact ⟨⟩|exact rfl|exact fun _=>Iff.rfl|exact fun _ _=>rfl|exact renM_ent rfl _|apply And.intro)
  ·rw [bx (by omega)] at hi3
   simp only [yc] at hi3
   rw[<-hi3]
   refine brF (po (by omega)) ?_
   conv=>whnf
   repeat'(first|exact ⟨⟩|exact rfl|exact fun _=>Iff.rfl|exact fun _ _=>rfl|exact renM_ent rfl _|apply And.intro)
theorem rise_len{n:List UInt8}(h:qc n):(qt n).length<=255:=by
 obtain⟨h1,h2,h3⟩:=xg h
 unfold qt
 rw[List.length_reverse,fl,mr]
 have:=qx9 (labN n)
 have e:(labs (labN n)).length+1=(mk (labN n)).length:=by rw[<-qp2,pv];rfl
 rw [<-h3] at e
 omega
end Go.Proofs.YtoefgnnkajhmiaaGreatDoor
