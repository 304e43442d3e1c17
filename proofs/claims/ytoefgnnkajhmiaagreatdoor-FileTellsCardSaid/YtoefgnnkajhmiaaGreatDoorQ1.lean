/-
  Part of the proof: lemmas about the functions that the row calls, and about the steps of a run. Conditions: those ahead of each lemma.
-/
import Derived.Test.YtoefgnnkajhmiaaGreatDoorRows
import Derived.KernelRfl
import Derived.Shelf.Strings.OnBuilder
import Derived.Shelf.Small.Strs
import Derived.Shelf.Strings.Builder1
import Derived.Shelf.Strconv.Itoa1
import Derived.Shelf.Strconv.Itoa2
import Derived.Shelf.LaysM
import Derived.Shelf.Pu.ParseUintPublic10
import Derived.Shelf.Strings.Search3
import Derived.Shelf.Strings.Count
import Derived.Test.YtoefgnnkajhmiaaGreatDoorProg
import Derived.Test.YtoefgnnkajhmiaaGreatDoorP4
set_option linter.unusedVariables false
set_option linter.unusedSimpArgs false
set_option maxRecDepth 100000
set_option maxHeartbeats 64000000
namespace Go.Proofs.YtoefgnnkajhmiaaGreatDoor
open Go Go.Eng
def types:List (Nat × TI):=[
 (2,⟨1,8,false,[.d (.int .i64 0)],.int .i64,[]⟩),
 (3,⟨1,8,false,[.d (.int .i64 0)],.int .i64,[]⟩),
 (4,⟨1,1,false,[.d .ff],.bool,[]⟩),
 (5,⟨1,1,false,[.d (.int .u8 0)],.int .u8,[]⟩),
 (6,⟨1,1,false,[.d (.int .u8 0)],.int .u8,[]⟩),
 (7,⟨4,24,true,[.d (.int .i64 0),.d (.int .i64 0),.d .ff,.d (.int .u8 0)],.struct [(0,2),(1,3),(2,4),(3,6)],[.int .i64,.int .i64,.bool,.int .u8]⟩),
 (9,⟨1,16,false,[.d (.str [])],.str,[]⟩),
 (17,⟨1,8,false,[.v (.pointer none)],.ptr 267,[]⟩),
 (18,⟨1,8,true,[.v (.pointer none)],.struct [(0,17)],[]⟩),
 (19,⟨1,8,true,[.v (.pointer none)],.struct [(0,17)],[]⟩),
 (21,⟨1,4,false,[.d (.int .i32 0)],.int .i32,[]⟩),
 (22,⟨1,24,false,[nilS],.slice 58,[]⟩),
 (23,⟨1,24,false,[nilS],.slice 32,[]⟩),
 (24,⟨2,48,true,[nilS,nilS],.struct [(0,22),(1,23)],[]⟩),
 (25,⟨2,48,true,[nilS,nilS],.struct [(0,22),(1,23)],[]⟩),
 (26,⟨1,8,false,[.v .nilFunc],.other,[]⟩),
 (28,⟨1,24,false,[nilS],.slice 25,[]⟩),
 (29,⟨1,4,false,[.d (.int .u32 0)],.int .u32,[]⟩),
 (30,⟨1,24,false,[nilS],.slice 3,[]⟩),
 (31,⟨2,32,true,[.d (.int .u32 0),nilS],.struct [(0,29),(1,30)],[]⟩),
 (32,⟨2,32,true,[.d (.int .u32 0),nilS],.struct [(0,29),(1,30)],[]⟩),
 (33,⟨1,8,false,[.d (.int .i64 0)],.int .i64,[]⟩),
 (35,⟨1,8,false,[.v .nilFunc],.other,[]⟩),
 (37,⟨1,8,false,[.v .nilFunc],.other,[]⟩),
 (38,⟨1,8,false,[.v .nilFunc],.other,[]⟩),
 (39,⟨1,8,false,[.v .nilFunc],.other,[]⟩),
 (40,⟨1,8,false,[.v .nilFunc],.other,[]⟩),
 (41,⟨1,8,false,[.v .nilFunc],.other,[]⟩),
 (42,⟨1,2,false,[.d (.int .u16 0)],.int .u16,[]⟩),
 (43,⟨1,2,false,[.d (.int .u16 0)],.int .u16,[]⟩),
 (44,⟨3,24,true,[.d (.str []),.d (.int .u16 0),.d (.int .u16 0)],.struct [(0,9),(1,43),(2,42)],[.str,.int .u16,.int .u16]⟩),
 (45,⟨3,24,true,[.d (.str []),.d (.int .u16 0),.d (.int .u16 0)],.struct [(0,9),(1,43),(2,42)],[.str,.int .u16,.int .u16]⟩),
 (46,⟨1,24,false,[nilS],.slice 49,[]⟩),
 (47,⟨1,24,false,[nilS],.slice 9,[]⟩),
 (48,⟨4,48,true,[.d (.str []),.d (.int .u16 0),.d (.int .u32 0),nilS],.struct [(0,9),(1,43),(2,29),(3,47)],[]⟩),
 (49,⟨4,48,true,[.d (.str []),.d (.int .u16 0),.d (.int .u32 0),nilS],.struct [(0,9),(1,43),(2,29),(3,47)],[]⟩),
 (50,⟨6,80,true,[.d (.int .i64 0),nilS,.d (.str []),.d (.int .u16 0),.d (.int .u32 0),nilS],.struct [(0,3),(1,46),(2,49)],[]⟩),
 (51,⟨6,80,true,[.d (.int .i64 0),nilS,.d (.str []),.d (.int .u16 0),.d (.int .u32 0),nilS],.struct [(0,3),(1,46),(2,49)],[]⟩),
 (53,⟨1,8,false,[.v .nilFunc],.other,[]⟩),
 (54,⟨1,8,false,[.v .nilFunc],.other,[]⟩),
 (55,⟨1,8,false,[.v .nilFunc],.other,[]⟩),
 (56,⟨1,24,false,[nilS],.slice 62,[]⟩),
 (57,⟨2,40,true,[.d (.str []),nilS],.struct [(0,9),(1,56)],[]⟩),
 (58,⟨2,40,true,[.d (.str []),nilS],.struct [(0,9),(1,56)],[]⟩),
 (59,⟨1,8,false,[.v .nilFunc],.other,[]⟩),
 (60,⟨1,24,false,[nilS],.slice 5,[]⟩),
 (61,⟨5,40,true,[.d (.str []),.d (.int .u16 0),.d (.int .u16 0),.d (.int .u32 0),.d (.str [])],.struct [(0,9),(1,43),(2,42),(3,29),(4,9)],[.str,.int .u16,.int .u16,.int .u32,.str]⟩),
 (62,⟨5,40,true,[.d (.str []),.d (.int .u16 0),.d (.int .u16 0),.d (.int .u32 0),.d (.str [])],.struct [(0,9),(1,43),(2,42),(3,29),(4,9)],[.str,.int .u16,.int .u16,.int .u32,.str]⟩),
 (63,⟨1,8,false,[.v (.pointer none)],.ptr 65,[]⟩),
 (64,⟨2,32,true,[.v (.pointer none),nilS],.struct [(0,63),(1,60)],[]⟩),
 (65,⟨2,32,true,[.v (.pointer none),nilS],.struct [(0,63),(1,60)],[]⟩),
 (67,⟨1,8,false,[.v .nilFunc],.other,[]⟩),
 (70,⟨1,16,false,[.v .nilIface],.iface,[]⟩),
 (75,⟨1,8,false,[.v .nilFunc],.other,[]⟩),
 (76,⟨1,8,false,[.v .nilFunc],.other,[]⟩),
 (77,⟨1,8,false,[.v .nilFunc],.other,[]⟩),
 (78,⟨2,48,true,[nilS,nilS],.struct [(0,25)],[]⟩),
 (79,⟨2,48,true,[nilS,nilS],.struct [(0,25)],[]⟩),
 (81,⟨1,8,false,[.v .nilFunc],.other,[]⟩),
 (82,⟨1,8,false,[.v .nilFunc],.other,[]⟩),
 (84,⟨1,8,false,[.v .nilFunc],.other,[]⟩),
 (86,⟨1,8,false,[.v .nilFunc],.other,[]⟩),
 (89,⟨1,8,false,[.v .nilFunc],.other,[]⟩),
 (92,⟨1,8,false,[.v .nilFunc],.other,[]⟩),
 (93,⟨1,8,false,[.v (.map none)],.map 9 3,[]⟩),
 (99,⟨1,8,false,[.v .nilFunc],.other,[]⟩),
 (100,⟨1,8,false,[.v .nilFunc],.other,[]⟩),
 (102,⟨1,8,false,[.v .nilFunc],.other,[]⟩),
 (103,⟨1,8,false,[.v .nilFunc],.other,[]⟩),
 (104,⟨1,8,false,[.v .nilFunc],.other,[]⟩),
 (105,⟨1,8,false,[.v (.pointer none)],.ptr 5,[]⟩),
 (106,⟨1,8,false,[.v .nilFunc],.other,[]⟩),
 (107,⟨1,8,false,[.v .nilFunc],.other,[]⟩),
 (108,⟨1,8,false,[.v .nilFunc],.other,[]⟩),
 (111,⟨1,8,false,[.v .nilFunc],.other,[]⟩),
 (112,⟨1,8,false,[.v .nilFunc],.other,[]⟩),
 (113,⟨1,8,false,[.v (.pointer none)],.ptr 79,[]⟩),
 (115,⟨1,8,false,[.v .nilFunc],.other,[]⟩),
 (119,⟨1,8,false,[.v .nilFunc],.other,[]⟩),
 (121,⟨1,8,false,[.v .nilFunc],.other,[]⟩),
 (123,⟨1,8,false,[.v .nilFunc],.other,[]⟩),
 (124,⟨1,8,false,[.v .nilFunc],.other,[]⟩),
 (125,⟨1,8,false,[.v (.map none)],.map 191 3,[]⟩),
 (126,⟨1,8,false,[.v (.map none)],.map 9 193,[]⟩),
 (127,⟨4,56,true,[.d (.str []),nilS,.v (.map none),.v (.map none)],.struct [(0,58),(2,125),(3,126)],[]⟩),
 (128,⟨4,56,true,[.d (.str []),nilS,.v (.map none),.v (.map none)],.struct [(0,58),(2,125),(3,126)],[]⟩),
 (130,⟨1,8,false,[.v .nilFunc],.other,[]⟩),
 (132,⟨1,8,false,[.v .nilFunc],.other,[]⟩),
 (134,⟨1,8,false,[.v .nilFunc],.other,[]⟩),
 (136,⟨1,8,false,[.v .nilFunc],.other,[]⟩),
 (137,⟨1,8,false,[.d (.int .u64 0)],.int .u64,[]⟩),
 (141,⟨1,8,false,[.v (.pointer none)],.other,[]⟩),
 (145,⟨1,8,false,[.v .nilFunc],.other,[]⟩),
 (146,⟨1,8,false,[.v .nilFunc],.other,[]⟩),
 (149,⟨1,8,false,[.v (.pointer none)],.ptr 58,[]⟩),
 (150,⟨1,8,false,[.v .nilFunc],.other,[]⟩),
 (151,⟨1,8,false,[.v (.map none)],.map 152 3,[]⟩),
 (152,⟨2,16,true,[.d (.int .i64 0),.d (.int .i64 0)],.array 2 3,[.int .i64,.int .i64]⟩),
 (154,⟨1,8,false,[.v (.map none)],.map 29 3,[]⟩),
 (155,⟨1,8,false,[.v .nilFunc],.other,[]⟩),
 (158,⟨1,8,false,[.v .nilFunc],.other,[]⟩),
 (161,⟨1,8,false,[.v .nilFunc],.other,[]⟩),
 (164,⟨1,8,false,[.v .nilFunc],.other,[]⟩),
 (167,⟨3,24,true,[.d (.int .i64 0),.d (.int .i64 0),.d (.int .i64 0)],.struct [(0,3),(1,3),(2,3)],[.int .i64,.int .i64,.int .i64]⟩),
 (168,⟨3,24,true,[.d (.int .i64 0),.d (.int .i64 0),.d (.int .i64 0)],.struct [(0,3),(1,3),(2,3)],[.int .i64,.int .i64,.int .i64]⟩),
 (169,⟨3,56,true,[.d (.str []),nilS,.d (.str [])],.struct [(0,9),(1,47),(2,9)],[]⟩),
 (170,⟨3,56,true,[.d (.str []),nilS,.d (.str [])],.struct [(0,9),(1,47),(2,9)],[]⟩),
 (172,⟨1,8,false,[.v .nilFunc],.other,[]⟩),
 (173,⟨1,8,false,[.d (.int .u64 0)],.int .u64,[]⟩),
 (174,⟨1,8,false,[.v .nilFunc],.other,[]⟩),
 (176,⟨1,8,false,[.v .nilFunc],.other,[]⟩),
 (178,⟨1,8,false,[.v .nilFunc],.other,[]⟩),
 (181,⟨1,8,false,[.v .nilFunc],.other,[]⟩),
 (182,⟨1,8,false,[.v .nilFunc],.other,[]⟩),
 (187,⟨1,8,false,[.v .nilFunc],.other,[]⟩),
 (189,⟨1,8,false,[.v (.pointer none)],.ptr 128,[]⟩),
 (190,⟨4,40,true,[.d (.str []),.d (.int .u16 0),.d (.int .u16 0),.d (.str [])],.struct [(0,9),(1,43),(2,42),(3,9)],[.str,.int .u16,.int .u16,.str]⟩),
 (191,⟨4,40,true,[.d (.str []),.d (.int .u16 0),.d (.int .u16 0),.d (.str [])],.struct [(0,9),(1,43),(2,42),(3,9)],[.str,.int .u16,.int .u16,.str]⟩),
 (192,⟨5,40,true,[.d (.int .i64 0),.d (.int .i64 0),.d (.int .i64 0),.d (.int .i64 0),.d (.int .i64 0)],.struct [(0,3),(1,3),(2,3),(3,3),(4,3)],[.int .i64,.int .i64,.int .i64,.int .i64,.int .i64]⟩),
 (193,⟨5,40,true,[.d (.int .i64 0),.d (.int .i64 0),.d (.int .i64 0),.d (.int .i64 0),.d (.int .i64 0)],.struct [(0,3),(1,3),(2,3),(3,3),(4,3)],[.int .i64,.int .i64,.int .i64,.int .i64,.int .i64]⟩),
 (194,⟨1,8,false,[.v .nilFunc],.other,[]⟩),
 (196,⟨1,8,false,[.v .nilFunc],.other,[]⟩),
 (199,⟨1,8,false,[.v .nilFunc],.other,[]⟩),
 (201,⟨1,8,false,[.v .nilFunc],.other,[]⟩),
 (203,⟨1,8,false,[.v .nilFunc],.other,[]⟩),
 (204,⟨24,24,true,[.d (.int .u8 0),.d (.int .u8 0),.d (.int .u8 0),.d (.int .u8 0),.d (.int .u8 0),.d (.int .u8 0),.d (.int .u8 0),.d (.int .u8 0),.d (.int .u8 0),.d (.int .u8 0),.d (.int .u8 0),.d (.int .u8 0),.d (.int .u8 0),.d (.int .u8 0),.d (.int .u8 0),.d (.int .u8 0),.d (.int .u8 0),.d (.int .u8 0),.d (.int .u8 0),.d (.int .u8 0),.d (.int .u8 0),.d (.int .u8 0),.d (.int .u8 0),.d (.int .u8 0)],.array 24 5,[.int .u8,.int .u8,.int .u8,.int .u8,.int .u8,.int .u8,.int .u8,.int .u8,.int .u8,.int .u8,.int .u8,.int .u8,.int .u8,.int .u8,.int .u8,.int .u8,.int .u8,.int .u8,.int .u8,.int .u8,.int .u8,.int .u8,.int .u8,.int .u8]⟩),
 (205,⟨1,8,false,[.v .nilFunc],.other,[]⟩),
 (210,⟨1,8,false,[.v .nilFunc],.other,[]⟩),
 (211,⟨1,8,false,[.d (.int .i64 0)],.int .i64,[]⟩),
 (212,⟨1,8,false,[.v (.pointer none)],.ptr 231,[]⟩),
 (216,⟨1,24,false,[nilS],.slice 218,[]⟩),
 (217,⟨2,40,true,[.d (.str []),nilS],.struct [(0,9),(1,47)],[]⟩),
 (218,⟨2,40,true,[.d (.str []),nilS],.struct [(0,9),(1,47)],[]⟩),
 (221,⟨1,8,false,[.v .nilFunc],.other,[]⟩),
 (224,⟨1,8,false,[.v .nilFunc],.other,[]⟩),
 (225,⟨20,160,true,[.d (.int .u64 0),.d (.int .u64 0),.d (.int .u64 0),.d (.int .u64 0),.d (.int .u64 0),.d (.int .u64 0),.d (.int .u64 0),.d (.int .u64 0),.d (.int .u64 0),.d (.int .u64 0),.d (.int .u64 0),.d (.int .u64 0),.d (.int .u64 0),.d (.int .u64 0),.d (.int .u64 0),.d (.int .u64 0),.d (.int .u64 0),.d (.int .u64 0),.d (.int .u64 0),.d (.int .u64 0)],.array 20 137,[.int .u64,.int .u64,.int .u64,.int .u64,.int .u64,.int .u64,.int .u64,.int .u64,.int .u64,.int .u64,.int .u64,.int .u64,.int .u64,.int .u64,.int .u64,.int .u64,.int .u64,.int .u64,.int .u64,.int .u64]⟩),
 (227,⟨1,8,false,[.v .nilFunc],.other,[]⟩),
 (230,⟨3,48,true,[.d (.str []),.d (.str []),.v .nilIface],.struct [(0,9),(1,9),(2,70)],[]⟩),
 (231,⟨3,48,true,[.d (.str []),.d (.str []),.v .nilIface],.struct [(0,9),(1,9),(2,70)],[]⟩),
 (239,⟨1,8,false,[.v .nilFunc],.other,[]⟩),
 (240,⟨1,8,false,[.v (.pointer none)],.ptr 242,[]⟩),
 (241,⟨1,16,true,[.d (.str [])],.struct [(0,9)],[.str]⟩),
 (242,⟨1,16,true,[.d (.str [])],.struct [(0,9)],[.str]⟩),
 (244,⟨1,8,false,[.v .nilFunc],.other,[]⟩),
 (250,⟨1,8,false,[.v .nilFunc],.other,[]⟩),
 (252,⟨2,2,true,[.d (.int .u8 0),.d (.int .u8 0)],.struct [(0,5),(1,5)],[.int .u8,.int .u8]⟩),
 (253,⟨2,2,true,[.d (.int .u8 0),.d (.int .u8 0)],.struct [(0,5),(1,5)],[.int .u8,.int .u8]⟩),
 (255,⟨4,40,true,[.v (.pointer none),.v (.pointer none),.v (.pointer none),.d (.str [])],.struct [(0,17),(1,17),(2,17),(3,9)],[]⟩),
 (261,⟨1,1,false,[.d (.int .u8 0)],.int .u8,[]⟩),
 (262,⟨1,1,false,[.d (.int .u8 0)],.int .u8,[]⟩),
 (264,⟨1,4,false,[.d (.int .i32 0)],.int .i32,[]⟩),
 (265,⟨1,4,false,[.d (.int .i32 0)],.int .i32,[]⟩),
 (267,⟨11,48,true,[.d (.int .u64 0),.d (.int .u64 0),.d (.int .u32 0),.d (.int .u8 0),.d (.int .u8 0),.d (.int .u8 0),.d (.int .u8 0),.v .nilFunc,.v (.pointer none),.d (.int .i32 0),.d (.int .i32 0)],.struct [(0,12),(1,12),(2,29),(3,261),(4,5),(5,5),(6,262),(7,263),(8,105),(9,264),(10,265)],[]⟩)]
def TT(n:Nat):Option TI:=Eng.look types n
set_option maxRecDepth 100000 in
theorem qe:TTok Tryz.prog TT:=zk4 (P:=Tryz.prog) (l:=types) (by kernel_rfl)
theorem mixed:Tryz.prog.follows .mixedOrders=true:=by kernel_rfl
def bt(s:Ls)(k:Nat):Nat:=(s[k]?.getD 0).toNat
theorem jl(s:Ls)(k:Nat):qw s (k:Int)=(bt s k:Int):=by
 unfold qw bt;simp
theorem vm(s:Ls)(k:Nat):bt s k<256:=UInt8.toNat_lt _
def more(s:Ls)(k:Nat):Prop:=k<s.length/\¬ bt s k=0/\bt s k<=63/\bt s k<s.length - k
instance (s:Ls) (k:Nat):Decidable (more s k):=by unfold more;infer_instance
def ku(s:Ls):Nat->Nat->Nat
 |0,k=>k
 |m+1,k=>if more s k then ku s m (k+1+bt s k) else k
def qv9(s:Ls):Nat:=ku s s.length 0
def At(s:Ls)(k:Nat):Prop:=k<=s.length/\∃ m,s.length<=k+m/\ku s m k=qv9 s
theorem At.zero(s:Ls):At s 0:=⟨pv _,s.length,om,rfl⟩
theorem At.next{s:Ls}{k:Nat}(h:At s k)(hm:more s k):At s (k+1+bt s k):=by
 obtain⟨h1,m,h2,h3⟩:=h;have:=hm;obtain⟨a1,a2,a3,a4⟩:=this;cases m with
 |zero=>omega
 |succ m=>exact⟨om,m,om,by rw[<-h3];simp[ku,hm]⟩
theorem At.last{s:Ls}{k:Nat}(h:At s k)(hm:¬ more s k):k=qv9 s:=by
 obtain⟨h1,m,h2,h3⟩:=h;rw[<-h3];cases m <;> simp[ku,hm]
def qa(s:Ls):Prop:=0<s.length/\s.length<=255/\qv9 s=s.length - 1/\bt s (qv9 s)=0
instance (s:Ls):Decidable (qa s):=by unfold qa;infer_instance
theorem qc(n:Int)(h : -9223372036854775808<=n/\n<=9223372036854775807):IntKind.i64.wrap n=n:=by rw[IntKind.wrap_i64];omega
theorem w64s(i:Nat)(h:i<9223372036854775807):IntKind.i64.wrap ((i:Int)+1)=((i+1:Nat):Int):=by rw[qc _ om];omega
theorem rZ0{p:Prop}(h:p:=by repeat'(first|exact ⟨⟩|exact rfl|apply And.intro)):p:=h
theorem rY0{p:Prop}(h:p:=by (conv=>whnf);repeat'(first|exact ⟨⟩|exact rfl|apply And.intro)):p:=h
theorem zo(s:Ls):FnOk Tryz.prog 71 [.d (.str s)] (.d (.int .i64 (if qa s then 0 else 2))):=by
 refine qi (TT:=TT) (IN:=qd [(107,Tryz.f107,1),(139,Tryz.f139,2)]) qe ?_ mixed 1000 Tryz.func71 rfl (qb Tryz.func71 (by kernel_rfl) rfl) rfl 27 (by kernel_rfl) ?_
 ·exact jv (jv qg Tryz.func139 (by kernel_rfl) (by kernel_rfl)) Tryz.func107 (by kernel_rfl) (by kernel_rfl)
 conv=>whnf
 refine⟨λh1=>?_,λh1=>?_⟩
 ·have:¬ qa s:=λhn=>by have a:=hn.1;simp at h1;rw [h1] at a;simp at a
  exact congrArg (DV.int _) (by rw[if_neg this])
 have hpos:0<s.length:=by
  rcases dz s.length with e|e
  ·rw [e] at h1;cases h1
  ·exact e
 conv=>whnf
 refine⟨λh2=>?_,λh2=>?_⟩
 ·have:¬ qa s:=λhn=>by have a:=hn.2.1;simp at h2;omega
  exact congrArg (DV.int _) (by rw[if_neg this])
 have hlen:s.length<=255:=by simp at h2;omega
 conv=>whnf
 refine .inv Nat (λk=>At s k) (λk=>[(3,.d (.int .i64 k))]) (λk=>[(0,.cells 3 [.d (.int .i64 k)])]) (λk=>s.length - k) ⟨0,[0,1,2],At.zero s,?_⟩ ?_
 ·exact rY0
 intro k hk;have hkl:=hk.1;have hby:=vm s k;have hwb:IntKind.i64.wrap (qw s (k:Int))=(bt s k:Int):=by rw[jl,qc _ om]
 have hwl:IntKind.i64.wrap ((s.length:Int) - 1)=(s.length:Int) - 1:=qc _ om;have key1:¬ more s k->(((k:Int) != IntKind.i64.wrap ((s.length:Int) - 1))=true)->¬ qa s:=λhm hne hn=>by
  have:=hk.last hm;obtain⟨_,_,a,_⟩:=hn;rw [hwl] at hne;simp at hne;omega
 have key2:¬ more s k->(((k:Int) != IntKind.i64.wrap ((s.length:Int) - 1))=false)->(bt s k=0↔qa s)/\k<s.length:=λhm hne=>by
  have:=hk.last hm;rw [hwl] at hne;simp at hne;unfold qa;rw[<-this];omega
 conv=>whnf
 refine⟨λhlt=>?_,λhge=>?_⟩
 ·have hlt':k<s.length:=by simpa using hlt
  conv=>whnf
  refine⟨by simp;omega,?_⟩;conv=>whnf
  refine⟨λh0=>?_,λh0=>?_⟩
  ·have hm:¬ more s k:=λhm=>by rw [hwb] at h0;simp at h0;exact hm.2.1 h0
   conv=>whnf
   refine⟨λe=>congrArg (DV.int _) (by rw[if_neg (key1 hm e)]),λe=>?_⟩;obtain⟨e1,e2⟩:=key2 hm e;conv=>whnf
   refine⟨by simp;omega,?_⟩;conv=>whnf
   refine⟨λhz=>?_,λhz=>?_⟩
   ·exact congrArg (DV.int _) (by rw [if_neg (λhn=>by rw [jl] at hz;simp at hz;exact hz (e1.2 hn))])
   ·exact congrArg (DV.int _) (by rw [if_pos (e1.1 (by rw [jl] at hz;simpa using hz))])
  ·have h0':¬ bt s k=0:=by rw [hwb] at h0;simpa using h0
   conv=>whnf
   refine⟨λh3=>?_,λh3=>?_⟩
   ·have hm:¬ more s k:=λhm=>by rw [hwb] at h3;simp at h3;have:=hm.2.2.1;omega
    conv=>whnf
    refine⟨λe=>congrArg (DV.int _) (by rw[if_neg (key1 hm e)]),λe=>?_⟩;obtain⟨e1,e2⟩:=key2 hm e;conv=>whnf
    refine⟨by simp;omega,?_⟩;conv=>whnf
    refine⟨λhz=>?_,λhz=>?_⟩
    ·exact congrArg (DV.int _) (by rw [if_neg (λhn=>by rw [jl] at hz;simp at hz;exact hz (e1.2 hn))])
    ·exact congrArg (DV.int _) (by rw [if_pos (e1.1 (by rw [jl] at hz;simpa using hz))])
   ·have h3':bt s k<=63:=by rw [hwb] at h3;simp at h3;omega
    conv=>whnf
    have hws:IntKind.i64.wrap ((s.length:Int) - (k:Int))=(s.length:Int) - k:=qc _ om;refine⟨λh4=>?_,λh4=>?_⟩
    ·have hm:¬ more s k:=λhm=>by rw [hwb,hws] at h4;simp at h4;have:=hm.2.2.2;omega
     conv=>whnf
     refine⟨λe=>congrArg (DV.int _) (by rw[if_neg (key1 hm e)]),λe=>?_⟩;obtain⟨e1,e2⟩:=key2 hm e;conv=>whnf
     refine⟨by simp;omega,?_⟩;conv=>whnf
     refine⟨λhz=>?_,λhz=>?_⟩
     ·exact congrArg (DV.int _) (by rw [if_neg (λhn=>by rw [jl] at hz;simp at hz;exact hz (e1.2 hn))])
     ·exact congrArg (DV.int _) (by rw [if_pos (e1.1 (by rw [jl] at hz;simpa using hz))])
    ·have hm:more s k:=⟨hlt',h0',h3',by rw [hwb,hws] at h4;simp at h4;omega⟩;conv=>whnf
     refine⟨k+1+bt s k,[0,1,2],hk.next hm,by show s.length - (k+1+bt s k)<s.length - k;omega,?_⟩;have hnx:IntKind.i64.wrap ((k:Int)+IntKind.i64.wrap (1+IntKind.i64.wrap (qw s (k:Int))))=((k+1+bt s k:Nat):Int):=by rw[hwb,qc (1+(bt s k:Int)) om,qc _ om];omega
     conv=>whnf
     repeat'(first|exact ⟨⟩|exact rfl|apply And.intro)
     all_goals exact congrArg SV.d (congrArg (DV.int _) hnx)
 ·have hm:¬ more s k:=λhm=>by have:=hm.1;simp at hge;omega
  conv=>whnf
  refine⟨λe=>congrArg (DV.int _) (by rw[if_neg (key1 hm e)]),λe=>?_⟩;obtain⟨e1,e2⟩:=key2 hm e;conv=>whnf
  refine⟨by simp;omega,?_⟩;conv=>whnf
  refine⟨λhz=>?_,λhz=>?_⟩
  ·exact congrArg (DV.int _) (by rw [if_neg (λhn=>by rw [jl] at hz;simp at hz;exact hz (e1.2 hn))])
  ·exact congrArg (DV.int _) (by rw [if_pos (e1.1 (by rw [jl] at hz;simpa using hz))])
def low(b:UInt8):UInt8:=if 65<=b/\b<=90 then b+32 else b
def fold(s:Ls):Ls:=s.map low
theorem uz(b:UInt8):(low b).toNat=if 65<=b.toNat/\b.toNat<=90 then b.toNat+32 else b.toNat:=by
 unfold low;have e1:(65<=b)↔65<=b.toNat:=by rw[UInt8.le_iff_toNat_le];rfl
 have e2:(b<=90)↔b.toNat<=90:=by rw[UInt8.le_iff_toNat_le];rfl
 simp only[e1,e2];split
 ·rw[UInt8.toNat_add];have:(32:UInt8).toNat=32:=rfl;omega
 ·rfl
def mix(s:Ls)(k j:Nat):Int:=if j<k then ((low (s[j]?.getD 0)).toNat:Int) else (bt s j:Int)
theorem ke(s:Ls)(hs:s.length<9223372036854775808):FnOk Tryz.prog 67 [.d (.str s)] (.d (.str (fold s))):=by
 refine qi (TT:=TT) (IN:=qd []) qe qg mixed 1000 Tryz.func67 rfl (qb Tryz.func67 (by kernel_rfl) rfl) rfl 28 (by kernel_rfl) ?_;conv=>whnf
 refine .inv Nat (λk=>k<=s.length) (λk=>[(10,.d (.int .i64 k))]) (λk=>[(0,.row 5 1 s.length .no (λj=>[.int .u8 (mix s k j)]))]) (λk=>s.length - k) ⟨0,[0],om,?_⟩ ?_
 ·conv=>whnf
  repeat'(first|exact ⟨⟩|exact rfl|apply And.intro)
  intro i hi;simp[mix,jl]
 intro k hk;have hk1:k<s.length->IntKind.i64.wrap ((k:Int)+1)=((k+1:Nat):Int):=λ_=>by rw[qc _ om];omega
 conv=>whnf
 refine⟨λhlt=>?_,λhge=>?_⟩
 ·have hlt':k<s.length:=by simpa using hlt
  conv=>whnf
  refine⟨by simp;omega,?_⟩;have hmk:mix s k (Int.toNat (k:Int))=(bt s k:Int):=by simp[mix]
  have hb:=vm s k;conv=>whnf
  have stay:¬ (65<=bt s k/\bt s k<=90)->∀ i,i<s.length->[DV.int IntKind.u8 (mix s k i)]=[DV.int IntKind.u8 (mix s (k+1) i)]:=λhn i hi=>by
   unfold mix;by_cases e:i=k
   ·subst e;rw [if_neg om,if_pos om,uz,if_neg (by unfold bt at hn;exact hn)]
    rfl
   ·by_cases e2:i<k
    ·rw[if_pos e2,if_pos om]
    ·rw[if_neg e2,if_neg om]
  rw[hmk];refine⟨λh1=>?_,λh1=>?_⟩
  ·conv=>whnf
   refine⟨λh2=>?_,λh2=>?_⟩
   ·conv=>whnf
    refine⟨by simp;omega,?_⟩;conv=>whnf
    refine⟨k+1,[0],om,by show s.length - (k+1)<s.length - k;omega,?_⟩;conv=>whnf
    repeat'(first|exact ⟨⟩|exact rfl|apply And.intro)
    all_goals first
     |exact congrArg SV.d (congrArg (DV.int _) (hk1 hlt'))
     |exact stay (by simp at h1 h2;omega)
     |(
      intro i hi;show oneF _ _ _ _ i=_;unfold oneF mix;simp at h1 h2;by_cases e:i=k
      ·subst e;simp only[pr,if_true,putD,ax];rw [if_pos om,uz,if_pos (by unfold bt at h1 h2;omega),gy];unfold bt at *;congr 2;omega
      ·rw[if_neg (by simpa using e)];show[DV.int _ _]=[DV.int _ _];by_cases e2:i<k
       ·rw[if_pos e2,if_pos om]
       ·rw[if_neg e2,if_neg om])
   ·conv=>whnf
    refine⟨k+1,[0],om,by show s.length - (k+1)<s.length - k;omega,?_⟩;conv=>whnf
    repeat'(first|exact ⟨⟩|exact rfl|apply And.intro)
    all_goals first
     |exact congrArg SV.d (congrArg (DV.int _) (hk1 hlt'))
     |exact stay (by simp at h1 h2;omega)
     |(
      intro i hi;show oneF _ _ _ _ i=_;unfold oneF mix;simp at h1 h2;by_cases e:i=k
      ·subst e;simp only[pr,if_true,putD,ax];rw [if_pos om,uz,if_pos (by unfold bt at h1 h2;omega),gy];unfold bt at *;congr 2;omega
      ·rw[if_neg (by simpa using e)];show[DV.int _ _]=[DV.int _ _];by_cases e2:i<k
       ·rw[if_pos e2,if_pos om]
       ·rw[if_neg e2,if_neg om])
  ·conv=>whnf
   refine⟨k+1,[0],om,by show s.length - (k+1)<s.length - k;omega,?_⟩;conv=>whnf
   repeat'(first|exact ⟨⟩|exact rfl|apply And.intro)
   all_goals first
    |exact congrArg SV.d (congrArg (DV.int _) (hk1 hlt'))
    |exact stay (by simp at h1;omega)
    |(
     intro i hi;show oneF _ _ _ _ i=_;unfold oneF mix;simp at h1;by_cases e:i=k
     ·subst e;simp only[pr,if_true,putD,ax];rw [if_pos om,uz,if_pos (by unfold bt at h1;omega),gy];unfold bt at *;congr 2;omega
     ·rw[if_neg (by simpa using e)];show[DV.int _ _]=[DV.int _ _];by_cases e2:i<k
      ·rw[if_pos e2,if_pos om]
      ·rw[if_neg e2,if_neg om])
 ·have hke:k=s.length:=by simp at hge;omega
  subst hke;conv=>whnf
  refine⟨λi _=>⟨_,rfl⟩,?_⟩;conv=>whnf
  refine congrArg DV.str ?_;unfold j5 fold;apply ay;intro i;rw[mw,mw];by_cases hi:i<s.length
  ·rw[c8 hi,pp hi];simp[mix,hi]
  ·rw[g8 (by simp;omega),g8 om]
   rfl
def km(s:Ls):Nat->Nat->Nat
 |0,_=>0
 |m+1,k=>if k<s.length/\k<255 then (if bt s k=0 then (if qa (s.take (k+1)) then k+1 else 0) else km s m (k+1+bt s k)) else 0
def jr(s:Ls):Nat:=km s 256 0
def FAt(s:Ls)(k:Nat):Prop:=k<=510/\∃ m,256<=k+m/\km s m k=jr s
theorem FAt.zero(s:Ls):FAt s 0:=⟨om,256,om,rfl⟩
theorem FAt.step{s:Ls}{k:Nat}(h:FAt s k)(h1:k<s.length)(h2:k<255):(jr s=if bt s k=0 then (if qa (s.take (k+1)) then k+1 else 0) else jr s)/\(bt s k≠0->FAt s (k+1+bt s k)):=by
 obtain⟨hk,m,hm,e⟩:=h;cases m with
 |zero=>omega
 |succ m =>
  simp only [km,h1,h2,and_self,if_true] at e;have:=vm s k;refine⟨?_,λhb=>⟨om,m,om,?_⟩⟩
  ·split
   ·rename_i hb;rw [if_pos hb] at e;exact e.symm
   ·rfl
  ·rw [if_neg hb] at e;exact e
theorem FAt.last{s:Ls}{k:Nat}(h:FAt s k)(h1:¬ (k<s.length/\k<255)):jr s=0:=by
 obtain⟨hk,m,hm,e⟩:=h;rw[<-e];cases m with
 |zero=>rfl
 |succ m=>simp only[km,if_neg h1]
theorem brT{b:Bool}{p q:Prop}(h:b=true)(hp:p):(b=true->p)/\(b=false->q):=⟨λ_=>hp,λe=>(by rw [h] at e;cases e)⟩
theorem Fr{p q:Prop}(h:q):(false=true->p)/\(false=false->q):=⟨λh=>(by cases h),λ_=>h⟩
theorem Tr{p q:Prop}(h:p):(true=true->p)/\(true=false->q):=⟨λ_=>h,λh=>(by cases h)⟩
theorem brF{b:Bool}{p q:Prop}(h:b=false)(hq:q):(b=true->p)/\(b=false->q):=⟨λe=>(by rw [h] at e;cases e),λ_=>hq⟩
def strs(l:List Ls)(i:Nat):List DV:=[.str (l[i]?.getD [])]
theorem zh(l:List Ls)(x:Ls)(g:Nat->List DV)(hg:g 0=[.str x]):∀ i,i<l.length+1->catF l.length (strs l) g i=strs (l++[x]) i:=λi hi=>by
 unfold catF strs;split
 ·rename_i h;rw[mn h]
 ·rename_i h;have:i=l.length:=om
  subst this;simp[hg]
theorem xd9(s:Ls):∀ m k,km s m k<=s.length/\km s m k<=255:=by
 intro m;induction m with
 |zero=>intro k;simp[km]
 |succ m ih =>
  intro k;simp only[km];split
  ·split
   ·split
    ·omega
    ·omega
   ·exact ih _
  ·omega
theorem jb7(s:Ls):jr s<=s.length/\jr s<=255:=xd9 s _ _
def jh9(b:Bool):Int:=if b then 0 else 2
theorem jh7(s:Ls)(n:Nat):((s.length:Int) == (n:Int))=(s.length == n):=by
 rw[my];simp;omega
theorem xn8(s:Ls):FnOk Tryz.prog 179 [.d (.str s)] (.d (.int .i64 (jr s))):=by
 refine qi (TT:=TT) (IN:=qd []) qe qg mixed 1000 Tryz.func179 rfl (qb Tryz.func179 (by kernel_rfl) rfl) rfl 30 (by kernel_rfl) ?_;conv=>whnf
 refine .inv Nat (λk=>FAt s k) (λk=>[(3,.d (.int .i64 k))]) (λk=>[]) (λk=>600 - k) ⟨0,[],FAt.zero s,?_⟩ ?_
 ·exact rY0
 intro k hk;have hk1:=hk.1;have hby:=vm s k;conv=>whnf
 refine⟨λhlt=>?_,λhge=>?_⟩
 ·conv=>whnf
  refine⟨λhlt2=>?_,λhge2=>?_⟩
  ·have h1:k<s.length:=by simpa using hlt
   have h2:k<255:=by simp at hlt2;omega
   obtain⟨e1,e2⟩:=hk.step h1 h2;conv=>whnf
   refine⟨by simp;omega,?_⟩;conv=>whnf
   rw[jl];refine⟨λhb=>?_,λhb=>?_⟩
   ·have hb':bt s k≠0:=by simpa using hb
    conv=>whnf
    refine⟨by simp;omega,?_⟩;conv=>whnf
    refine⟨k+1+bt s k,[],e2 hb',by show 600 - (k+1+bt s k)<600 - k;omega,?_⟩;have hnx:IntKind.i64.wrap ((k:Int)+IntKind.i64.wrap (1+IntKind.i64.wrap (qw s (k:Int))))=((k+1+bt s k:Nat):Int):=by simp(disch:=omega) only[jl,qc];omega
    conv=>whnf
    repeat'(first|exact ⟨⟩|exact rfl|apply And.intro)
    all_goals exact congrArg SV.d (congrArg (DV.int _) hnx)
   ·have hb':bt s k=0:=by simpa using hb
    rw [if_pos hb'] at e1;have hw:=w64s k om;conv=>whnf
    rw[hw];refine⟨om,?_⟩;conv=>whnf
    refine oD (zo _) rfl rfl ?_;have hsub:sub s 0 ((k+1:Nat):Int)=s.take (k+1):=by simp[sub]
    rw[hsub];by_cases hn:qa (s.take (k+1))
    ·rw [if_pos hn] at e1 ⊢;conv=>whnf
     refine brF (by decide) ?_;conv=>whnf
     refine congrArg (DV.int _) ?_;rw[e1,hw]
    ·rw [if_neg hn] at e1 ⊢;conv=>whnf
     refine brT (by decide) ?_;conv=>whnf
     exact congrArg (DV.int _) (by rw[e1];rfl)
  ·conv=>whnf
   exact congrArg (DV.int _) (by rw [hk.last (by simp at hge2;omega)];rfl)
 ·conv=>whnf
  exact congrArg (DV.int _) (by rw [hk.last (by simp at hge;omega)];rfl)
def qv4:Nat->Ls->Option (List Ls)
 |_,[]=>some []
 |0,_ :: _=>none
 |m+1,a :: r=>if a.toNat<=r.length then (qv4 m (r.drop a.toNat)).map (r.take a.toNat :: ·) else none
def qu0(s:Ls):Option (List Ls):=qv4 s.length s
def wk(s:Ls):Bool:=match qu0 s with
 |some l=>decide (0<l.length)
 |none=>false
def TAt(s:Ls)(k:Nat)(l:List Ls):Prop:=k<=s.length/\l.length<=k/\∃ m,s.length<=k+m/\(qv4 m (s.drop k)).map (l ++ ·)=qu0 s
theorem TAt.zero(s:Ls):TAt s 0 []:=⟨pv _,pv _,s.length,om,by simp[qu0]⟩
theorem TAt.step{s:Ls}{k:Nat}{l:List Ls}(h:TAt s k l)(hk:k<s.length):(s.length<k+1+bt s k->qu0 s=none)/\(k+1+bt s k<=s.length->TAt s (k+1+bt s k) (l++[(s.drop (k+1)).take (bt s k)])):=by
 obtain⟨h1,h2,m,h3,h4⟩:=h;have hd:s.drop k=s[k] :: s.drop (k+1):=lu hk;have hb:bt s k=s[k].toNat:=by simp[bt,hk]
 cases m with
 |zero=>omega
 |succ m =>
  rw [hd] at h4;simp only [qv4,ou,<-hb] at h4;refine⟨λhlt=>?_,λhle=>⟨hle,by simp;omega,m,om,?_⟩⟩
  ·rw [if_neg om] at h4;simpa using h4.symm
  ·rw [if_pos om,gx] at h4;rw[<-h4];simp[Function.comp_def]
theorem TAt.last{s:Ls}{k:Nat}{l:List Ls}(h:TAt s k l)(hk:k=s.length):qu0 s=some l:=by
 obtain⟨h1,h2,m,h3,h4⟩:=h;rw[<-h4,hk,f8];cases m <;> simp[qv4]
theorem xh3(s:Ls)(hs:s.length<=4096):FnOk Tryz.prog 149 [.d (.str s)] (.tup [.any,.d (.bool (wk s))]):=by
 refine qi (TT:=TT) (IN:=qd []) qe qg mixed 1000 Tryz.func149 rfl (qb Tryz.func149 (by kernel_rfl) rfl) rfl 28 (by kernel_rfl) ?_;conv=>whnf
 refine .nilT 4 9 1 (λ_=>[]) _ _ rfl ?_;conv=>whnf
 refine .inv (Nat × List Ls) (λp=>TAt s p.1 p.2) (λp=>[(0,.d (.str (s.drop p.1))),(4,.all 0)]) (λp=>[(0,.row 9 1 p.2.length .iff (strs p.2))]) (λp=>s.length - p.1) ⟨(0,[]),[0],TAt.zero s,?_⟩ ?_
 ·conv=>whnf
  repeat'(first|exact ⟨⟩|exact rfl|apply And.intro)
  intro i hi;exact absurd hi sm
 intro p hk;have hk0:p.1<=s.length:=hk.1;have hk2:p.2.length<=p.1:=hk.2.1;have hby:=vm s p.1;have hlen:(s.drop p.1).length=s.length - p.1:=by simp
 conv=>whnf
 refine⟨λhne=>?_,λheq=>?_⟩
 ·have hlt:p.1<s.length:=by
   rcases ox p.1 s.length with e|e
   ·exact e
   ·rw [d5 e] at hne;simp at hne
  obtain⟨e1,e2⟩:=TAt.step hk hlt;have hb0:qw (s.drop p.1) 0=(bt s p.1:Int):=by
   rw[show(0:Int)=((0:Nat):Int) from rfl,jl];simp[bt]
  conv=>whnf
  refine⟨om,?_⟩;have hsz:IntKind.i64.wrap (1+IntKind.i64.wrap (qw (s.drop p.1) 0))=((1+bt s p.1:Nat):Int):=by rw[hb0];simp(disch:=omega) only[qc];omega
  conv=>whnf
  rw[hsz];refine⟨λhgt=>?_,λhle=>?_⟩
  ·conv=>whnf
   refine⟨True.intro,?_,True.intro⟩;have:wk s=false:=by unfold wk;rw [e1 (by simp at hgt;omega)]
   rw[this];exact rfl
  ·have hle':p.1+1+bt s p.1<=s.length:=by simp at hle;omega
   conv=>whnf
   refine⟨om,?_⟩;conv=>whnf
   refine⟨om,?_⟩;conv=>whnf
   refine⟨om,?_⟩;conv=>whnf
   refine⟨(p.1+1+bt s p.1,p.2++[(s.drop (p.1+1)).take (bt s p.1)]),[2],e2 hle',by show s.length - (p.1+1+bt s p.1)<s.length - p.1;omega,?_⟩;conv=>whnf
   repeat'(first|exact ⟨⟩|exact rfl|apply And.intro)
   ·refine congrArg SV.d (congrArg DV.str ?_);show sub (s.drop p.1) _ _=s.drop (p.1+1+bt s p.1);simp only[sub,pr,gx];rw[gr (by simp;omega)];congr 1;omega
   ·simp
   ·refine zh _ _ _ ?_;show[DV.str _]=[DV.str _];congr 2;simp only[sub,pr,gx];rw[show(1:Int).toNat=1 from rfl];congr 1;omega
 ·have hke:p.1=s.length:=by
   simp at heq;omega
  conv=>whnf
  refine⟨True.intro,?_,True.intro⟩;have:wk s=decide (0<p.2.length):=by unfold wk;rw[TAt.last hk hke]
  rw[this];refine congrArg DV.bool ?_;simp
def kg:Nat->Ls->Option (List Ls × Ls)
 |0,s=>some ([],s)
 |n+1,s=>if jr s=0 then none else (kg n (s.drop (jr s))).map (λp=>(s.take (jr s) :: p.1,p.2))
def cutF(a n c:Nat)(s:Ls):Option (Ls × List Ls × Ls) :=
 if s.length<2 * a then none else (kg n (s.drop (2 * a))).bind λp=>if p.2.length=4 * c then some (s.take (2 * a),p.1,p.2) else none
def zc9(x:Ls)(l:List Ls)(r:Ls):SV:=.agg [.d (.str x),.d (.sl (Nat.beq l.length 0) l.length 1 (strs l)),.d (.str r)]
def yy3:SV:=.agg [.d (.str []),nilS,.d (.str [])]
def cutR:Option (Ls × List Ls × Ls)->SV
 |none=>.tup [yy3,.d .ff]
 |some (x,l,r)=>.tup [zc9 x l r,.d .tt]
structure NAt(n:Nat)(s:Ls)(i:Nat)(l:List Ls)(r:Ls):Prop where
 le:i<=n
 len:l.length=i
 short:r.length<=s.length
 eq:(kg (n - i) r).map (λp=>(l++p.1,p.2))=kg n s
theorem NAt.zero(n:Nat)(s:Ls):NAt n s 0 [] s:=⟨pv _,rfl,pu _,sm⟩
theorem NAt.step{n:Nat}{s:Ls}{i:Nat}{l:List Ls}{r:Ls}(h:NAt n s i l r)(hi:i<n):(jr r=0->kg n s=none)/\(jr r≠0->NAt n s (i+1) (l++[r.take (jr r)]) (r.drop (jr r))):=by
 have e:=h.eq;rw [show n - i=(n - (i+1))+1 from by omega] at e;simp only [kg] at e;refine ⟨λh0=>by rw [if_pos h0] at e;simpa using e.symm,λh0=>⟨hi,by simp [h.len],by have:=h.short;simp;omega,?_⟩⟩;rw [if_neg h0] at e;rw[<-e];simp[Function.comp_def]
theorem NAt.last{n:Nat}{s:Ls}{l:List Ls}{r:Ls}(h:NAt n s n l r):kg n s=some (l,r):=by
 rw[<-h.eq];simp[kg]
theorem rZ1{p:Prop}(h:p:=by repeat'(first|exact ⟨⟩|exact rfl|exact Or.inl rfl|exact .inr rfl|exact λ_ _=>rfl|apply And.intro)):p:=h
theorem rY1{p:Prop}(h:p:=by (conv=>whnf);repeat'(first|exact ⟨⟩|exact rfl|exact Or.inl rfl|exact .inr rfl|exact λ_ _=>rfl|apply And.intro)):p:=h
theorem zd8(a n c:Nat)(ha:a<=100)(hn:n<=100)(hc:c<=100)(s:Ls):FnOk Tryz.prog 151 [.agg [.d (.int .i64 a),.d (.int .i64 n),.d (.int .i64 c)],.d (.str s)] (cutR (cutF a n c s)):=by
 refine qi (TT:=TT) (IN:=qd []) qe qg mixed 1000 Tryz.func151 rfl (qb Tryz.func151 (by kernel_rfl) rfl) rfl 56 (by kernel_rfl) ?_;have h2a:IntKind.i64.wrap (2 * (a:Int))=((2 * a:Nat):Int):=by rw[qc _ om];omega
 have h4c:IntKind.i64.wrap (4 * (c:Int))=((4 * c:Nat):Int):=by rw[qc _ om];omega
 conv=>whnf
 rw[h2a];refine⟨λhlt=>?_,λhge=>?_⟩
 ·have:cutF a n c s=none:=by unfold cutF;rw [if_pos (by simp at hlt;omega)]
  rw[this];exact rY1
 ·have hge':2 * a<=s.length:=by simp at hge;omega
  conv=>whnf
  rw[h2a];refine⟨om,?_⟩;conv=>whnf
  rw[h2a];refine⟨om,?_⟩;conv=>whnf
  refine .nilC 2 1 9 1 (λ_=>[]) _ _ _ _ rfl rfl ?_;conv=>whnf
  have hr0:sub s ((2 * a:Nat):Int) (s.length:Int)=s.drop (2 * a):=by
   simp only[sub,pr];rw[gr sm]
  have hx0:sub s 0 ((2 * a:Nat):Int)=s.take (2 * a):=by simp only[sub,pr];simp
  rw[hr0,hx0];refine .inv (Nat × List Ls × Ls) (λp=>NAt n (s.drop (2 * a)) p.1 p.2.1 p.2.2) (λp=>[(7,.d (.str p.2.2)),(29,.d (.int .i64 p.1))]) (λp=>[(2,.cells 170 [.d (.str (s.take (2 * a))),.all 3,.d (.str [])]),(3,.row 9 1 p.2.1.length .iff (strs p.2.1))]) (λp=>n - p.1) ⟨(0,[],s.drop (2 * a)),[0,1,2,3],NAt.zero _ _,?_⟩ ?_
  ·conv=>whnf
   repeat'(first|exact ⟨⟩|exact rfl|apply And.intro)
   intro i hi;omega
  intro p hp;have hp1:=hp.le;have hp2:=hp.len;have hp3:=hp.short;have hf:=jb7 p.2.2;simp only [ou] at hp3;conv=>whnf
  refine⟨λhlt=>?_,λhge=>?_⟩
  ·have hi:p.1<n:=by simpa using hlt
   obtain⟨e1,e2⟩:=hp.step hi;conv=>whnf
   refine oD (xn8 _) rfl rfl ?_;conv=>whnf
   refine⟨λh0=>?_,λh0=>?_⟩
   ·have h0':jr p.2.2=0:=by simpa using h0
    have:cutF a n c s=none:=by unfold cutF;rw[if_neg om,e1 h0'];rfl
    rw[this];exact rY1
   ·have h0':jr p.2.2≠0:=by simpa using h0
    conv=>whnf
    refine⟨om,?_⟩;conv=>whnf
    refine⟨om,?_⟩;conv=>whnf
    refine⟨om,?_⟩;conv=>whnf
    refine⟨(p.1+1,p.2.1++[p.2.2.take (jr p.2.2)],p.2.2.drop (jr p.2.2)),[0,1,2,5],e2 h0',by show n - (p.1+1)<n - p.1;omega,?_⟩;have hw:IntKind.i64.wrap ((p.1:Int)+1)=((p.1+1:Nat):Int):=by rw[qc _ om];omega
    conv=>whnf
    repeat'(first|exact ⟨⟩|exact rfl|apply And.intro)
    ·refine congrArg SV.d (congrArg DV.str ?_);simp only[sub,pr];rw[gr sm]
    ·exact congrArg SV.d (congrArg (DV.int _) hw)
    ·simp
    ·refine zh _ _ _ ?_;show[DV.str _]=[DV.str _];simp[sub]
  ·have hi:p.1=n:=by simp at hge;omega
   rw [hi] at hp;have hnm:=hp.last;conv=>whnf
   rw[h4c];refine⟨λhne=>?_,λheq=>?_⟩
   ·have:cutF a n c s=none:=by unfold cutF;rw [if_neg om,hnm];simp at hne ⊢;omega
    rw[this];exact rY1
   ·have:cutF a n c s=some (s.take (2 * a),p.2.1,p.2.2):=by unfold cutF;rw [if_neg om,hnm];simp at heq ⊢;omega
    rw[this];exact rY1
def ji(t:Int):Option (Nat × Nat × Nat) :=
 if t=2\/t=5\/t=12 then some (0,1,0) else if t=15 then some (1,1,0) else if t=33 then some (3,1,0) else if t=6 then some (0,2,5) else none
def jv6(p:Nat × Nat × Nat):SV:=.agg [.d (.int .i64 p.1),.d (.int .i64 p.2.1),.d (.int .i64 p.2.2)]
def kc7:Option (Nat × Nat × Nat)->SV
 |some p=>.tup [jv6 p,.d .tt]
 |none=>.tup [jv6 (0,0,0),.d .ff]
theorem qs3{t:Int}{p:Nat × Nat × Nat}(h:ji t=some p):p.1<=100/\p.2.1<=100/\p.2.2<=100:=by
 unfold ji at h
 repeat'(split at h)
 all_goals first|(cases h;decide)|cases h
theorem yn6(t:Int):FnOk Tryz.prog 150 [.d (.int .u16 t)] (kc7 (ji t)):=by
 refine qi (TT:=TT) (IN:=qd []) qe qg mixed 1000 Tryz.func150 rfl (qb Tryz.func150 (by kernel_rfl) rfl) rfl 19 (by kernel_rfl) ?_;have fin1:t=2\/t=5\/t=12->ji t=some (0,1,0):=λh=>by unfold ji;rw[if_pos h]
 conv=>whnf
 refine⟨λh1=>?_,λh1=>?_⟩
 ·rw[fin1 (.inl (by simpa using h1))];conv=>whnf
  refine brT h1 ?_;exact rY0
 simp only [oo,ne_eq] at h1;conv=>whnf
 refine⟨λh2=>?_,λh2=>?_⟩
 ·rw[fin1 (.inr (.inl (by simpa using h2)))];conv=>whnf
  refine brT h2 ?_;exact rY0
 simp only [oo,ne_eq] at h2;conv=>whnf
 refine⟨λh3=>?_,λh3=>?_⟩
 ·rw[fin1 (.inr (.inr (by simpa using h3)))];exact rY0
 simp only [oo,ne_eq] at h3;conv=>whnf
 refine⟨λh4=>?_,λh4=>?_⟩
 ·have:ji t=some (1,1,0):=by unfold ji;simp at h4;simp [h4]
  rw[this];exact rY0
 simp only [oo,ne_eq] at h4;conv=>whnf
 refine⟨λh5=>?_,λh5=>?_⟩
 ·have:ji t=some (3,1,0):=by unfold ji;simp at h5;simp [h5]
  rw[this];exact rY0
 simp only [oo,ne_eq] at h5;conv=>whnf
 refine⟨λh6=>?_,λh6=>?_⟩
 ·have:ji t=some (0,2,5):=by unfold ji;simp at h6;simp [h6]
  rw[this];exact rY0
 simp only [oo,ne_eq] at h6;have:ji t=none:=by unfold ji;simp[h1,h2,h3,h4,h5,h6]
 rw[this];exact rY0
def jn(t:Int)(s:Ls):Bool :=
 if t=1 then s.length == 4 else if t=28 then s.length == 16 else if t=16 then wk s else match ji t with
 |some p=>(cutF p.1 p.2.1 p.2.2 s).isSome
 |none=>true
def jf(t:Int)(s:Ls):Bool:=decide (s.length<=4096) && jn t s
theorem xa1(t:Int)(s:Ls):FnOk Tryz.prog 115 [.d (.int .u16 t),.d (.str s)] (.d (.int .i64 (jh9 (jf t s)))):=by
 refine qi (TT:=TT) (IN:=qd []) qe qg mixed 1000 Tryz.func115 rfl (qb Tryz.func115 (by kernel_rfl) rfl) rfl 43 (by kernel_rfl) ?_;conv=>whnf
 refine⟨λh0=>?_,λh0=>?_⟩
 ·have:jf t s=false:=by unfold jf;simp at h0;simp;intro h;omega
  rw[this];conv=>whnf
  exact rfl
 have hle:s.length<=4096:=by simp at h0;omega
 have hr:jf t s=jn t s:=by unfold jf;simp[hle]
 rw[hr];have hlast:∀ b:Bool,jn t s=b->(((!b)=true->(if jn t s=true then (0:Int) else 2)=2)/\((!b)=false->(if jn t s=true then (0:Int) else 2)=0)):=λb h=>by rw[h];cases b <;> simp
 conv=>whnf
 refine⟨λh1=>?_,λh1=>?_⟩
 ·simp only [oy] at h1;have e:jn t s=((s.length:Int) == 4):=by unfold jn;rw[if_pos h1,<-jh7];rfl
  obtain⟨l1,l2⟩:=hlast _ e;conv=>whnf
  refine⟨λh=>?_,λh=>?_⟩
  ·conv=>whnf
   exact congrArg (DV.int _) (l1 h).symm
  ·conv=>whnf
   exact congrArg (DV.int _) (l2 h).symm
 simp only [oo,ne_eq] at h1;conv=>whnf
 refine⟨λh2=>?_,λh2=>?_⟩
 ·simp only [oy] at h2;have e:jn t s=((s.length:Int) == 16):=by unfold jn;rw[if_neg h1,if_pos h2,<-jh7];rfl
  obtain⟨l1,l2⟩:=hlast _ e;conv=>whnf
  refine⟨λh=>?_,λh=>?_⟩
  ·conv=>whnf
   exact congrArg (DV.int _) (l1 h).symm
  ·conv=>whnf
   exact congrArg (DV.int _) (l2 h).symm
 simp only [oo,ne_eq] at h2;conv=>whnf
 refine⟨λh3=>?_,λh3=>?_⟩
 ·simp only [oy] at h3;have e:jn t s=wk s:=by unfold jn;rw[if_neg h1,if_neg h2,if_pos h3]
  obtain⟨l1,l2⟩:=hlast _ e;conv=>whnf
  refine oD (xh3 s hle) rfl rfl ?_;conv=>whnf
  refine⟨λh=>?_,λh=>?_⟩
  ·conv=>whnf
   exact congrArg (DV.int _) (l1 h).symm
  ·conv=>whnf
   exact congrArg (DV.int _) (l2 h).symm
 simp only [oo,ne_eq] at h3;conv=>whnf
 refine .one (.data _ (yn6 t) rfl ?_ ?_)
 ·cases ji t <;> rfl
 cases hf:ji t with
 |none =>
  have e:jn t s=true:=by unfold jn;rw[if_neg h1,if_neg h2,if_neg h3,hf]
  obtain⟨l1,l2⟩:=hlast _ e;conv=>whnf
  refine brF (by simpa using h0) ?_;conv=>whnf
  exact congrArg (DV.int _) (l2 rfl).symm
 |some p =>
  obtain⟨f1,f2,f3⟩:=qs3 hf;have e:jn t s=(cutF p.1 p.2.1 p.2.2 s).isSome:=by unfold jn;rw[if_neg h1,if_neg h2,if_neg h3,hf]
  obtain⟨l1,l2⟩:=hlast _ e;conv=>whnf
  refine .one (.data _ (zd8 p.1 p.2.1 p.2.2 f1 f2 f3 s) rfl ?_ ?_)
  ·cases cutF p.1 p.2.1 p.2.2 s <;> rfl
  cases hc:cutF p.1 p.2.1 p.2.2 s with
  |none =>
   rw [hc] at l1;conv=>whnf
   exact congrArg (DV.int _) (l1 rfl).symm
  |some q =>
   rw [hc] at l2;conv=>whnf
   exact congrArg (DV.int _) (l2 rfl).symm
structure RR where
 nm:Ls
 ty:Int
 cl:Int
 ttl:Int
 d:Ls
deriving Inhabited,DecidableEq
def RR.enc(r:RR):List DV:=[.str r.nm,.int .u16 r.ty,.int .u16 r.cl,.int .u32 r.ttl,.str r.d]
def RR.V(r:RR):SV:=.agg [.d (.str r.nm),.d (.int .u16 r.ty),.d (.int .u16 r.cl),.d (.int .u32 r.ttl),.d (.str r.d)]
def RR.check(r:RR):Bool:=decide (qa r.nm) && jf r.ty r.d && (decide (r.ttl<=2147483647) || r.ty == 41)
theorem ya2(r:RR):FnOk Tryz.prog 82 [r.V] (.d (.int .i64 (jh9 r.check))):=by
 refine qi (TT:=TT) (IN:=qd []) qe qg mixed 1000 Tryz.func82 rfl (qb Tryz.func82 (by kernel_rfl) rfl) rfl 22 (by kernel_rfl) ?_;conv=>whnf
 refine oD (zo r.nm) rfl rfl ?_;by_cases hn:qa r.nm
 ·rw[if_pos hn];conv=>whnf
  apply Fr;conv=>whnf
  refine oD (xa1 r.ty r.d) rfl rfl ?_;cases hc:jf r.ty r.d
  ·have e:r.check=false:=by simp[RR.check,hc]
   rw[e];conv=>whnf
   apply Tr;conv=>whnf
   exact rfl
  ·conv=>whnf
   apply Fr;conv=>whnf
   refine⟨λc1=>?_,λc1=>?_⟩
   ·have c1':¬ r.ttl<=2147483647:=by
     have:r.ttl > 2147483647:=px c1;omega
    conv=>whnf
    refine⟨λc2=>?_,λc2=>?_⟩
    ·have e:r.check=false:=by
      have:¬ r.ty=41:=by simpa using c2
      simp[RR.check,c1',this]
     rw[e];conv=>whnf
     exact rfl
    ·have e:r.check=true:=by
      have:r.ty=41:=by simpa using c2
      simp only[RR.check,hn,hc,decide_true,p9,cn,oy];exact .inr this
     rw[e];conv=>whnf
     exact rfl
   ·have c1':r.ttl<=2147483647:=by
     have:¬ r.ttl > 2147483647:=py c1;omega
    have e:r.check=true:=by simp[RR.check,hn,hc,c1']
    rw[e];conv=>whnf
    exact rfl
 ·rw[if_neg hn];have e:r.check=false:=by simp[RR.check,hn]
  rw[e];conv=>whnf
  apply Tr;conv=>whnf
  exact rfl
def rrsD(z:Bool)(l:List RR):DV:=.sl z l.length 5 (λi=>(l.getD i default).enc)
structure RR.Ok(r:RR):Prop where
 ty:0<=r.ty/\r.ty<=65535
 cl:0<=r.cl/\r.cl<=65535
 ttl:0<=r.ttl/\r.ttl<=4294967295
end Go.Proofs.YtoefgnnkajhmiaaGreatDoor
namespace Go.Proofs
open Go.Shelf Go.RowKit Go.Sort Go.Lib
def Try.lays156_ren:Go.Shelf.Ren:=⟨λ|156=>85|165=>118|166=>20|169=>22|240=>51|241=>156|276=>88|277=>185|n=>n,λ|31=>47|9=>9|3=>3|4=>4|0=>0|20=>20|72=>65|76=>71|70=>63|37=>60|75=>70|127=>105|164=>141|5=>5|80=>74|n=>n,λ|n=>n⟩
theorem Try.lays156:Go.Proofs.Lays.n156 Tryz.prog Try.lays156_ren:={
 mixed:=by kernel_rfl
 f156:=Tryz.func85.trans (congrArg some (by kernel_rfl))
 f165:=Tryz.func118.trans (congrArg some (by kernel_rfl))
 f166:=Tryz.func20.trans (congrArg some (by kernel_rfl))
 f169:=Tryz.func22.trans (congrArg some (by kernel_rfl))
 f240:=Tryz.func51.trans (congrArg some (by kernel_rfl))
 f241:=Tryz.func156.trans (congrArg some (by kernel_rfl))
 f276:=Tryz.func88.trans (congrArg some (by kernel_rfl))
 f277:=Tryz.func185.trans (congrArg some (by kernel_rfl))
 t0:=Tryz.underlying0
 a0:=Tryz.isAgg0
 z0:=Tryz.sizeOf0
 v0:=Tryz.zeroValue0
 t3:=Tryz.underlying3
 a3:=Tryz.isAgg3
 z3:=Tryz.sizeOf3
 v3:=Tryz.zeroValue3
 t4:=Tryz.underlying4
 a4:=Tryz.isAgg4
 z4:=Tryz.sizeOf4
 v4:=Tryz.zeroValue4
 t9:=Tryz.underlying9
 a9:=Tryz.isAgg9
 z9:=Tryz.sizeOf9
 v9:=Tryz.zeroValue9
 t20:=Tryz.underlying20
 a20:=Tryz.isAgg20
 z20:=Tryz.sizeOf20
 v20:=Tryz.zeroValue20
 t31:=Tryz.underlying47
 a31:=Tryz.isAgg47
 z31:=Tryz.sizeOf47
 v31:=Tryz.zeroValue47
 t37:=Tryz.underlying60
 a37:=Tryz.isAgg60
 z37:=Tryz.sizeOf60
 v37:=Tryz.zeroValue60
 t70:=Tryz.underlying63
 a70:=Tryz.isAgg63
 z70:=Tryz.sizeOf63
 v70:=Tryz.zeroValue63
 t72:=Tryz.underlying65
 a72:=Tryz.isAgg65
 z72:=Tryz.sizeOf65
 v72:=Tryz.zeroValue65
 t75:=Tryz.underlying70
 a75:=Tryz.isAgg70
 z75:=Tryz.sizeOf70
 v75:=Tryz.zeroValue70
 t76:=Tryz.underlying71
 a76:=Tryz.isAgg71
 z76:=Tryz.sizeOf71
 v76:=Tryz.zeroValue71
 t127:=Tryz.underlying105
 a127:=Tryz.isAgg105
 z127:=Tryz.sizeOf105
 v127:=Tryz.zeroValue105
 t164:=Tryz.underlying141
 a164:=Tryz.isAgg141
 z164:=Tryz.sizeOf141
 v164:=Tryz.zeroValue141 }
theorem Try.Builder_Extra_156:Builder.Extra Tryz.prog Try.lays156_ren:={
 sizeBuilder:=by kernel_rfl
 liesBuilder:=by kernel_rfl
 t5:=Tryz.underlying5
 a5:=Tryz.isAgg5
 z5:=Tryz.sizeOf5
 v5:=Tryz.zeroValue5
 infoByte:=by kernel_rfl
 cellsByte:=by kernel_rfl
 sizeByte:=by kernel_rfl
 neB5:=by decide }
theorem Try.strings_Join_none(a:Option Addr)(c:Nat)(sep:ByteArray)(w:World) :
 Calls Tryz.prog 85 #[.slice a 0 c,.string sep] w λe w'=>e = .returned (.string ⟨#[]⟩)/\w'=w:=Any.strings_Join_none Try.lays156 Try.Builder_Extra_156 a c sep w
theorem Try.strings_Join(bk o c:Nat)(xs:List ByteArray)(sep:ByteArray)(w:World)(hcells:∀ (j:Nat) x,xs[j]? = some x->w.cell? ⟨bk,o+j,none⟩=some (.string x))(hbk:bk<w.heap.size)(hN:xs.length<=140737488355328)(hcap:xs.length<=c)(hlen:(Lib.join (xs.map (·.data.toList)) sep.data.toList).length<=140737488355328) :
 Calls Tryz.prog 85 #[.slice (some ⟨bk,o,none⟩) xs.length c,.string sep] w λe w'=>e = .returned (.string ⟨(Lib.join (xs.map (·.data.toList)) sep.data.toList).toArray⟩)/\Below w.heap.size w w':=Any.strings_Join Try.lays156 Try.Builder_Extra_156 bk o c xs sep w hcells hbk hN hcap hlen
def Try.lays137_ren:Go.Shelf.Ren:=⟨λ|137=>170|217=>127|266=>160|n=>n,λ|9=>9|5=>5|3=>3|n=>n,λ|n=>n⟩
theorem Try.lays137:Go.Proofs.Lays.n137 Tryz.prog Try.lays137_ren:={
 mixed:=by kernel_rfl
 f137:=Tryz.func170.trans (congrArg some (by kernel_rfl))
 f217:=Tryz.func127.trans (congrArg some (by kernel_rfl))
 f266:=Tryz.func160.trans (congrArg some (by kernel_rfl))
 t3:=Tryz.underlying3
 a3:=Tryz.isAgg3
 z3:=Tryz.sizeOf3
 v3:=Tryz.zeroValue3
 t5:=Tryz.underlying5
 a5:=Tryz.isAgg5
 z5:=Tryz.sizeOf5
 v5:=Tryz.zeroValue5
 t9:=Tryz.underlying9
 a9:=Tryz.isAgg9
 z9:=Tryz.sizeOf9
 v9:=Tryz.zeroValue9 }
theorem Try.strings_IndexByte(s:ByteArray)(c:Int)(w:World) :
 Calls Tryz.prog 170 #[.string s,.int .u8 c] w λe w'=>e = .returned (.int .i64 (Lib.indexByte s.data.toList c.toNat.toUInt8))/\w'=w:=Any.strings_IndexByte Try.lays137 s c w
def Try.lays283_ren:Go.Shelf.Ren:=⟨λ|283=>152|n=>n,λ|3=>3|9=>9|4=>4|n=>n,λ|n=>n⟩
theorem Try.lays283:Go.Proofs.Lays.n283 Tryz.prog Try.lays283_ren:={
 mixed:=by kernel_rfl
 f283:=Tryz.func152.trans (congrArg some (by kernel_rfl))
 t3:=Tryz.underlying3
 a3:=Tryz.isAgg3
 z3:=Tryz.sizeOf3
 v3:=Tryz.zeroValue3
 t4:=Tryz.underlying4
 a4:=Tryz.isAgg4
 z4:=Tryz.sizeOf4
 v4:=Tryz.zeroValue4
 t9:=Tryz.underlying9
 a9:=Tryz.isAgg9
 z9:=Tryz.sizeOf9
 v9:=Tryz.zeroValue9 }
theorem Try.internal_strconv_small(i:Nat)(h:i<100)(w:World) :
 Calls Tryz.prog 152 #[.int .i64 i] w λe w'=>e = .returned (.string ⟨(Lib.decDigits i).toArray⟩)/\w'=w:=Any.internal_strconv_small Try.lays283 i h w
def Try.laysM284_ren:Go.Shelf.Ren:=⟨λ|284=>153|129=>181|317=>180|318=>182|n=>n,λ|53=>137|3=>3|212=>225|0=>0|4=>4|46=>173|5=>5|9=>9|n=>n,λ|17=>1|n=>n⟩
theorem Try.laysM284:Go.Proofs.LaysM.n284 Tryz.prog Try.laysM284_ren:={
 mixed:=by kernel_rfl
 f129:=Tryz.func181.trans (congrArg some (by kernel_rfl))
 f284:=Tryz.func153.trans (congrArg some (by kernel_rfl))
 f317:=Tryz.func180.trans (congrArg some (by kernel_rfl))
 f318:=Tryz.func182.trans (congrArg some (by kernel_rfl))
 t0:=Tryz.underlying0
 a0:=Tryz.isAgg0
 z0:=Tryz.sizeOf0
 v0:=Tryz.zeroValue0
 t3:=Tryz.underlying3
 a3:=Tryz.isAgg3
 z3:=Tryz.sizeOf3
 v3:=Tryz.zeroValue3
 t4:=Tryz.underlying4
 a4:=Tryz.isAgg4
 z4:=Tryz.sizeOf4
 v4:=Tryz.zeroValue4
 t5:=Tryz.underlying5
 a5:=Tryz.isAgg5
 z5:=Tryz.sizeOf5
 v5:=Tryz.zeroValue5
 t9:=Tryz.underlying9
 a9:=Tryz.isAgg9
 z9:=Tryz.sizeOf9
 v9:=Tryz.zeroValue9
 t46:=Tryz.underlying173
 a46:=Tryz.isAgg173
 z46:=Tryz.sizeOf173
 v46:=Tryz.zeroValue173
 t53:=Tryz.underlying137
 a53:=Tryz.isAgg137
 z53:=Tryz.sizeOf137
 v53:=Tryz.zeroValue137
 t212:=Tryz.underlying225
 a212:=Tryz.isAgg225
 z212:=Tryz.sizeOf225
 v212:=Tryz.zeroValue225
 g17:=by kernel_rfl
 i0:=by kernel_rfl
 i3:=by kernel_rfl
 i4:=by kernel_rfl
 i5:=by kernel_rfl
 i9:=by kernel_rfl
 i46:=by kernel_rfl
 i53:=by kernel_rfl
 i212:=by kernel_rfl
 m17:=by kernel_rfl }
theorem Try.internal_strconv_numDigits (u : Nat) (h1 : 1 ≤ u) (h2 : u < 18446744073709551616) (w : World) (htab : Lib.TabIs Tryz.prog w "internal/strconv.uint64pow10" .u64 Lib.pow10Tab) :
 Calls Tryz.prog 153 #[.int .u64 u] w λe w'=>e = .returned (.int .i64 (Lib.nDigits u))/\w'=w:=Any.internal_strconv_numDigits Try.laysM284 u h1 h2 w htab
def Try.lays285_ren:Go.Shelf.Ren:=⟨λ|285=>154|n=>n,λ|37=>60|53=>137|3=>3|4=>4|51=>29|9=>9|5=>5|0=>0|n=>n,λ|n=>n⟩
theorem Try.lays285:Go.Proofs.Lays.n285 Tryz.prog Try.lays285_ren:={
 mixed:=by kernel_rfl
 f285:=Tryz.func154.trans (congrArg some (by kernel_rfl))
 t0:=Tryz.underlying0
 a0:=Tryz.isAgg0
 z0:=Tryz.sizeOf0
 v0:=Tryz.zeroValue0
 t3:=Tryz.underlying3
 a3:=Tryz.isAgg3
 z3:=Tryz.sizeOf3
 v3:=Tryz.zeroValue3
 t4:=Tryz.underlying4
 a4:=Tryz.isAgg4
 z4:=Tryz.sizeOf4
 v4:=Tryz.zeroValue4
 t5:=Tryz.underlying5
 a5:=Tryz.isAgg5
 z5:=Tryz.sizeOf5
 v5:=Tryz.zeroValue5
 t9:=Tryz.underlying9
 a9:=Tryz.isAgg9
 z9:=Tryz.sizeOf9
 v9:=Tryz.zeroValue9
 t37:=Tryz.underlying60
 a37:=Tryz.isAgg60
 z37:=Tryz.sizeOf60
 v37:=Tryz.zeroValue60
 t51:=Tryz.underlying29
 a51:=Tryz.isAgg29
 z51:=Tryz.sizeOf29
 v51:=Tryz.zeroValue29
 t53:=Tryz.underlying137
 a53:=Tryz.isAgg137
 z53:=Tryz.sizeOf137
 v53:=Tryz.zeroValue137 }
theorem Try.internal_strconv_formatBase10(blk off cap:Nat)(u:Nat)(d:Array UInt8)(w:World)(hH:Holds (λ(b:UInt8)=>Value.int .u8 (b.toNat:Int)) w blk off d)(hu:u<10 ^ d.size)(hu64:u<18446744073709551616)(hsz:d.size<4611686018427387904) :
 Calls Tryz.prog 154 #[.slice (some ⟨blk,off,none⟩) d.size cap,.int .u64 u] w λe w' =>
  e = .returned (.tuple #[])/\∃ (n v':Nat) (dk:Array UInt8),w'=(putRow (λ(b:UInt8)=>Value.int .u8 (b.toNat:Int)) w blk off dk).drewN n/\FmtInv d.size u 0 v' dk:=Any.internal_strconv_formatBase10 Try.lays285 blk off cap u d w hH hu hu64 hsz
def Try.lays143_ren:Go.Shelf.Ren:=⟨λ|143=>192|219=>97|217=>127|225=>128|224=>129|267=>130|266=>160|314=>161|n=>n,λ|9=>9|3=>3|4=>4|5=>5|46=>173|146=>209|51=>29|n=>n,λ|1=>0|n=>n⟩
theorem Try.lays143:Go.Proofs.Lays.n143 Tryz.prog Try.lays143_ren:={
 mixed:=by kernel_rfl
 f143:=Tryz.func192.trans (congrArg some (by kernel_rfl))
 f217:=Tryz.func127.trans (congrArg some (by kernel_rfl))
 f219:=Tryz.func97.trans (congrArg some (by kernel_rfl))
 f224:=Tryz.func129.trans (congrArg some (by kernel_rfl))
 f225:=Tryz.func128.trans (congrArg some (by kernel_rfl))
 f266:=Tryz.func160.trans (congrArg some (by kernel_rfl))
 f267:=Tryz.func130.trans (congrArg some (by kernel_rfl))
 f314:=Tryz.func161.trans (congrArg some (by kernel_rfl))
 t3:=Tryz.underlying3
 a3:=Tryz.isAgg3
 z3:=Tryz.sizeOf3
 v3:=Tryz.zeroValue3
 t4:=Tryz.underlying4
 a4:=Tryz.isAgg4
 z4:=Tryz.sizeOf4
 v4:=Tryz.zeroValue4
 t5:=Tryz.underlying5
 a5:=Tryz.isAgg5
 z5:=Tryz.sizeOf5
 v5:=Tryz.zeroValue5
 t9:=Tryz.underlying9
 a9:=Tryz.isAgg9
 z9:=Tryz.sizeOf9
 v9:=Tryz.zeroValue9
 t46:=Tryz.underlying173
 a46:=Tryz.isAgg173
 z46:=Tryz.sizeOf173
 v46:=Tryz.zeroValue173
 t51:=Tryz.underlying29
 a51:=Tryz.isAgg29
 z51:=Tryz.sizeOf29
 v51:=Tryz.zeroValue29
 t146:=Tryz.underlying209
 a146:=Tryz.isAgg209
 z146:=Tryz.sizeOf209
 v146:=Tryz.zeroValue209
 g1:=by kernel_rfl }
theorem Try.strings_Index_one(s:ByteArray)(c:UInt8)(w:World) :
 Calls Tryz.prog 192 #[.string s,.string ⟨#[c]⟩] w λe w'=>e = .returned (.int .i64 (Lib.indexByte s.data.toList c))/\w'=w:=Any.strings_Index_one Try.lays143 s c w
def Try.laysPu14_ren:Go.Shelf.Ren:=⟨λ|14=>99|16=>133|17=>134|19=>163|20=>164|21=>165|22=>166|23=>167|24=>168|25=>187|27=>189|26=>188|28=>204|29=>213|30=>152|31=>153|32=>154|33=>155|35=>181|34=>180|36=>182|37=>183|38=>184|39=>202|40=>203|n=>n,λ|9=>9|3=>3|22=>137|24=>70|25=>147|4=>4|34=>211|5=>5|36=>173|37=>60|0=>0|39=>212|21=>21|44=>231|47=>105|50=>242|48=>240|2=>2|52=>204|55=>207|59=>225|60=>29|20=>20|61=>226|65=>248|66=>249|67=>74|n=>n,λ|0=>2|1=>3|2=>1|3=>4|4=>5|n=>n⟩
theorem Try.laysPu14:Go.Proofs.LaysPu.n14 Tryz.prog Try.laysPu14_ren:={
 mixed:=by kernel_rfl
 f14:=Tryz.func99.trans (congrArg some (by kernel_rfl))
 f16:=Tryz.func133.trans (congrArg some (by kernel_rfl))
 f17:=Tryz.func134.trans (congrArg some (by kernel_rfl))
 f19:=Tryz.func163.trans (congrArg some (by kernel_rfl))
 f20:=Tryz.func164.trans (congrArg some (by kernel_rfl))
 f21:=Tryz.func165.trans (congrArg some (by kernel_rfl))
 f22:=Tryz.func166.trans (congrArg some (by kernel_rfl))
 f23:=Tryz.func167.trans (congrArg some (by kernel_rfl))
 f24:=Tryz.func168.trans (congrArg some (by kernel_rfl))
 f25:=Tryz.func187.trans (congrArg some (by kernel_rfl))
 f26:=Tryz.func188.trans (congrArg some (by kernel_rfl))
 f27:=Tryz.func189.trans (congrArg some (by kernel_rfl))
 f28:=Tryz.func204.trans (congrArg some (by kernel_rfl))
 f29:=Tryz.func213.trans (congrArg some (by kernel_rfl))
 f30:=Tryz.func152.trans (congrArg some (by kernel_rfl))
 f31:=Tryz.func153.trans (congrArg some (by kernel_rfl))
 f32:=Tryz.func154.trans (congrArg some (by kernel_rfl))
 f33:=Tryz.func155.trans (congrArg some (by kernel_rfl))
 f34:=Tryz.func180.trans (congrArg some (by kernel_rfl))
 f35:=Tryz.func181.trans (congrArg some (by kernel_rfl))
 f36:=Tryz.func182.trans (congrArg some (by kernel_rfl))
 f37:=Tryz.func183.trans (congrArg some (by kernel_rfl))
 f38:=Tryz.func184.trans (congrArg some (by kernel_rfl))
 f39:=Tryz.func202.trans (congrArg some (by kernel_rfl))
 f40:=Tryz.func203.trans (congrArg some (by kernel_rfl))
 t0:=Tryz.underlying0
 a0:=Tryz.isAgg0
 z0:=Tryz.sizeOf0
 v0:=Tryz.zeroValue0
 i0:=by kernel_rfl
 t2:=Tryz.underlying2
 a2:=Tryz.isAgg2
 z2:=Tryz.sizeOf2
 v2:=Tryz.zeroValue2
 i2:=by kernel_rfl
 t3:=Tryz.underlying3
 a3:=Tryz.isAgg3
 z3:=Tryz.sizeOf3
 v3:=Tryz.zeroValue3
 i3:=by kernel_rfl
 t4:=Tryz.underlying4
 a4:=Tryz.isAgg4
 z4:=Tryz.sizeOf4
 v4:=Tryz.zeroValue4
 i4:=by kernel_rfl
 t5:=Tryz.underlying5
 a5:=Tryz.isAgg5
 z5:=Tryz.sizeOf5
 v5:=Tryz.zeroValue5
 i5:=by kernel_rfl
 t9:=Tryz.underlying9
 a9:=Tryz.isAgg9
 z9:=Tryz.sizeOf9
 v9:=Tryz.zeroValue9
 i9:=by kernel_rfl
 t20:=Tryz.underlying20
 a20:=Tryz.isAgg20
 z20:=Tryz.sizeOf20
 v20:=Tryz.zeroValue20
 i20:=by kernel_rfl
 t21:=Tryz.underlying21
 a21:=Tryz.isAgg21
 z21:=Tryz.sizeOf21
 v21:=Tryz.zeroValue21
 i21:=by kernel_rfl
 t22:=Tryz.underlying137
 a22:=Tryz.isAgg137
 z22:=Tryz.sizeOf137
 v22:=Tryz.zeroValue137
 i22:=by kernel_rfl
 t24:=Tryz.underlying70
 a24:=Tryz.isAgg70
 z24:=Tryz.sizeOf70
 v24:=Tryz.zeroValue70
 i24:=by kernel_rfl
 t25:=Tryz.underlying147
 a25:=Tryz.isAgg147
 z25:=Tryz.sizeOf147
 v25:=Tryz.zeroValue147
 i25:=by kernel_rfl
 t34:=Tryz.underlying211
 a34:=Tryz.isAgg211
 z34:=Tryz.sizeOf211
 v34:=Tryz.zeroValue211
 i34:=by kernel_rfl
 c34:=by kernel_rfl
 t36:=Tryz.underlying173
 a36:=Tryz.isAgg173
 z36:=Tryz.sizeOf173
 v36:=Tryz.zeroValue173
 i36:=by kernel_rfl
 t37:=Tryz.underlying60
 a37:=Tryz.isAgg60
 z37:=Tryz.sizeOf60
 v37:=Tryz.zeroValue60
 i37:=by kernel_rfl
 t39:=Tryz.underlying212
 a39:=Tryz.isAgg212
 z39:=Tryz.sizeOf212
 v39:=Tryz.zeroValue212
 i39:=by kernel_rfl
 t44:=Tryz.underlying231
 a44:=Tryz.isAgg231
 z44:=Tryz.sizeOf231
 v44:=Tryz.zeroValue231
 i44:=by kernel_rfl
 t47:=Tryz.underlying105
 a47:=Tryz.isAgg105
 z47:=Tryz.sizeOf105
 v47:=Tryz.zeroValue105
 i47:=by kernel_rfl
 t48:=Tryz.underlying240
 a48:=Tryz.isAgg240
 z48:=Tryz.sizeOf240
 v48:=Tryz.zeroValue240
 i48:=by kernel_rfl
 t50:=Tryz.underlying242
 a50:=Tryz.isAgg242
 z50:=Tryz.sizeOf242
 v50:=Tryz.zeroValue242
 i50:=by kernel_rfl
 t52:=Tryz.underlying204
 a52:=Tryz.isAgg204
 z52:=Tryz.sizeOf204
 v52:=Tryz.zeroValue204
 i52:=by kernel_rfl
 t55:=Tryz.underlying207
 a55:=Tryz.isAgg207
 z55:=Tryz.sizeOf207
 v55:=Tryz.zeroValue207
 i55:=by kernel_rfl
 t59:=Tryz.underlying225
 a59:=Tryz.isAgg225
 z59:=Tryz.sizeOf225
 v59:=Tryz.zeroValue225
 i59:=by kernel_rfl
 t60:=Tryz.underlying29
 a60:=Tryz.isAgg29
 z60:=Tryz.sizeOf29
 v60:=Tryz.zeroValue29
 i60:=by kernel_rfl
 t61:=Tryz.underlying226
 a61:=Tryz.isAgg226
 z61:=Tryz.sizeOf226
 t65:=Tryz.underlying248
 a65:=Tryz.isAgg248
 z65:=Tryz.sizeOf248
 v65:=Tryz.zeroValue248
 i65:=by kernel_rfl
 t66:=Tryz.underlying249
 a66:=Tryz.isAgg249
 z66:=Tryz.sizeOf249
 v66:=Tryz.zeroValue249
 i66:=by kernel_rfl
 t67:=Tryz.underlying74
 a67:=Tryz.isAgg74
 z67:=Tryz.sizeOf74
 v67:=Tryz.zeroValue74
 i67:=by kernel_rfl
 g0:=by kernel_rfl
 m0:=by kernel_rfl
 g1:=by kernel_rfl
 m1:=by kernel_rfl
 g2:=by kernel_rfl
 m2:=by kernel_rfl
 g3:=by kernel_rfl
 m3:=by kernel_rfl
 g4:=by kernel_rfl
 m4:=by kernel_rfl }
theorem Try.strconv_ParseUint_10_at32_ok(s:ByteArray)(hmax:s.size<=9223372036854775806)(u:Nat)(h:Lib.parseUintB 32 s.data.toList = .ok u)(w:World) :
 Calls Tryz.prog 99 #[.string s,.int .i64 10,.int .i64 32] w λe w'=>e = .returned (.tuple #[.int .u64 u,.nilIface])/\(w'=w\/w'=Lib.bytesWorld w 5 s):=Any.strconv_ParseUint_10_at32_ok Try.laysPu14 s hmax u h w
theorem Try.strconv_ParseUint_10_at32_syntax(s:ByteArray)(hlim:s.size<=281474976710656)(h:Lib.parseUintB 32 s.data.toList=Lib.parseUintB 32 [])(ev:Value)(w:World)(hv:w.cell? ⟨2,0,none⟩=some ev)(hev:ev = .nilIface\/∃ te pe,ev = .iface te pe) :
 Calls Tryz.prog 99 #[.string s,.int .i64 10,.int .i64 32] w λe w'=>∃ N,e = .returned (.tuple #[.int .u64 0,.iface 212 (.pointer (some ⟨N,0,none⟩))])/\w.heap.size<=N/\w'.heap[N]? = some (.cells #[.string ⟨#[80,97,114,115,101,85,105,110,116]⟩,.string s,ev] 231 (0,0))/\Below w.heap.size w w':=Any.strconv_ParseUint_10_at32_syntax Try.laysPu14 s hlim h ev w hv hev
theorem Try.strconv_ParseUint_10_at32_range(s:ByteArray)(hlim:s.size<=281474976710656)(h:Lib.parseUintB 32 s.data.toList = .range)(ev:Value)(w:World)(hv:w.cell? ⟨3,0,none⟩=some ev)(hev:ev = .nilIface\/∃ te pe,ev = .iface te pe) :
 Calls Tryz.prog 99 #[.string s,.int .i64 10,.int .i64 32] w λe w'=>∃ N,e = .returned (.tuple #[.int .u64 4294967295,.iface 212 (.pointer (some ⟨N,0,none⟩))])/\w.heap.size<=N/\w'.heap[N]? = some (.cells #[.string ⟨#[80,97,114,115,101,85,105,110,116]⟩,.string s,ev] 231 (0,0))/\Below w.heap.size w w':=Any.strconv_ParseUint_10_at32_range Try.laysPu14 s hlim h ev w hv hev
theorem Try.strconv_ParseUint_10_at16_ok(s:ByteArray)(hmax:s.size<=9223372036854775806)(u:Nat)(h:Lib.parseUintB 16 s.data.toList = .ok u)(w:World) :
 Calls Tryz.prog 99 #[.string s,.int .i64 10,.int .i64 16] w λe w'=>e = .returned (.tuple #[.int .u64 u,.nilIface])/\(w'=w\/w'=Lib.bytesWorld w 5 s):=Any.strconv_ParseUint_10_at16_ok Try.laysPu14 s hmax u h w
theorem Try.strconv_ParseUint_10_at16_syntax(s:ByteArray)(hlim:s.size<=281474976710656)(h:Lib.parseUintB 16 s.data.toList=Lib.parseUintB 16 [])(ev:Value)(w:World)(hv:w.cell? ⟨2,0,none⟩=some ev)(hev:ev = .nilIface\/∃ te pe,ev = .iface te pe) :
 Calls Tryz.prog 99 #[.string s,.int .i64 10,.int .i64 16] w λe w'=>∃ N,e = .returned (.tuple #[.int .u64 0,.iface 212 (.pointer (some ⟨N,0,none⟩))])/\w.heap.size<=N/\w'.heap[N]? = some (.cells #[.string ⟨#[80,97,114,115,101,85,105,110,116]⟩,.string s,ev] 231 (0,0))/\Below w.heap.size w w':=Any.strconv_ParseUint_10_at16_syntax Try.laysPu14 s hlim h ev w hv hev
theorem Try.strconv_ParseUint_10_at16_range(s:ByteArray)(hlim:s.size<=281474976710656)(h:Lib.parseUintB 16 s.data.toList = .range)(ev:Value)(w:World)(hv:w.cell? ⟨3,0,none⟩=some ev)(hev:ev = .nilIface\/∃ te pe,ev = .iface te pe) :
 Calls Tryz.prog 99 #[.string s,.int .i64 10,.int .i64 16] w λe w'=>∃ N,e = .returned (.tuple #[.int .u64 65535,.iface 212 (.pointer (some ⟨N,0,none⟩))])/\w.heap.size<=N/\w'.heap[N]? = some (.cells #[.string ⟨#[80,97,114,115,101,85,105,110,116]⟩,.string s,ev] 231 (0,0))/\Below w.heap.size w w':=Any.strconv_ParseUint_10_at16_range Try.laysPu14 s hlim h ev w hv hev
end Go.Proofs
namespace Go.Proofs.YtoefgnnkajhmiaaGreatDoor
open Go Go.Eng
theorem xj4{w:World}{M:Nat->Prop}{b:Bool}{n sz:Nat}{f:Nat->List DV}{v:Value}(h:Rd w M (.sl b n sz f) v):(n=0/\v = .slice none 0 0)\/∃ (ad:Addr) (cap:Nat) (u:Nat->Nat->Value),v = .slice (some ad) n cap/\n<=cap /\
 (0<n->ad.block<w.heap.size/\¬ M ad.block)/\(∀ (i j:Nat) (d:DV),i<n->(f i)[j]? = some d->w.cell? (ad.add (i * sz+j))=some (u i j))/\(∀ (i j:Nat) (d:DV),i<n->(f i)[j]? = some d->Rd w M d (u i j)):=by
 cases h with
 |nil=>exact .inl ⟨rfl,rfl⟩
 |sl _ _ _ ad cap u g1 g3 g4 g5 g6=>exact .inr ⟨ad,cap,u,rfl,g1,g3,g5,g6⟩
theorem yy9(b:Bool)(l:List Ls)(sep:Ls)(hn:l.length<=140737488355328)(hj:(Lib.join l sep).length<=140737488355328):FnOk Tryz.prog 85 [.d (.sl b l.length 1 (strs l)),.d (.str sep)] (.d (.str (Lib.join l sep))):=by
 refine⟨qb Tryz.func85 (by kernel_rfl) rfl,λM w vs _ hM hl hd=>?_⟩
 match vs,hl with
 |[v0,v1],_ =>
  have h0:=jj (hd 0 _ v0 rfl rfl);have h1:=y9 (hd 1 _ v1 rfl rfl);subst h1;rcases xj4 h0 with⟨hl0,rfl⟩|⟨ad,cap,u,rfl,g1,g3,g5,g6⟩
  ·have:l=[]:=dq hl0;subst this;refine(Try.strings_Join_none none 0 ⟨sep.toArray⟩ w).mono ?_;rintro e w' ⟨rfl,rfl⟩;exact⟨_,rfl,Step.refl _ _,.d (.str _)⟩
  ·by_cases hz:l=[]
   ·subst hz;refine(Try.strings_Join_none (some ad) cap ⟨sep.toArray⟩ w).mono ?_;rintro e w' ⟨rfl,rfl⟩;exact⟨_,rfl,Step.refl _ _,.d (.str _)⟩
   ·have hpos:0<l.length:=g9.2 hz;obtain⟨hb,_⟩:=g3 hpos;have hu:∀ i,i<l.length->u i 0=strV (l[i]?.getD []):=λi hi=>by
     have:=g6 i 0 (.str (l[i]?.getD [])) hi rfl;exact y9 (β:=noE) (.d this)
    have hc0:=g5 0 0 (.str (l[0]?.getD [])) hpos rfl;have hspot:ad.spot=none:=by
     rw [show ad.add (0 * 1+0)=ad from rfl] at hc0;unfold World.cell? at hc0;split at hc0
     ·cases hs:ad.spot with
      |none=>rfl
      |some _=>simp [hs] at hc0
     ·cases hc0
    obtain⟨bk,o,sp⟩:=ad;simp only at hspot hb;subst hspot;have:=Try.strings_Join bk o cap (l.map λx=>⟨x.toArray⟩) ⟨sep.toArray⟩ w (λj x hx=>by
     rw [mw,f6] at hx;obtain⟨y,hy,rfl⟩:=hx;have hj:j<l.length:=(p6.1 hy).1;have h5:=g5 j 0 (.str (l[j]?.getD [])) hj rfl;rw [hu j hj,ym,hy] at h5;simpa[strV] using h5) hb (by simpa using hn) (by simpa using g1) (by
      simp only[f7,Function.comp_def,r7,List.map_id'];exact hj)
    simp only [mq,f7,Function.comp_def,r7,List.map_id'] at this;refine this.mono ?_;rintro e w' ⟨rfl,hw⟩;exact⟨_,rfl,Step.of_below _ hw,.d (.str _)⟩
def z7(t:Int)(s:Ls):Option ((Nat × Nat × Nat) × (Ls × List Ls × Ls)) :=
 if s.length<=4096 then (ji t).bind λp=>(cutF p.1 p.2.1 p.2.2 s).map λq=>(p,q) else none
def kc0:Option ((Nat × Nat × Nat) × (Ls × List Ls × Ls))->SV
 |none=>.tup [.agg [.any,.any,.any],yy3,.d .ff]
 |some (p,x,l,r)=>.tup [jv6 p,zc9 x l r,.d .tt]
theorem xs6(t:Int)(s:Ls):FnOk Tryz.prog 116 [.d (.int .u16 t),.d (.str s)] (kc0 (z7 t s)):=by
 refine qi (TT:=TT) (IN:=qd []) qe qg mixed 1000 Tryz.func116 rfl (qb Tryz.func116 (by kernel_rfl) rfl) rfl 32 (by kernel_rfl) ?_;conv=>whnf
 refine .one (.data _ (yn6 t) rfl ?_ ?_)
 ·cases ji t <;> rfl
 cases hf:ji t with
 |none =>
  have e:z7 t s=none:=by unfold z7;rw[hf];split <;> rfl
  rw[e];exact rY1
 |some p =>
  obtain⟨f1,f2,f3⟩:=qs3 hf;conv=>whnf
  refine⟨λhgt=>?_,λhle=>?_⟩
  ·have e:z7 t s=none:=by unfold z7;rw [if_neg (by simp at hgt;omega)]
   rw[e];exact rY1
  ·have e:z7 t s=(cutF p.1 p.2.1 p.2.2 s).map λq=>(p,q):=by unfold z7;rw [if_pos (by simp at hle;omega),hf];rfl
   rw[e];conv=>whnf
   refine .one (.data _ (zd8 p.1 p.2.1 p.2.2 f1 f2 f3 s) rfl ?_ ?_)
   ·cases cutF p.1 p.2.1 p.2.2 s <;> rfl
   cases hc:cutF p.1 p.2.1 p.2.2 s with
   |none =>
    conv=>whnf
    (apply Exists.intro;apply Exists.intro;apply And.intro;focus ((conv=>whnf);repeat'(first|exact ⟨⟩|exact rfl|apply And.intro)))
    exact rY1
   |some q =>
    conv=>whnf
    (apply Exists.intro;apply Exists.intro;apply And.intro;focus ((conv=>whnf);repeat'(first|exact ⟨⟩|exact rfl|apply And.intro)))
    exact rY1
def xj(t:Int)(s:Ls):Ls:=match z7 t s with
 |none=>s
 |some (_,x,l,r)=>x++fold (Lib.join l [])++r
theorem jc7(l:List Ls):Lib.join l []=l.flatten:=by
 induction l with
 |nil=>rfl
 |cons a l ih=>cases l with
  |nil=>simp[Lib.join]
  |cons b l=>simp [Lib.join] at ih ⊢;rw [ih]
theorem yf7:∀ (n:Nat) (s:Ls) (l:List Ls) (r:Ls),kg n s=some (l,r)->l.length=n/\l.flatten.length+r.length=s.length:=by
 intro n;induction n with
 |zero=>intro s l r h;simp only [kg,gu,Prod.mk.injEq] at h;obtain ⟨rfl,rfl⟩:=h;simp
 |succ n ih =>
  intro s l r h;simp only [kg] at h;split at h
  ·cases h
  ·cases hn:kg n (s.drop (jr s)) with
   |none=>rw [hn] at h;cases h
   |some p =>
    rw [hn] at h;simp only [l7,gu,Prod.mk.injEq] at h;obtain⟨rfl,rfl⟩:=h;obtain⟨h1,h2⟩:=ih _ p.1 p.2 hn;have:=jb7 s;refine⟨by simp[h1],?_⟩;simp only [List.flatten_cons,pq,o4,ou] at h2 ⊢;omega
theorem xc3{t:Int}{s:Ls}{p:Nat × Nat × Nat}{x:Ls}{l:List Ls}{r:Ls}(h:z7 t s=some (p,x,l,r)):s.length<=4096/\l.length<=100/\x.length+l.flatten.length+r.length=s.length:=by
 unfold z7 at h;split at h
 ·rename_i hs;cases hf:ji t with
  |none=>rw [hf] at h;cases h
  |some q =>
   rw [hf] at h;simp only [dt] at h;cases hc:cutF q.1 q.2.1 q.2.2 s with
   |none=>rw [hc] at h;cases h
   |some c =>
    rw [hc] at h;simp only [l7,gu,Prod.mk.injEq] at h;obtain⟨rfl,rfl⟩:=h;unfold cutF at hc;split at hc
    ·cases hc
    ·cases hn:kg q.2.1 (s.drop (2 * q.1)) with
     |none=>rw [hn] at hc;cases hc
     |some y =>
      rw [hn] at hc;simp only [dt] at hc;split at hc
      ·simp only [gu,Prod.mk.injEq] at hc;obtain⟨rfl,rfl,rfl⟩:=hc;obtain⟨h1,h2⟩:=yf7 _ _ y.1 y.2 hn;have:=(qs3 hf).2.1;refine⟨hs,om,?_⟩;simp only [o4,ou] at h2 ⊢;omega
      ·cases hc
 ·cases h
theorem xi9(t:Int)(s:Ls):FnOk Tryz.prog 80 [.d (.int .u16 t),.d (.str s)] (.d (.str (xj t s))):=by
 refine qi (TT:=TT) (IN:=qd []) qe qg mixed 1000 Tryz.func80 rfl (qb Tryz.func80 (by kernel_rfl) rfl) rfl 26 (by kernel_rfl) ?_;conv=>whnf
 refine .one (.data _ (xs6 t s) rfl ?_ ?_)
 ·cases z7 t s <;> rfl
 cases hf:z7 t s with
 |none =>
  have e:xj t s=s:=by unfold xj;rw[hf]
  rw[e];conv=>whnf
 |some p =>
  obtain⟨p,x,l,r⟩:=p;obtain⟨h1,h2,h3⟩:=xc3 hf;have e:xj t s=x++fold (Lib.join l [])++r:=by unfold xj;rw[hf]
  rw[e];conv=>whnf
  refine .data _ (yy9 _ l [] om (by rw[jc7];omega)) rfl rfl ?_;conv=>whnf
  refine .data _ (ke _ (by rw[jc7];omega)) rfl rfl ?_;have hfl:(fold (Lib.join l [])).length=l.flatten.length:=by rw[jc7];simp only[fold,mq]
  conv=>whnf
  refine⟨om,?_⟩;conv=>whnf
  refine⟨by simp only[pq];omega,?_⟩;conv=>whnf
def qp(a b:Ls):Bool:=decide (qa a) && (decide (qa b) && fold a == fold b)
theorem jp7(s:Ls):(fold s).length=s.length:=by simp[fold]
theorem qy2{s:Ls}(h:qa s):s.length<9223372036854775808:=by have:=h.2.1;omega
def okL(l:Ls):Prop:=1<=l.length/\l.length<=63
def lab(l:Ls):Ls:=UInt8.ofNat l.length :: l
def mk:List Ls->Ls
 |[]=>[0]
 |l :: ls=>lab l++mk ls
theorem qf8(s:Ls)(k j:Nat):bt (s.drop k) j=bt s (k+j):=by simp[bt]
theorem ym1(s:Ls)(k:Nat):more s k↔more (s.drop k) 0:=by
 unfold more;rw[qf8,d6,ou];omega
theorem ja3:∀ (m:Nat) (s:Ls) (k:Nat),ku s m k=k+ku (s.drop k) m 0
 |0,s,k=>rfl
 |m+1,s,k=>by
  simp only[ku];by_cases h:more s k
  ·rw[if_pos h,if_pos ((ym1 s k).1 h),ja3 m s,ja3 m (s.drop k),qf8,gx,show k+0=k from rfl];have e:k+(0+1+bt s k)=k+1+bt s k:=om
   rw[e];omega
  ·rw[if_neg h,if_neg (λe=>h ((ym1 s k).2 e))]
   rfl
theorem qq5{n:Nat}(h:n<256):(UInt8.ofNat n).toNat=n:=by
 rw[UInt8.toNat_ofNat'];exact rq h
theorem v6(l t:Ls)(h:okL l):bt (lab l++t) 0=l.length:=by
 simp only[bt,lab,gz,bx,d7];exact qq5 (by have:=h.2;omega)
theorem xm(l:Ls):(lab l).length=1+l.length:=by simp[lab];omega
theorem qj6(ls:List Ls):0<(mk ls).length:=by cases ls <;> simp[mk,lab]
theorem qt6(l t:Ls):(lab l++t).drop (1+l.length)=t:=by
 rw[<-xm l,rt]
theorem yq6(l t:Ls):(lab l++t).take (1+l.length)=lab l:=by
 rw[<-xm l,List.take_left]
theorem yy4:∀ (m:Nat) (s:Ls),0<s.length->ku s m 0=s.length - 1->bt s (s.length - 1)=0->∃ ls,(∀ l ∈ ls,okL l)/\s=mk ls
 |m,s,h0,h1,h2=>by
  have leaf:s.length=1->∃ ls,(∀ l ∈ ls,okL l)/\s=mk ls:=λhl=>by
   match s,hl with
   |[b],_ =>
    refine⟨[],(λl h=>by cases h),?_⟩;have:b.toNat=0:=by simpa[bt] using h2
    rw[mk,UInt8.toNat_inj.1 (show b.toNat=(0:UInt8).toNat from this)]
  cases m with
  |zero=>exact leaf (by simp [ku] at h1;omega)
  |succ m =>
   simp only [ku] at h1;split at h1
   ·rename_i hm;obtain⟨a1,a2,a3,a4⟩:=hm;rw [ja3] at h1;have hb:1+bt s 0<s.length:=om
    obtain⟨ls,i1,i2⟩:=yy4 m (s.drop (0+1+bt s 0)) (by rw[ou];omega) (by rw[ou];omega) (by
     rw[qf8,ou,show 0+1+bt s 0+(s.length - (0+1+bt s 0) - 1)=s.length - 1 by omega];exact h2)
    refine⟨(s.drop 1).take (bt s 0) :: ls,λl hl=>?_,?_⟩
    ·rcases pz.1 hl with rfl|hl
     ·have:((s.drop 1).take (bt s 0)).length=bt s 0:=by simp;omega
      unfold okL;omega
     ·exact i1 l hl
    ·rw[mk,<-i2];have hlen:((s.drop 1).take (bt s 0)).length=bt s 0:=by simp;omega
     unfold lab;rw[hlen];match s,a1 with
     |b :: r,_ =>
      have e:bt (b :: r) 0=b.toNat:=by simp[bt]
      rw[e];simp[show 0+1+b.toNat=b.toNat+1 by omega]
   ·exact leaf om
theorem xo2(ls:List Ls)(h:∀ l ∈ ls,okL l):∀ m,(mk ls).length<=m->ku (mk ls) m 0=(mk ls).length - 1:=by
 induction ls with
 |nil =>
  intro m hm;cases m with
  |zero=>rfl
  |succ m =>
   show(if more [0] 0 then ku [0] m (0+1+bt [0] 0) else 0)=0;exact if_neg (by rintro ⟨_,h2,_⟩;exact h2 rfl)
 |cons l ls ih =>
  intro m hm;have hl:=h l (l6 ..);have hb:=v6 l (mk ls) hl;have hlen:(mk (l :: ls)).length=1+l.length+(mk ls).length:=by simp[mk,xm]
  have hp:=qj6 ls;cases m with
  |zero=>omega
  |succ m =>
   simp only[ku];show(if more (mk (l :: ls)) 0 then ku (mk (l :: ls)) m (0+1+bt (mk (l :: ls)) 0) else 0)=_;have hbm:bt (mk (l :: ls)) 0=l.length:=hb;rw[if_pos ⟨om,by rw[hbm];have:=hl.1;omega,by rw[hbm];exact hl.2,by rw[hbm];omega⟩,hbm,ja3,o5];have:(mk (l :: ls)).drop (1+l.length)=mk ls:=qt6 l (mk ls);rw[this,ih (λx hx=>h x (gt _ hx)) m om];omega
theorem xt3(ls:List Ls):bt (mk ls) ((mk ls).length - 1)=0:=by
 induction ls with
 |nil=>rfl
 |cons l ls ih =>
  have hlen:(mk (l :: ls)).length=1+l.length+(mk ls).length:=by simp[mk,xm]
  have hp:=qj6 ls;have e:(mk (l :: ls)).drop (1+l.length)=mk ls:=qt6 l (mk ls);have:=qf8 (mk (l :: ls)) (1+l.length) ((mk ls).length - 1);rw [e,ih] at this;rw[hlen,show 1+l.length+(mk ls).length - 1=1+l.length+((mk ls).length - 1) by omega];exact this.symm
theorem qr7(s:Ls):qa s↔s.length<=255/\∃ ls,(∀ l ∈ ls,okL l)/\s=mk ls:=by
 constructor
 ·rintro ⟨h1,h2,h3,h4⟩
  exact⟨h2,yy4 s.length s h1 h3 (by rw[<-h3];exact h4)⟩
 ·rintro ⟨h1,ls,h2,rfl⟩
  have:=xo2 ls h2 (mk ls).length (pu _);exact⟨qj6 ls,h1,this,by unfold qv9;rw[this];exact xt3 ls⟩
theorem qv8:∀ {a b:List Ls},(∀ l ∈ a,okL l)->(∀ l ∈ b,okL l)->mk a=mk b->a=b
 |[],[],_,_,_=>rfl
 |[],l :: b,_,hb,h=>by
  have h1:=hb l (l6 ..);have:=v6 l (mk b) h1;rw [show lab l++mk b=mk (l :: b) from rfl,<-h] at this;have h2:=h1.1;have:(0:Nat)=l.length:=this;omega
 |l :: a,[],ha,_,h=>by
  have h1:=ha l (l6 ..);have:=v6 l (mk a) h1;rw [show lab l++mk a=mk (l :: a) from rfl,h] at this;have h2:=h1.1;have:(0:Nat)=l.length:=this;omega
 |l :: a,k :: b,ha,hb,h=>by
  have h1:=v6 l (mk a) (ha l (l6 ..));have h2:=v6 k (mk b) (hb k (l6 ..));have hlen:l.length=k.length:=by
   rw[<-h1,<-h2];show bt (mk (l :: a)) 0=bt (mk (k :: b)) 0;rw[h]
  have e1:lab l=lab k:=by
   have:=congrArg (List.take (1+l.length)) h;rw [show mk (l :: a)=lab l++mk a from rfl,yq6,hlen,show mk (k :: b)=lab k++mk b from rfl,yq6] at this;exact this
  have e2:mk a=mk b:=by
   have:=congrArg (List.drop (1+l.length)) h;rw [show mk (l :: a)=lab l++mk a from rfl,qt6,hlen,show mk (k :: b)=lab k++mk b from rfl,qt6] at this;exact this
  have e3:l=k:=(lz e1).2;rw[e3,qv8 (λx hx=>ha x (gt _ hx)) (λx hx=>hb x (gt _ hx)) e2]
def labs:List Ls->Ls
 |[]=>[]
 |l :: ls=>lab l++labs ls
theorem jj9(a b:List Ls):labs (a++b)=labs a++labs b:=by
 induction a with
 |nil=>rfl
 |cons l a ih=>simp[labs,ih]
theorem x9(a:List Ls):labs a++[0]=mk a:=by
 induction a with
 |nil=>rfl
 |cons l a ih=>simp[labs,mk,<-ih]
theorem ql6(ls:List Ls)(l:Ls):labs (ls++[l])=labs ls++lab l:=by
 rw[jj9];simp[labs]
theorem zq1(s:Ls):∀ m k,km s m k≠0->qa (s.take (km s m k)):=by
 intro m;induction m with
 |zero=>intro k h;exact absurd rfl h
 |succ m ih =>
  intro k h;simp only [km] at h ⊢;split at h
  ·rename_i h1;rw[if_pos h1];split at h
   ·rename_i h2;rw[if_pos h2];split at h
    ·rename_i h3;rw[if_pos h3];exact h3
    ·exact absurd rfl h
   ·rename_i h2;rw[if_neg h2];exact ih _ h
  ·exact absurd rfl h
theorem qy7:∀ (l:List Ls),l.length<=(labs l).length
 |[]=>pu _
 |x :: l=>by
  show l.length+1<=(lab x++labs l).length;rw[pq,xm];have:=qy7 l;omega
def u3:Nat->Ls->Option (List Ls)
 |0,_=>none
 |m+1,r=>if r.length=0 then none else if bt r 0=0 then (if r.length=1 then some [] else none) else
  if bt r 0 > 63\/1+bt r 0 > r.length then none else (u3 m (r.drop (1+bt r 0))).map (λls=>(r.drop 1).take (bt r 0) :: ls)
def ja(s:Ls):Option (List Ls):=if s.length > 255 then none else u3 (s.length+1) s
theorem qy0(l:Ls)(ls:List Ls):(mk (l :: ls)).length=1+l.length+(mk ls).length:=by simp[mk,xm]
theorem yj4:∀ (m:Nat) (r:Ls) (ls:List Ls),u3 m r=some ls->(∀ l ∈ ls,okL l)/\r=mk ls
 |0,_,_,h=>by cases h
 |m+1,r,ls,h=>by
  unfold u3 at h;split at h
  ·cases h
  ·rename_i h0;split at h
   ·rename_i h1;split at h
    ·rename_i h2;cases h;refine⟨λl hl=>(by cases hl),?_⟩
     match r,h2 with
     |[b],_ =>
      have:b.toNat=0:=by simpa[bt] using h1
      rw[mk,UInt8.toNat_inj.1 (show b.toNat=(0:UInt8).toNat from this)]
    ·cases h
   ·rename_i h1;split at h
    ·cases h
    ·rename_i h2;obtain⟨ks,hk,rfl⟩:=f6.1 h;obtain⟨a1,a2⟩:=yj4 m _ ks hk;have hlen:((r.drop 1).take (bt r 0)).length=bt r 0:=by simp;omega
     refine⟨λl hl=>?_,?_⟩
     ·rcases pz.1 hl with rfl|hl
      ·unfold okL;omega
      ·exact a1 l hl
     ·rw[mk,<-a2];unfold lab;rw[hlen];match r,h0 with
      |b :: r,_ =>
       have e:bt (b :: r) 0=b.toNat:=by simp[bt]
       rw[e];simp[show 1+b.toNat=b.toNat+1 by omega]
theorem yj3:∀ (ls:List Ls) (m:Nat),(∀ l ∈ ls,okL l)->(mk ls).length<=m->u3 m (mk ls)=some ls
 |[],m,_,hm=>by
  cases m with
  |zero =>
   have:(mk []).length=1:=rfl;omega
  |succ m=>rfl
 |l :: ls,m,h,hm=>by
  have hl:=h l (l6 ..);have hlen:=qy0 l ls;have hp:=qj6 ls;cases m with
  |zero=>omega
  |succ m =>
   have hb:bt (mk (l :: ls)) 0=l.length:=v6 l (mk ls) hl;have h1:=hl.1;have h2:=hl.2;unfold u3;rw[if_neg om,hb,if_neg om,if_neg om];have hd:(mk (l :: ls)).drop (1+l.length)=mk ls:=qt6 l (mk ls);rw[hd,yj3 ls m (λx hx=>h x (gt _ hx)) om];show some ((((mk (l :: ls)).drop 1).take l.length) :: ls)=_;have:((mk (l :: ls)).drop 1)=l++mk ls:=rfl;rw[this,List.take_left]
theorem yb4{s:Ls}{ls:List Ls}(h:ja s=some ls):s.length<=255/\(∀ l ∈ ls,okL l)/\s=mk ls:=by
 unfold ja at h;split at h
 ·cases h
 ·exact⟨om,yj4 _ _ _ h⟩
theorem zp4{ls:List Ls}(h:∀ l ∈ ls,okL l)(hl:(mk ls).length<=255):ja (mk ls)=some ls:=by
 unfold ja;rw[if_neg om];exact yj3 ls _ h om
theorem wy(s:Ls):qa s↔(ja s).isSome=true:=by
 rw[qr7];constructor
 ·rintro ⟨h1,ls,h2,rfl⟩
  rw[zp4 h2 h1];rfl
 ·intro h;obtain⟨ls,hls⟩:=ru.1 h;obtain⟨h1,h2,h3⟩:=yb4 hls;exact⟨h1,ls,h2,h3⟩
def labN(n:Ls):List Ls:=(ja n).getD []
def fl(n:Ls):List Ls:=(labN n).map fold
theorem y5{n:Ls}(h:qa n):n.length<=255/\(∀ l ∈ labN n,okL l)/\n=mk (labN n):=by
 obtain⟨ls,e⟩:=ru.1 ((wy n).1 h);have:=yb4 e;unfold labN;rw[e];exact this
theorem qy8(s:Ls):(fold s).length=s.length:=by simp[fold]
theorem jo4{l:Ls}(h:okL l):okL (fold l):=by unfold okL at *;rw [qy8];exact h
theorem xc2{k:Nat}(h:k<=63):low (UInt8.ofNat k)=UInt8.ofNat k:=by
 apply UInt8.toNat_inj.1;rw[uz,qq5 om];rw[if_neg om]
theorem xn5{l:Ls}(h:okL l):fold (lab l)=lab (fold l):=by
 unfold lab;rw[qy8];show low (UInt8.ofNat l.length) :: fold l=_;rw[xc2 h.2]
theorem zp8(a b:Ls):fold (a++b)=fold a++fold b:=by unfold fold;rw[du]
theorem je8:∀ {ls:List Ls},(∀ l ∈ ls,okL l)->fold (mk ls)=mk (ls.map fold)
 |[],_=>rfl
 |l :: ls,h=>by
  show fold (lab l++mk ls)=lab (fold l)++mk (ls.map fold);rw[zp8,xn5 (h l sm),je8 (λx hx=>h x (by simp[hx]))]
theorem qx0{n:Ls}(h:qa n):∀ l ∈ fl n,okL l:=λl hl=>by
 obtain⟨x,hx,rfl⟩:=gv.1 hl;exact jo4 ((y5 h).2.1 x hx)
theorem u0{n:Ls}(h:qa n):fold n=mk (fl n):=by
 obtain⟨_,h2,h3⟩:=y5 h;conv=>lhs;rw[h3]
 exact je8 h2
def qj(ls:List Ls)(i:Nat):Nat:=(labs (ls.take i)).length
theorem qr0{ls:List Ls}{i:Nat}{l:Ls}(h:ls[i]? = some l):qj ls (i+1)=qj ls i+1+l.length:=by
 unfold qj;rw[o3,h];show(labs (ls.take i++[l])).length=_;rw[jj9,pq];show _+(lab l++[]).length=_;rw[m6,xm];omega
theorem je5:∀ (a b:List Ls),mk (a++b)=labs a++mk b
 |[],_=>rfl
 |l :: a,b=>by
  show lab l++mk (a++b)=(lab l++labs a)++mk b;rw[je5 a b,mp]
theorem jd0(ls:List Ls)(i:Nat):(mk ls).drop (qj ls i)=mk (ls.drop i):=by
 have e:mk ls=labs (ls.take i)++mk (ls.drop i):=by rw[<-je5,f9]
 unfold qj;conv=>lhs;rw[e]
 rw[rt]
theorem jf9(ls:List Ls)(i:Nat):qj ls i<(mk ls).length:=by
 have e:mk ls=labs (ls.take i)++mk (ls.drop i):=by rw[<-je5,f9]
 rw[e,pq];have:=qj6 (ls.drop i);unfold qj;omega
theorem yx9(ls:List Ls)(i:Nat):qj ls i+(mk (ls.drop i)).length=(mk ls).length:=by
 have e:mk ls=labs (ls.take i)++mk (ls.drop i):=by rw[<-je5,f9]
 conv=>rhs;rw[e]
 rw[pq];rfl
theorem jg3{ls:List Ls}(h:∀ l ∈ ls,okL l){i:Nat}{l:Ls}(hi:ls[i]? = some l):bt (mk ls) (qj ls i)=l.length:=by
 have hd:=jd0 ls i;have hlt:=(p6.1 hi).1;have e:ls.drop i=l :: ls.drop (i+1):=by
  rw[lu hlt,(p6.1 hi).2]
 have:=qf8 (mk ls) (qj ls i) 0;rw [d6] at this;rw[<-this,hd,e];exact v6 l (mk (ls.drop (i+1))) (h l (ov hi))
theorem jg4(ls:List Ls):bt (mk ls) (qj ls ls.length)=0:=by
 have hd:=jd0 ls ls.length;have:=qf8 (mk ls) (qj ls ls.length) 0;rw [d6] at this;rw[<-this,hd,f8];rfl
theorem jr7(ls:List Ls):qj ls ls.length+1=(mk ls).length:=by
 have:=yx9 ls ls.length;rw [f8] at this;exact this
theorem jo0{ls:List Ls}{i j:Nat}(h:i<j)(hj:j<=ls.length):qj ls i<qj ls j:=by
 induction j with
 |zero=>omega
 |succ j ih =>
  have hs:ls[j]? = some ls[j]:=pp om;have:=qr0 hs;rcases ox i j with hl|hl
  ·have:=ih hl om;omega
  ·have:i=j:=om
   subst this;omega
def qv(n z:Ls):Bool:=decide (qa n) && (decide (qa z) && (fl z).isSuffixOf (fl n))
theorem withinN_iff{n z:Ls}:qv n z=true↔qa n/\qa z/\∃ j,j<=(labN n).length/\(fl n).drop j=fl z:=by
 unfold qv;simp only[p7,lr,r9];refine and_congr_right λh1=>and_congr_right λh2=>?_
 constructor
 ·intro h;have hl:=h.length_le;refine⟨(fl n).length - (fl z).length,by unfold fl;simp,?_⟩;exact(List.suffix_iff_eq_drop.1 h).symm
 ·rintro ⟨j,_,e⟩
  rw[<-e];exact List.drop_suffix j (fl n)
theorem yi4{n z:Ls}(hn:qa n)(hz:qa z){j:Nat}(hp:qj (labN n) j+z.length=n.length):(fold (n.drop (qj (labN n) j))=fold z)↔(fl n).drop j=fl z:=by
 obtain⟨_,h2,h3⟩:=y5 hn;have hd:n.drop (qj (labN n) j)=mk ((labN n).drop j):=by
  have:=jd0 (labN n) j;rw [<-h3] at this;exact this
 have h4:∀ l ∈ (labN n).drop j,okL l:=λl hl=>h2 l (d8 hl)
 rw[hd,je8 h4,u0 hz];have e:((labN n).drop j).map fold=(fl n).drop j:=by unfold fl;rw[List.map_drop]
 rw[e];refine⟨λh=>qv8 (λl hl=>qx0 hn l (d8 hl)) (qx0 hz) h,λh=>by rw[h]⟩
theorem jj8:∀ {ls:List Ls},(mk (ls.map fold)).length=(mk ls).length
 |[]=>rfl
 |l :: ls=>by
  show(lab (fold l)++mk (ls.map fold)).length=(lab l++mk ls).length;rw[pq,pq,xm,xm,qy8,jj8]
theorem yc8{n z:Ls}(hn:qa n)(hz:qa z){j:Nat}(h:(fl n).drop j=fl z):qj (labN n) j+z.length=n.length:=by
 obtain⟨_,_,h3⟩:=y5 hn;obtain⟨_,_,h4⟩:=y5 hz;have e:(mk ((labN n).drop j)).length=z.length:=by
  have:mk (((labN n).drop j).map fold)=mk ((labN z).map fold):=by
   rw[List.map_drop];exact congrArg mk h
  have:=congrArg List.length this;rw [jj8,jj8,<-h4] at this;exact this
 rw[<-e];conv=>rhs;rw[h3]
 exact yx9 (labN n) j
theorem yt2{ls:List Ls}{i:Nat}{l:Ls}(hi:ls[i]? = some l):((mk ls).drop (qj ls i+1)).take l.length=l:=by
 have hd:=jd0 ls i;have hlt:=(p6.1 hi).1;have e:ls.drop i=l :: ls.drop (i+1):=by
  rw[lu hlt,(p6.1 hi).2]
 rw[<-gx,hd,e];show((UInt8.ofNat l.length :: l++mk (ls.drop (i+1))).drop 1).take l.length=l;simp
theorem wi{n:Ls}(h:qa n):qa (fold n):=by
 rw[u0 h];refine(qr7 _).2 ⟨?_,fl n,qx0 h,rfl⟩;rw[<-u0 h,qy8];exact(y5 h).1
theorem qs1{n:Ls}(h:qa n):labN (fold n)=fl n:=by
 obtain⟨_,h2,h3⟩:=y5 (wi h);have h3:=(u0 h).symm.trans h3;exact(qv8 (qx0 h) h2 h3).symm
def AnL:List SV->List SV->Prop
 |[],[]=>True
 |a :: l,b :: m=>(b = .any\/a=b)/\AnL l m
 |_,_=>False
theorem AnL.len:∀ {l m:List SV},AnL l m->l.length=m.length
 |[],[],_=>rfl
 |_ :: _,_ :: _,h=>congrArg (· + 1) (AnL.len h.2)
theorem AnL.at:∀ {l m:List SV},AnL l m->∀ (j:Nat) (s t:SV),l[j]? = some s->m[j]? = some t->t = .any\/s=t
 |[],[],_,_,_,_,ht,_=>by simp at ht
 |_ :: _,_ :: _,h,0,s,t,hs,ht=>by simp at hs ht;subst hs ht;exact h.1
 |_ :: l,_ :: m,h,j+1,s,t,hs,ht=>AnL.at (l:=l) (m:=m) h.2 j s t (by simpa using hs) (by simpa using ht)
theorem COk.anyA{P:Program}{f:FuncId}{args args':List SV}{ks:List KB}{R:SV->List KB->Prop}(h:COk P f args ks R)(hc:AnL args' args):COk P f args' ks R :=
 ⟨h.1,λX w β fp vs hM hl hd=>h.2 X w β fp vs hM (by rw[<-hc.len,hl]) (λj s u hs hu=>by
  have hj:j<args'.length:=by rw[hc.len];exact(p6.1 hs).1
  have hb:=hd j _ u (pp hj) hu;rcases hc.at j _ s (pp hj) hs with e|e
  ·subst e;exact .any u
  ·rw[<-e];exact hb)⟩
theorem ql{n:Nat}(z:Z):SubZ n z z:=by cases z <;> exact True.intro
def iV(x:Nat):SV:=.d (.int .i64 (x:Int))
instance (s:Ls):Decidable (qa s):=by unfold qa;infer_instance
theorem qb3(s:Ls)(a:Nat):sub s (a:Int) (s.length:Int)=s.drop a:=by
 unfold sub;rw[pr,pr,gr sm]
def qu(n:Ls):Nat:=if qa n then (labN n).length else 0
theorem rZ2{p:Prop}(h:p:=by repeat'(first|exact ⟨⟩|exact rfl|exact ql _|exact .inr rfl|exact λ_ _=>rfl|exact noI|apply And.intro)):p:=h
theorem rY2{p:Prop}(h:p:=by (conv=>whnf);repeat'(first|exact ⟨⟩|exact rfl|exact ql _|exact .inr rfl|exact λ_ _=>rfl|exact noI|apply And.intro)):p:=h
theorem xo6(n:Ls):FnOk Tryz.prog 41 [.d (.str n)] (.d (.int .i64 (qu n:Nat))):=by
 refine qi (TT:=TT) (IN:=qd [(70,Tryz.f70,1),(106,Tryz.f106,2),(107,Tryz.f107,1),(139,Tryz.f139,2)]) qe (jv (jv (jv (jv qg Tryz.func139 (by kernel_rfl) (by kernel_rfl)) Tryz.func107 (by kernel_rfl) (by kernel_rfl)) Tryz.func106 (by kernel_rfl) (by kernel_rfl)) Tryz.func70 (by kernel_rfl) (by kernel_rfl)) mixed 1000 Tryz.func41 rfl (qb Tryz.func41 (by kernel_rfl) rfl) rfl 9 (by kernel_rfl) ?_;conv=>whnf
 refine oD (zo n) rfl rfl ?_;by_cases hn:qa n;case neg =>
  rw[if_neg hn,show qu n=0 from if_neg hn];conv=>whnf
  apply Tr;conv=>whnf
  try exact rfl
 rw[if_pos hn,show qu n=(labN n).length from if_pos hn];conv=>whnf
 apply Fr;conv=>whnf
 obtain⟨hn1,hn2,hn3⟩:=y5 hn;have hend:∀ i,qj (labN n) i<n.length:=λi=>by have:=jf9 (labN n) i;rw [<-hn3] at this;exact this
 have hbt:∀ i l,(labN n)[i]? = some l->bt n (qj (labN n) i)=l.length:=λi l h=>by
  have:=jg3 hn2 h;rw [<-hn3] at this;exact this
 have hbe:bt n (qj (labN n) (labN n).length)=0:=by
  have:=jg4 (labN n);rw [<-hn3] at this;exact this
 have hll:=jr7 (labN n);rw [<-hn3] at hll;generalize labN n=ls at hn2 hn3 hend hbt hbe hll;have hcnt:∀ i,i<=ls.length->i<=qj ls i:=λi=>by
  induction i with
  |zero=>intro _;exact pv _
  |succ i ih =>
   intro h;have:=ih om;have:=jo0 (ls:=ls) (i:=i) (j:=i+1) om h;omega
 have hlc:=hcnt ls.length (pu _);refine .inv Nat (λi=>i<=ls.length) (λi=>[(3,iV (qj ls i))]) (λi=>[(0,.cells 3 [iV i]),(4,.cells 3 [iV (qj ls i)])]) (λi=>ls.length - i) ⟨0,[0,1,2,3,4,5,6],pv _,?_⟩ ?_
 ·exact rY2
 intro i hi;have hp:=hend i;conv=>whnf
 refine brT (pn om) ?_;conv=>whnf
 refine⟨om,?_⟩;conv=>whnf
 rw[jl,qc (bt n (qj ls i):Int) (by have:=vm n (qj ls i);omega)];rcases ox i ls.length with hlt|hge
 ·have hli:ls[i]? = some ls[i]:=pp hlt;have hb:=hbt i _ hli;have hok:=hn2 _ (oz hlt);have hps:=qr0 hli;have hp2:=hend (i+1);rw[hb];generalize ls[i]=l at hli hb hok hps;obtain⟨ho1,ho2⟩:=hok;refine brF (by rw[oo];omega) ?_;conv=>whnf
  refine brF (po om) ?_;conv=>whnf
  have e1:IntKind.i64.wrap ((n.length:Int) - (qj ls i:Int))=((n.length - qj ls i:Nat):Int):=by rw[qc _ om];omega
  rw[e1];refine brF (po om) ?_;conv=>whnf
  have e2:IntKind.i64.wrap ((qj ls i:Int)+IntKind.i64.wrap (1+(l.length:Int)))=((qj ls (i+1):Nat):Int):=by rw[qc (1+(l.length:Int)) om,qc _ om];omega
  rw[e2];have e3:IntKind.i64.wrap ((qj ls i:Int)+1)=((qj ls i+1:Nat):Int):=by rw[qc _ om];omega
  have e4:=w64s i om;rw[e3];refine⟨om,?_⟩;conv=>whnf
  rw[e4];refine⟨i+1,[0,1,2,3,4,5,6],hlt,om,?_⟩;exact rY2
 ·have hil:i=ls.length:=om
  subst hil;rw[hbe];conv=>whnf
  apply Tr;conv=>whnf
  try exact rfl
structure Zo where
 apex:Ls
 z:Bool
 rrs:List RR
instance:Inhabited Zo:=⟨⟨[],true,[]⟩⟩
def yz(apex:Ls)(r:RR):Bool:=r.cl == 1 && (r.ty != 41 && (r.ttl != 0 && (r.check && qv r.nm apex)))
def keyZ(r:RR):Ls × Int × Int × Ls:=(fold r.nm,r.ty,r.cl,xj r.ty r.d)
def cntZ(p:RR->Bool)(l:List RR)(n:Ls):Nat:=(l.filter λr=>fold r.nm == n && p r).length
def yg(r:RR):Bool:=r.ty == 6
def isNs(r:RR):Bool:=r.ty == 2
def wm(r:RR):Bool:=r.ty == 5
def qz(r:RR):Bool:=r.ty == 1 || r.ty == 28
def anyR(_:RR):Bool:=true
def upsF:Nat->Ls->List Ls
 |0,_=>[]
 |k+1,n=>n :: (if n=[0] then [] else upsF k (n.drop (1+bt n 0)))
def upsN(n:Ls):List Ls:=if qa n then upsF n.length n else []
def yx(l:List RR)(name top:Ls):List Ls->Bool
 |[]=>true
 |u :: r=>if u=top then true else if u≠name/\0<cntZ isNs l u then cntZ anyR l name == cntZ qz l name else yx l name top r
def qx(l:List RR)(top name:Ls):Bool :=
 if 0<cntZ wm l name/\1<cntZ anyR l name then false else if name=top then true
 else if 0<cntZ yg l name\/(0<cntZ isNs l name/\cntZ isNs l name+cntZ qz l name<cntZ anyR l name) then false
 else yx l name top (upsN name)
def kf(z:Zo):Bool:=cntZ yg z.rrs (fold z.apex) == 1 && (cntZ isNs z.rrs (fold z.apex) != 0 && z.rrs.all λr=>qx z.rrs (fold z.apex) (fold r.nm))
def uf:List RR->Bool
 |[]=>true
 |r :: l=>(l.all λx=>keyZ x != keyZ r) && uf l
def Zo.ok(z:Zo):Bool:=decide (qa z.apex) && (decide (z.rrs.length<=256) && (z.rrs.all (yz z.apex) && (uf z.rrs && kf z)))
def Zo.cutL(z:Zo):List Ls:=(z.rrs.filter λr=>isNs r && !qp r.nm z.apex).map (·.nm)
section
section
variable{K V:Type}[DecidableEq K]
def aget:List (K × V)->K->Option V
 |[],_=>none
 |e :: l,k=>if k=e.1 then some e.2 else aget l k
def aput:List (K × V)->K->V->List (K × V)
 |[],k,v=>[(k,v)]
 |e :: l,k,v=>if k=e.1 then (k,v) :: l else e :: aput l k v
theorem jd7(l:List (K × V))(k:K)(v:V)(k':K):aget (aput l k v) k'=if k'=k then some v else aget l k':=by
 induction l with
 |nil=>simp[aput,aget]
 |cons e l ih =>
  simp only[aput];split
  ·rename_i h;subst h;simp only[aget];split <;> simp_all
  ·rename_i h;simp only[aget,ih];split
   ·rename_i h1;rw[if_neg (λe1:k'=k=>h (e1.symm.trans h1))]
   ·rfl
def aenc(ek:K->List DV)(ev:V->List SV)(l:List (K × V)):List (List DV × List SV):=l.map λe=>(ek e.1,ev e.2)
theorem xf{ek:K->List DV}{ev:V->List SV}(hk:∀ a b,jo (ek a) (ek b)=decide (a=b))(l:List (K × V))(k:K):zg (aenc ek ev l) (ek k)=(aget l k).map ev:=by
 induction l with
 |nil=>rfl
 |cons e l ih =>
  show(if jo (ek k) (ek e.1) then some (ev e.2) else zg (aenc ek ev l) (ek k))=_;rw[hk,ih,aget];by_cases h:k=e.1
  ·simp[h]
  ·simp[h]
theorem qf2{ek:K->List DV}{ev:V->List SV}(hk:∀ a b,jo (ek a) (ek b)=decide (a=b))(l:List (K × V))(k:K)(v:V):putM (aenc ek ev l) (ek k) (ev v)=aenc ek ev (aput l k v):=by
 induction l with
 |nil=>rfl
 |cons e l ih =>
  show(if jo (ek k) (ek e.1) then _ else (ek e.1,ev e.2) :: putM (aenc ek ev l) (ek k) (ev v))=_;rw[hk,ih,aput];by_cases h:k=e.1
  ·simp[h,aenc]
  ·simp[h,aenc]
end
def strK(s:Ls):List DV:=[.str s]
theorem zp(a b:Ls):jo (strK a) (strK b)=decide (a=b):=by
 rw[my];simp[strK,jo,dEq]
def z6(k:Ls × Int × Int × Ls):List DV:=[.str k.1,.int .u16 k.2.1,.int .u16 k.2.2.1,.str k.2.2.2]
theorem yr1(a b:Ls × Int × Int × Ls):jo (z6 a) (z6 b)=decide (a=b):=by
 rw[my];obtain⟨a1,a2,a3,a4⟩:=a;obtain⟨b1,b2,b3,b4⟩:=b;simp[z6,jo,dEq,kEq]
structure Hd where
 all:Nat
 soa:Nat
 ns:Nat
 alias:Nat
 addr:Nat
deriving DecidableEq
def Hd.no:Hd:=⟨0,0,0,0,0⟩
def Hd.enc(h:Hd):List SV:=[.d (.int .i64 (h.all:Nat)),.d (.int .i64 (h.soa:Nat)),.d (.int .i64 (h.ns:Nat)),.d (.int .i64 (h.alias:Nat)),.d (.int .i64 (h.addr:Nat))]
def Hd.add(h:Hd)(r:RR):Hd:=⟨h.all+1,if r.ty=6 then h.soa+1 else h.soa,if r.ty=2 then h.ns+1 else h.ns,if r.ty=5 then h.alias+1 else h.alias,if r.ty=1\/r.ty=28 then h.addr+1 else h.addr⟩
def j4(l:List RR)(n:Ls):Hd:=⟨cntZ anyR l n,cntZ yg l n,cntZ isNs l n,cntZ wm l n,cntZ qz l n⟩
def qh:List RR->List (Ls × Hd)
 |l=>l.foldl (λm r=>aput m (fold r.nm) (((aget m (fold r.nm)).getD Hd.no).add r)) []
theorem xo7(p:RR->Bool)(l:List RR)(r:RR)(n:Ls):cntZ p (l++[r]) n=cntZ p l n+(if fold r.nm=n/\p r=true then 1 else 0):=by
 unfold cntZ;rw[b7,pq];congr 1;by_cases h:fold r.nm=n <;> cases hp:p r <;> simp[h,hp]
theorem uu(l:List RR)(r:RR):qh (l++[r])=aput (qh l) (fold r.nm) (((aget (qh l) (fold r.nm)).getD Hd.no).add r):=by
 unfold qh;rw[List.foldl_append];rfl
theorem zv2(l:List RR)(r:RR)(n:Ls):j4 (l++[r]) n=if n=fold r.nm then (j4 l n).add r else j4 l n:=by
 unfold j4 Hd.add;simp only[xo7];by_cases h:n=fold r.nm
 ·rw[if_pos h];have h':fold r.nm=n:=h.symm;simp only[h',true_and,anyR,yg,isNs,wm,qz,if_true,oy,cn];congr 1 <;> (split <;> rfl)
 ·rw[if_neg h];have h':¬ fold r.nm=n:=λe=>h e.symm
  simp[h']
theorem qj0{α:Type}{P:List α->Prop}(h0:P [])(h1:∀ l a,P l->P (l++[a])):∀ l,P l:=λl=>by
 rw[<-l.reverse_reverse];induction l.reverse with
 |nil=>exact h0
 |cons a m ih=>rw[List.reverse_cons];exact h1 _ _ ih
theorem qi6(l:List RR)(n:Ls):(aget (qh l) n).getD Hd.no=j4 l n:=by
 refine qj0 (P:=λl=>(aget (qh l) n).getD Hd.no=j4 l n) rfl (λl r ih=>?_) l
 ·rw[uu,jd7,zv2];by_cases h:n=fold r.nm
  ·rw[if_pos h,if_pos h,<-h,ih];rfl
  ·rw[if_neg h,if_neg h,ih]
theorem xp9{K V:Type}[DecidableEq K]{l:List (K × V)}{k:K}{v:V}(h:aget l k=some v):(k,v) ∈ l:=by
 induction l with
 |nil=>cases h
 |cons e l ih =>
  simp only [aget] at h;split at h
  ·rename_i e1;simp only [gu] at h;subst e1 h;exact l6 ..
  ·exact gt _ (ih h)
def Keys{K V:Type}(l:List (K × V)):Prop:=l.Pairwise λe e'=>e.1≠e'.1
theorem ys6{K V:Type}[DecidableEq K]{l:List (K × V)}(hk:Keys l){e:K × V}(h:e ∈ l):aget l e.1=some e.2:=by
 induction l with
 |nil=>cases h
 |cons x l ih =>
  obtain⟨h1,h2⟩:=dw.1 hk;simp only[aget];rcases pz.1 h with rfl|h
  ·rw[if_pos rfl]
  ·rw[if_neg (λe1=>h1 e h e1.symm),ih h2 h]
theorem yv9{K V:Type}[DecidableEq K]{l:List (K × V)}{k:K}{v:V}{e:K × V}(h:e ∈ aput l k v):e=(k,v)\/e ∈ l:=by
 induction l with
 |nil=>exact .inl (by simpa[aput] using h)
 |cons x l ih =>
  simp only [aput] at h;split at h
  ·rcases pz.1 h with rfl|h
   ·exact .inl rfl
   ·exact .inr (gt _ h)
  ·rcases pz.1 h with rfl|h
   ·exact .inr (l6 ..)
   ·exact(ih h).imp id (gt _)
theorem xf6{K V:Type}[DecidableEq K]{l:List (K × V)}(hk:Keys l)(k:K)(v:V):Keys (aput l k v):=by
 induction l with
 |nil=>exact List.pairwise_singleton _ _
 |cons x l ih =>
  obtain⟨h1,h2⟩:=dw.1 hk;simp only[aput];split
  ·rename_i e;subst e;exact dw.2 ⟨h1,h2⟩
  ·rename_i e;refine dw.2 ⟨λy hy=>?_,ih h2⟩;rcases yv9 hy with rfl|hy
   ·exact λe1=>e e1.symm
   ·exact h1 y hy
theorem yb1(l:List RR):Keys (qh l):=by
 refine qj0 (P:=λl=>Keys (qh l)) List.Pairwise.nil (λl r ih=>?_) l;rw[uu];exact xf6 ih _ _
theorem zu4{l:List RR}{e:Ls × Hd}(h:e ∈ qh l):e.2=j4 l e.1:=by
 have:=qi6 l e.1;rw [ys6 (yb1 l) h] at this;exact this
theorem yl9{l:List RR}{e:Ls × Hd}(h:e ∈ qh l):∃ r ∈ l,fold r.nm=e.1:=by
 revert e
 refine qj0 (P:=λl=>∀ {e:Ls × Hd},e ∈ qh l->∃ r ∈ l,fold r.nm=e.1) (λh=>by cases h) (λl r ih e h=>?_) l;rw [uu] at h;rcases yv9 h with rfl|h
 ·exact⟨r,sm,rfl⟩
 ·obtain⟨x,hx,e1⟩:=ih h;exact⟨x,by simp[hx],e1⟩
theorem zu5{l:List RR}{r:RR}(h:r ∈ l):∃ e ∈ qh l,e.1=fold r.nm:=by
 revert r
 refine qj0 (P:=λl=>∀ {r:RR},r ∈ l->∃ e ∈ qh l,e.1=fold r.nm) (λh=>by cases h) (λl x ih r h=>?_) l;have hget:∀ k,(aget (qh (l++[x])) k).isSome->∃ e ∈ qh (l++[x]),e.1=k:=λk hk=>by
  obtain⟨v,hv⟩:=ru.1 hk;exact⟨(k,v),xp9 hv,rfl⟩
 refine hget _ ?_;rw[uu,jd7];split
 ·rfl
 ·rename_i hne;rcases ow.1 h with h|h
  ·obtain⟨e,he,e1⟩:=ih h;rw[<-e1,ys6 (yb1 l) he];rfl
  ·simp at h;subst h;exact absurd rfl hne
theorem xb9(l:List RR)(p:Ls->Bool):((qh l).all λe=>p e.1)=l.all λr=>p (fold r.nm):=by
 rw[my,o7,o7];constructor
 ·intro h r hr;obtain⟨e,he,e1⟩:=zu5 hr;rw[<-e1];exact h e he
 ·intro h e he;obtain⟨r,hr,e1⟩:=yl9 he;rw[<-e1];exact h r hr
theorem yv8{K V:Type}[DecidableEq K]{l:List (K × V)}{k:K}(h:aget l k=none)(v:V):aput l k v=l++[(k,v)]:=by
 induction l with
 |nil=>rfl
 |cons x l ih =>
  simp only [aget] at h;split at h
  ·cases h
  ·rename_i hne;simp only[aput];rw[if_neg hne,ih h];rfl
def jt(l:List RR):List ((Ls × Int × Int × Ls) × Nat):=l.map λr=>(keyZ r,1)
theorem xi5(l:List RR)(k:Ls × Int × Int × Ls):aget (jt l) k=if l.any (λr=>keyZ r == k) then some 1 else none:=by
 induction l with
 |nil=>rfl
 |cons r l ih =>
  show(if k=keyZ r then some 1 else aget (jt l) k)=_;rw[ih,List.any_cons];by_cases h:k=keyZ r
  ·subst h;simp
  ·have h':(keyZ r == k)=false:=by simpa using λe=>h e.symm
   rw[if_neg h,h',c9]
theorem zz2(l:List RR)(r:RR):jt (l++[r])=jt l++[(keyZ r,1)]:=by unfold jt;simp
theorem xb5(l:List RR)(r:RR):uf (l++[r])=(uf l && !l.any (λx=>keyZ x == keyZ r)):=by
 induction l with
 |nil=>rfl
 |cons x l ih =>
  show(((l++[r]).all λy=>keyZ y != keyZ x) && uf (l++[r]))=((l.all λy=>keyZ y != keyZ x) && uf l && !((keyZ x == keyZ r) || l.any λy=>keyZ y == keyZ r));rw[ih,dn,List.all_cons,List.all_nil,Bool.and_true];have e:(keyZ r != keyZ x) = !(keyZ x == keyZ r):=by
   rw[my];simp only[bne_iff_ne,dp,oo];exact⟨λh e=>h e.symm,λh e=>h e.symm⟩
  rw[e];cases (l.all λy=>keyZ y != keyZ x) <;> cases uf l <;> cases (keyZ x == keyZ r) <;> cases (l.any λy=>keyZ y == keyZ r) <;> rfl
def xh(apex:Ls)(l:List RR):Bool:=l.all (yz apex) && uf l
theorem yd1(apex:Ls)(l:List RR)(r:RR):xh apex (l++[r])=(xh apex l && (yz apex r && !l.any (λx=>keyZ x == keyZ r))):=by
 unfold xh;rw[xb5,dn,List.all_cons,List.all_nil,Bool.and_true];cases l.all (yz apex) <;> cases uf l <;> cases yz apex r <;> cases (l.any λy=>keyZ y == keyZ r) <;> rfl
theorem zx7{apex:Ls}{l:List RR}{i:Nat}(h:xh apex (l.take i)=false):xh apex l=false:=by
 have hl:l=l.take i++l.drop i:=(f9 i l).symm;cases e:xh apex l with
 |false=>rfl
 |true =>
  exfalso;have:∀ (m n:List RR),xh apex (m++n)=true->xh apex m=true:=by
   intro m n;refine qj0 (P:=λn=>xh apex (m++n)=true->xh apex m=true) (λh=>by rwa [m6] at h) (λn r ih h=>?_) n;rw [<-mp,yd1,p7] at h;exact ih h.1
  rw [hl] at e;rw [this _ _ e] at h;cases h
theorem Zo.ok_eq(z:Zo):z.ok=(decide (qa z.apex) && (decide (z.rrs.length<=256) && (xh z.apex z.rrs && kf z))):=by
 unfold Zo.ok xh;rw[Bool.and_assoc (z.rrs.all (yz z.apex))]
end
theorem zr8{n z:Ls}(hn:qa n)(hz:qa z)(hl:z.length<=n.length)(b:Bool)(hb:b=true↔∃ j,j<=(labN n).length/\qj (labN n) j=n.length - z.length) :
 (b && (fold (n.drop (n.length - z.length)) == fold z))=qv n z:=by
 rw[my,withinN_iff,p7,hb,oy];constructor
 ·rintro ⟨⟨j,hj,hp⟩,hf⟩
  refine⟨hn,hz,j,hj,?_⟩;exact(yi4 hn hz (j:=j) om).1 (by rw[hp];exact hf)
 ·rintro ⟨_,_,j,hj,hf⟩
  have hp:=yc8 hn hz hf;refine⟨⟨j,hj,om⟩,?_⟩;have:=(yi4 hn hz (j:=j) hp).2 hf
  rwa [show qj (labN n) j=n.length - z.length by omega] at this
theorem zm1{n z:Ls}(hl:n.length<z.length):qv n z=false:=by
 cases h:qv n z
 ·rfl
 ·obtain⟨hn,hz,j,_,hf⟩:=withinN_iff.1 h;have:=yc8 hn hz hf;omega
theorem yi3(n z:Ls):FnOk Tryz.prog 75 [.d (.str n),.d (.str z)] (.d (.bool (qv n z))):=by
 refine qi (TT:=TT) (IN:=qd [(107,Tryz.f107,1),(139,Tryz.f139,2)]) qe (jv (jv qg Tryz.func139 (by kernel_rfl) (by kernel_rfl)) Tryz.func107 (by kernel_rfl) (by kernel_rfl)) mixed 1000 Tryz.func75 rfl (qb Tryz.func75 (by kernel_rfl) rfl) rfl 50 (by kernel_rfl) ?_;conv=>whnf
 refine oD (zo n) rfl rfl ?_;by_cases hn:qa n;case neg =>
  rw[if_neg hn,show qv n z=false by unfold qv;rw[po hn];rfl];conv=>whnf
  repeat(first|(apply Tr;conv=>whnf))
  try exact rfl
 rw[if_pos hn];conv=>whnf
 apply Fr;conv=>whnf
 refine oD (zo z) rfl rfl ?_;by_cases hz:qa z;case neg =>
  rw[if_neg hz,show qv n z=false by unfold qv;rw[po hz,lx,l8]];conv=>whnf
  repeat(first|(apply Tr;conv=>whnf))
  try exact rfl
 rw[if_pos hz];conv=>whnf
 apply Fr;conv=>whnf
 refine⟨λh1=>?_,λh1=>?_⟩
 ·have h1:(z.length:Int) > n.length:=px h1;rw[zm1 om];conv=>whnf
  try exact rfl
 have h1:¬ (z.length:Int) > n.length:=py h1;obtain⟨hn1,hn2,hn3⟩:=y5 hn;have hz1:=hz.2.1;have hmw:IntKind.i64.wrap ((n.length:Int) - (z.length:Int))=((n.length - z.length:Nat):Int):=by rw[qc _ om];omega
 have hlaw:=zr8 hn hz om;have hzero:(((n.length - z.length:Nat):Int) == 0)=decide (n.length - z.length=0):=by rw[my];simp
 conv=>whnf
 rw[hmw,hzero];have hend:∀ i,qj (labN n) i<n.length:=λi=>by have:=jf9 (labN n) i;rw [<-hn3] at this;exact this
 have hbt:∀ i l,(labN n)[i]? = some l->bt n (qj (labN n) i)=l.length:=λi l h=>by
  have:=jg3 hn2 h;rw [<-hn3] at this;exact this
 have hbe:bt n (qj (labN n) (labN n).length)=0:=by
  have:=jg4 (labN n);rw [<-hn3] at this;exact this
 generalize labN n=ls at hn2 hn3 hlaw hend hbt hbe;obtain⟨m,hm⟩:∃ m,n.length - z.length=m:=⟨_,rfl⟩;rw [hm] at hlaw ⊢;refine .inv Nat (λi=>i<=ls.length/\∀ j,0<j->j<=i->qj ls j<m) (λi=>[(3,iV (qj ls i))]) (λ_=>[]) (λi=>ls.length - i) ⟨0,[0,1,2,3],⟨pv _,λj h1 h2=>by omega⟩,?_⟩ ?_
 ·exact rY2
 intro i hi;obtain⟨hi1,hi2⟩:=hi;have hp:=hend i;conv=>whnf
 refine brT (pn om) ?_;conv=>whnf
 refine⟨om,?_⟩;conv=>whnf
 rw[jl,qc (bt n (qj ls i):Int) (by have:=vm n (qj ls i);omega)];rcases ox i ls.length with hlt|hge
 ·have hli:ls[i]? = some ls[i]:=pp hlt;have hb:=hbt i _ hli;have hok:=hn2 _ (oz hlt);have hps:=qr0 hli;have hp2:=hend (i+1);rw[hb];generalize ls[i]=l at hli hb hok hps;obtain⟨ho1,ho2⟩:=hok;refine brF (by rw[oo];omega) ?_;conv=>whnf
  refine brF (po om) ?_;conv=>whnf
  have e1:IntKind.i64.wrap ((n.length:Int) - (qj ls i:Int))=((n.length - qj ls i:Nat):Int):=by rw[qc _ om];omega
  rw[e1];refine brF (po om) ?_;conv=>whnf
  have e2:IntKind.i64.wrap ((qj ls i:Int)+IntKind.i64.wrap (1+(l.length:Int)))=((qj ls (i+1):Nat):Int):=by rw[qc (1+(l.length:Int)) om,qc _ om];omega
  rw[e2];refine⟨λh2=>?_,λh2=>?_⟩
  ·have h2:m<=qj ls (i+1):=dT h2
   conv=>whnf
   refine⟨λh3=>?_,λh3=>?_⟩
   ·have h3:m=0:=px h3;conv=>whnf
    rw[<-hlaw true ⟨λ_=>⟨0,pv _,h3.symm⟩,λ_=>rfl⟩];refine⟨om,?_⟩;conv=>whnf
    rw[qb3];refine oD (ke _ (by rw[ou];omega)) rfl rfl ?_;conv=>whnf
    refine oD (ke z om) rfl rfl ?_;conv=>whnf
    try exact rfl
   ·have h3:¬ m=0:=py h3;conv=>whnf
    refine⟨λh4=>?_,λh4=>?_⟩
    ·have h4:qj ls (i+1)=m:=by simp at h4;omega
     conv=>whnf
     rw[<-hlaw true ⟨λ_=>⟨i+1,hlt,h4⟩,λ_=>rfl⟩];refine⟨om,?_⟩;conv=>whnf
     rw[qb3];refine oD (ke _ (by rw[ou];omega)) rfl rfl ?_;conv=>whnf
     refine oD (ke z om) rfl rfl ?_;conv=>whnf
     try exact rfl
    ·have h4:¬ qj ls (i+1)=m:=by simp at h4;omega
     have hno:¬ ∃ j,j<=ls.length/\qj ls j=m:=by
      rintro ⟨j,j1,j2⟩
      rcases co j (i+1) with x|x|x
      ·rcases dz j with y|y
       ·subst y;exact h3 j2.symm
       ·have:=hi2 j y om;omega
      ·subst x;exact h4 j2
      ·have:=jo0 x j1;omega
     rw[<-hlaw false ⟨λh=>(by cases h),λh=>absurd h hno⟩];conv=>whnf
     try exact rfl
  ·have h2:qj ls (i+1)<m:=dF h2
   conv=>whnf
   refine⟨i+1,[0,1,2,3],⟨hlt,λj k1 k2=>?_⟩,om,?_⟩
   ·rcases ox j (i+1) with x|x
    ·exact hi2 j k1 om
    ·rw[show j=i+1 by omega];exact h2
   exact rY2
 ·have hil:i=ls.length:=om
  subst hil;rw[hbe];conv=>whnf
  apply Tr;conv=>whnf
  refine⟨λh3=>?_,λh3=>?_⟩
  ·have h3:m=0:=px h3;conv=>whnf
   rw[<-hlaw true ⟨λ_=>⟨0,pv _,h3.symm⟩,λ_=>rfl⟩];refine⟨om,?_⟩;conv=>whnf
   rw[qb3];refine oD (ke _ (by rw[ou];omega)) rfl rfl ?_;conv=>whnf
   refine oD (ke z om) rfl rfl ?_;conv=>whnf
   try exact rfl
  ·have h3:¬ m=0:=py h3;have hno:¬ ∃ j,j<=ls.length/\qj ls j=m:=by
    rintro ⟨j,j1,j2⟩
    rcases dz j with y|y
    ·subst y;exact h3 j2.symm
    ·have:=hi2 j y j1;omega
   rw[<-hlaw false ⟨λh=>(by cases h),λh=>absurd h hno⟩];conv=>whnf
   try exact rfl
section
def rot{α:Type}(p:Nat->α)(a m b:Nat):Nat->α:=λx=>if a<=x/\x<a+(b - m) then p (x+(m - a)) else if a+(b - m)<=x/\x<b then p (x - (b - m)) else p x
def swp{α:Type}(p:Nat->α)(a b n:Nat):Nat->α:=λx=>if a<=x/\x<a+n then p (x+(b - a)) else if b<=x/\x<b+n then p (x - (b - a)) else p x
theorem jr4{α:Type}(p:Nat->α)(a b:Nat)(h:a<=b):rot p a a b=p:=by
 funext x;unfold rot;(try dsimp only);repeat' split
 all_goals first|rfl|(exfalso;omega)|(congr 1;omega)
theorem yx3{α:Type}(p:Nat->α)(a b:Nat)(h:a<=b):rot p a b b=p:=by
 funext x;unfold rot;(try dsimp only);repeat' split
 all_goals first|rfl|(exfalso;omega)|(congr 1;omega)
theorem xh7{α:Type}(p:Nat->α)(a b:Nat):swp p a b 0=p:=by
 funext x;unfold swp;(try dsimp only);repeat' split
 all_goals first|rfl|(exfalso;omega)
theorem xi8{α:Type}(p:Nat->α)(m i j:Nat)(hi:j<i)(him:i<=m):rot (swp p (m - i) m j) (m - (i - j)) m (m+j)=rot p (m - i) m (m+j):=by
 funext x;unfold rot swp;try dsimp only
 repeat' split
 all_goals first|rfl|(exfalso;omega)|(congr 1;omega)
theorem zz4{α:Type}(p:Nat->α)(m i j:Nat)(hi:i<j)(him:i<=m):rot (swp p (m - i) (m+j - i) i) (m - i) m (m+(j - i))=rot p (m - i) m (m+j):=by
 funext x;unfold rot swp;try dsimp only
 repeat' split
 all_goals first|rfl|(exfalso;omega)|(congr 1;omega)
theorem xi7{α:Type}(p:Nat->α)(m i:Nat)(him:i<=m):swp p (m - i) m i=rot p (m - i) m (m+i):=by
 funext x;unfold rot swp;try dsimp only
 repeat' split
 all_goals first|rfl|(exfalso;omega)|(congr 1;omega)
theorem xr1{α:Type}(p:Nat->α)(a b n:Nat)(hb:a+n<b):swp (swp p a b n) (a+n) (b+n) 1=swp p a b (n+1):=by
 funext x;unfold swp;try dsimp only
 repeat' split
 all_goals first|rfl|(exfalso;omega)|(congr 1;omega)
theorem xx9{α:Type}(p:Nat->α)(a k:Nat)(h:a<=k):swp (rot p a (a+1) (k+1)) k (k+1) 1=rot p a (a+1) (k+2):=by
 funext x;unfold rot swp;try dsimp only
 repeat' split
 all_goals first|rfl|(exfalso;omega)|(congr 1;omega)
theorem yr3{α:Type}(p:Nat->α)(m k:Nat)(h:k+1<=m):swp (rot p (k+1) m (m+1)) k (k+1) 1=rot p k m (m+1):=by
 funext x;unfold rot swp;try dsimp only
 repeat' split
 all_goals first|rfl|(exfalso;omega)|(congr 1;omega)
structure Inj(n:Nat)(p:Nat->Nat):Prop where
 lt:∀ i,i<n->p i<n
 un:∀ i j,i<n->j<n->p i=p j->i=j
theorem Inj.surj:∀ {n:Nat} {p:Nat->Nat},Inj n p->∀ j,j<n->∃ i,i<n/\p i=j
 |0,_,_=>λj h=>absurd h om
 |n+1,p,h=>λj hj=>by
  have ih:=Inj.surj (n:=n) (p:=λi=>if p i=n then p n else p i) ⟨λi hi=>by
   have:=h.lt i om;have:=h.lt n om;show(if p i=n then p n else p i)<n;split
   ·rename_i e;rcases ox (p n) n with hl|hl
    ·exact hl
    ·have:=h.un i n om om om;omega
   ·omega,λi k hi hk e=>by
   have e:(if p i=n then p n else p i)=(if p k=n then p n else p k):=e;split at e <;> split at e
   ·exact h.un i k om om om
   ·have:=h.un n k om om e;omega
   ·have:=h.un i n om om e;omega
   ·exact h.un i k om om e⟩
  rcases ox j n with hl|hl
  ·obtain⟨i,hi,e⟩:=ih j hl;have e:(if p i=n then p n else p i)=j:=e;split at e
   ·exact⟨n,om,e⟩
   ·exact⟨i,om,e⟩
  ·have hj:j=n:=om
   subst hj;rcases ox (p j) j with hl|hl
   ·obtain⟨i,hi,e⟩:=ih (p j) hl;have e:(if p i=j then p j else p i)=p j:=e;split at e
    ·rename_i e2;exact⟨i,om,e2⟩
    ·have:=h.un i j om om e;omega
   ·have:=h.lt j om;exact⟨j,om,om⟩
structure Same(p q:Nat->Nat)(a b:Nat):Prop where
 out:∀ i,¬ (a<=i/\i<b)->q i=p i
 fwd:∀ i,a<=i->i<b->∃ j,a<=j/\j<b/\q i=p j
 bwd:∀ i,a<=i->i<b->∃ j,a<=j/\j<b/\p i=q j
theorem Same.refl(p:Nat->Nat)(a b:Nat):Same p p a b:=⟨λ_ _=>rfl,λi h1 h2=>⟨i,h1,h2,rfl⟩,λi h1 h2=>⟨i,h1,h2,rfl⟩⟩
theorem Same.trans{p q r:Nat->Nat}{a b:Nat}(h:Same p q a b)(k:Same q r a b):Same p r a b :=
 ⟨λi hi=>(k.out i hi).trans (h.out i hi),λi h1 h2=>by
  obtain⟨j,a1,a2,a3⟩:=k.fwd i h1 h2;obtain⟨l,b1,b2,b3⟩:=h.fwd j a1 a2;exact⟨l,b1,b2,a3.trans b3⟩,λi h1 h2=>by
  obtain⟨j,a1,a2,a3⟩:=h.bwd i h1 h2;obtain⟨l,b1,b2,b3⟩:=k.bwd j a1 a2;exact⟨l,b1,b2,a3.trans b3⟩⟩
theorem Same.wide{p q:Nat->Nat}{a b a' b':Nat}(h:Same p q a b)(ha:a'<=a)(hb:b<=b'):Same p q a' b' :=
 ⟨λi hi=>h.out i (λe=>hi om),λi h1 h2=>by
  by_cases hi:a<=i/\i<b
  ·obtain⟨j,a1,a2,a3⟩:=h.fwd i hi.1 hi.2;exact⟨j,om,om,a3⟩
  ·exact⟨i,h1,h2,h.out i hi⟩,λi h1 h2=>by
  by_cases hi:a<=i/\i<b
  ·obtain⟨j,a1,a2,a3⟩:=h.bwd i hi.1 hi.2;exact⟨j,om,om,a3⟩
  ·exact⟨i,h1,h2,(h.out i hi).symm⟩⟩
theorem jn7(p:Nat->Nat)(a m b:Nat)(h1:a<=m)(h2:m<=b):Same p (rot p a m b) a b:=by
 refine⟨λi hi=>?_,λi ha hb=>?_,λi ha hb=>?_⟩
 ·unfold rot;repeat' split
  all_goals first|rfl|(exfalso;omega)
 ·unfold rot;split
  ·exact⟨i+(m - a),om,om,rfl⟩
  ·split
   ·exact⟨i - (b - m),om,om,rfl⟩
   ·omega
 ·by_cases hm:i<m
  ·refine⟨i+(b - m),om,om,?_⟩;unfold rot;rw[if_neg om,if_pos om];congr 1;omega
  ·refine⟨i - (m - a),om,om,?_⟩;unfold rot;rw[if_pos om];congr 1;omega
theorem Inj.rot{n:Nat}{p:Nat->Nat}(h:Inj n p){a m b:Nat}(h1:a<=m)(h2:m<=b)(h3:b<=n):Inj n (rot p a m b):=by
 have key:∀ i,i<n->∃ j,j<n/\YtoefgnnkajhmiaaGreatDoor.rot p a m b i=p j/\((a<=i/\i<a+(b - m)/\j=i+(m - a))\/(a+(b - m)<=i/\i<b/\j=i - (b - m))\/(¬ (a<=i/\i<b)/\j=i)):=λi hi=>by
  unfold YtoefgnnkajhmiaaGreatDoor.rot;split
  ·exact⟨_,om,rfl,om⟩
  ·split
   ·exact⟨_,om,rfl,om⟩
   ·exact⟨_,hi,rfl,om⟩
 refine⟨λi hi=>?_,λi j hi hj e=>?_⟩
 ·obtain⟨k,a1,a2,_⟩:=key i hi;rw[a2];exact h.lt k a1
 ·obtain⟨k,a1,a2,a3⟩:=key i hi;obtain⟨l,b1,b2,b3⟩:=key j hj;rw [a2,b2] at e;have:=h.un k l a1 b1 e;omega
section
variable(L:Nat->Nat->Prop)
def Rise(p:Nat->Nat)(a b:Nat):Prop:=∀ i j,a<=i->i<j->j<b->L (p i) (p j)
def Sep(p:Nat->Nat)(a m b:Nat):Prop:=∀ i j,a<=i->i<m->m<=j->j<b->p i<p j
structure Ord(n:Nat):Prop where
 trans:∀ i j k,i<n->j<n->k<n->L i j->L j k->L i k
 irr:∀ i,i<n->¬ L i i
 tot:∀ i j,i<n->j<n->i≠j->L i j\/L j i
variable{L}{n:Nat}{p:Nat->Nat}
theorem Rise.sub{a b a' b':Nat}(h:Rise L p a b)(ha:a<=a')(hb:b'<=b):Rise L p a' b':=λi j h1 h2 h3=>h i j om h2 om
theorem Rise.congr{q:Nat->Nat}{a b:Nat}(h:Rise L p a b)(he:∀ i,a<=i->i<b->q i=p i):Rise L q a b:=λi j h1 h2 h3=>by
 rw[he i h1 om,he j om h3];exact h i j h1 h2 h3
structure Cut(p:Nat->Nat)(a m b s e:Nat):Prop where
 sa:a<=s
 sm:s<=m
 me:m<=e
 eb:e<=b
 lo:∀ i j,a<=i->i<s->e<=j->j<b->L (p i) (p j)
 hi:∀ i j,s<=i->i<m->m<=j->j<e->L (p j) (p i)
structure Merged(p q:Nat->Nat)(n a b:Nat):Prop where
 inj:Inj n q
 same:Same p q a b
 rise:Rise L q a b
theorem ym3{a m b s e mid:Nat}(h1:Rise L p a m)(h2:Rise L p m b)(hc:Cut (L:=L) p a m b s e)(hmid:mid=s+(e - m)){q r:Nat->Nat}(hq:Merged (L:=L) (rot p s m e) q n a mid)(hr:Merged (L:=L) q r n mid b):Merged (L:=L) p r n a b:=by
 have hsa:=hc.sa;have hsm:=hc.sm;have hme:=hc.me;have heb:=hc.eb;have hs:Same p (rot p s m e) a b:=(jn7 p s m e hsm hme).wide hsa heb;have hpq:Same p q a b:=hs.trans (hq.same.wide (pu _) om);refine⟨hr.inj,hpq.trans (hr.same.wide om (pu _)),λi j hi hij hj=>?_⟩
 -- what stands below mid,and what above
 have low:∀ i,a<=i->i<mid->∃ k,((a<=k/\k<s)\/(m<=k/\k<e))/\r i=p k:=λi h3 h4=>by
  rw[hr.same.out i om];obtain⟨k,b1,b2,b3⟩:=hq.same.fwd i h3 h4;rw[b3];unfold rot;split
  ·exact⟨_,om,rfl⟩
  ·split
   ·omega
   ·exact⟨_,om,rfl⟩
 have high:∀ i,mid<=i->i<b->∃ k,((s<=k/\k<m)\/(e<=k/\k<b))/\r i=p k:=λi h3 h4=>by
  obtain⟨k,b1,b2,b3⟩:=hr.same.fwd i h3 h4;rw[b3,hq.same.out k om];unfold rot;split
  ·omega
  ·split
   ·exact⟨_,om,rfl⟩
   ·exact⟨_,om,rfl⟩
 by_cases hjm:j<mid
 ·rw[hr.same.out i om,hr.same.out j om];exact hq.rise i j hi hij hjm
 ·by_cases him:mid<=i
  ·exact hr.rise i j him hij hj
  ·obtain⟨k,a1,a2⟩:=low i hi om;obtain⟨l,b1,b2⟩:=high j om hj;rw[a2,b2];rcases a1 with a1|a1 <;> rcases b1 with b1|b1
   ·exact h1 k l a1.1 om b1.2
   ·exact hc.lo k l a1.1 a1.2 b1.1 b1.2
   ·exact hc.hi l k b1.1 b1.2 a1.1 a1.2
   ·exact h2 k l a1.1 om b1.2
theorem xk7{a b i:Nat}(hp:Inj n p)(hbn:b<=n)(hai:a+1<=i)(hib:i<=b)(h2:Rise L p (a+1) b)(hlo:∀ j,a+1<=j->j<i->L (p j) (p a))(hhi:∀ j,i<=j->j<b->L (p a) (p j)):Merged (L:=L) p (rot p a (a+1) i) n a b:=by
 refine⟨hp.rot om hai om,(jn7 p a (a+1) i om hai).wide (pu _) hib,λx y hx hxy hy=>?_⟩;unfold rot
 repeat' split
 ·exact h2 _ _ om om om
 ·have e:y - (i - (a+1))=a:=om
  rw[e];exact hlo _ om om
 ·exact h2 _ _ om om om
 ·omega
 ·omega
 ·have e:x - (i - (a+1))=a:=om
  rw[e];exact hhi _ om om
 ·omega
 ·omega
 ·exact h2 _ _ om om om
theorem zu7{a m i:Nat}(hp:Inj n p)(hmn:m<n)(hai:a<=i)(him:i<=m)(h1:Rise L p a m)(hlo:∀ j,a<=j->j<i->L (p j) (p m))(hhi:∀ j,i<=j->j<m->L (p m) (p j)):Merged (L:=L) p (rot p i m (m+1)) n a (m+1):=by
 refine⟨hp.rot him om om,(jn7 p i m (m+1) him om).wide hai (pu _),λx y hx hxy hy=>?_⟩;unfold rot
 repeat' split
 ·omega
 ·have e:x+(m - i)=m:=om
  rw[e];exact hhi _ om om
 ·omega
 ·omega
 ·exact h1 _ _ om om om
 ·omega
 ·have e:y+(m - i)=m:=om
  rw[e];exact hlo _ om om
 ·exact h1 _ _ om om om
 ·exact h1 _ _ om om om
end
structure Weak(n:Nat)(lt:Nat->Nat->Bool):Prop where
 asym:∀ i j,i<n->j<n->lt i j=true->lt j i=false
 trans:∀ i j k,i<n->j<n->k<n->lt i j=true->lt j k=true->lt i k=true
 ntrans:∀ i j k,i<n->j<n->k<n->lt i j=false->lt j k=false->lt i k=false
def LL(lt:Nat->Nat->Bool)(i j:Nat):Prop:=lt i j=true\/(lt j i=false/\i<j)
theorem Weak.irr{n:Nat}{lt:Nat->Nat->Bool}(h:Weak n lt)(i:Nat)(hi:i<n):lt i i=false:=by
 cases e:lt i i
 ·rfl
 ·have:=h.asym i i hi hi e;rw [e] at this;cases this
theorem Weak.ord{n:Nat}{lt:Nat->Nat->Bool}(h:Weak n lt):Ord (LL lt) n:=by
 refine⟨λi j k hi hj hk a b=>?_,λi hi a=>?_,λi j hi hj hne=>?_⟩
 ·rcases a with a|⟨a,a'⟩ <;> rcases b with b|⟨b,b'⟩
  ·exact .inl (h.trans i j k hi hj hk a b)
  ·left
   cases e:lt i k
   ·have:=h.ntrans i k j hi hk hj e b;rw [a] at this;cases this
   ·rfl
  ·left
   cases e:lt i k
   ·have:=h.ntrans j i k hj hi hk a e;rw [b] at this;cases this
   ·rfl
  ·exact .inr ⟨h.ntrans k j i hk hj hi b a,om⟩
 ·rcases a with a|⟨_,a⟩
  ·rw [h.irr i hi] at a;cases a
  ·omega
 ·cases e:lt i j
  ·cases e':lt j i
   ·rcases ox i j with hl|hl
    ·exact .inl (.inr ⟨e',hl⟩)
    ·exact .inr (.inr ⟨e,om⟩)
   ·exact .inr (.inl e')
  ·exact .inl (.inl e)
theorem xz5{L:Nat->Nat->Prop}{n a m b s e:Nat}{p:Nat->Nat}(hO:Ord L n)(hp:Inj n p)(hbn:b<=n)(h1:Rise L p a m)(h2:Rise L p m b)(sa:a<=s)(sm:s<=m)(me:m<=e)(eb:e<=b)
 (hlo:s=a\/e=b\/L (p (s - 1)) (p e)) (hhi:s=m\/e=m\/L (p (e - 1)) (p s)):Cut (L:=L) p a m b s e:=by
 refine⟨sa,sm,me,eb,λi j hi his hj hjb=>?_,λi j hi him hj hje=>?_⟩
 ·have hl:L (p (s - 1)) (p e):=by
   rcases hlo with h|h|h
   ·omega
   ·omega
   ·exact h
  have hx:L (p i) (p e):=by
   rcases ox i (s - 1) with h|h
   ·exact hO.trans _ _ _ (hp.lt i om) (hp.lt _ om) (hp.lt _ om) (h1 i (s - 1) hi h om) hl
   ·have:i=s - 1:=om
    rw[this];exact hl
  rcases ox e j with h|h
  ·exact hO.trans _ _ _ (hp.lt i om) (hp.lt _ om) (hp.lt _ om) hx (h2 e j me h hjb)
  ·have:j=e:=om
   rw[this];exact hx
 ·have hl:L (p (e - 1)) (p s):=by
   rcases hhi with h|h|h
   ·omega
   ·omega
   ·exact h
  have hx:L (p j) (p s):=by
   rcases ox j (e - 1) with h|h
   ·exact hO.trans _ _ _ (hp.lt j om) (hp.lt _ om) (hp.lt _ om) (h2 j (e - 1) hj h om) hl
   ·have:j=e - 1:=om
    rw[this];exact hl
  rcases ox s i with h|h
  ·exact hO.trans _ _ _ (hp.lt j om) (hp.lt _ om) (hp.lt _ om) hx (h1 s i sa h him)
  ·have:i=s:=om
   rw[this];exact hx
theorem ka8{L:Nat->Nat->Prop}{n a b i:Nat}{p:Nat->Nat}(hO:Ord L n)(hp:Inj n p)(hbn:b<=n)(hai:a+1<=i)(hib:i<=b)(h2:Rise L p (a+1) b)(hlo:i=a+1\/L (p (i - 1)) (p a))(hhi:i=b\/L (p a) (p i)):Merged (L:=L) p (rot p a (a+1) i) n a b:=by
 refine xk7 hp hbn hai hib h2 (λj h3 h4=>?_) (λj h3 h4=>?_)
 ·have hl:L (p (i - 1)) (p a):=by
   rcases hlo with h|h
   ·omega
   ·exact h
  rcases ox j (i - 1) with h|h
  ·exact hO.trans _ _ _ (hp.lt _ om) (hp.lt _ om) (hp.lt _ om) (h2 j (i - 1) h3 h om) hl
  ·have:j=i - 1:=om
   rw[this];exact hl
 ·have hl:L (p a) (p i):=by
   rcases hhi with h|h
   ·omega
   ·exact h
  rcases ox i j with h|h
  ·exact hO.trans _ _ _ (hp.lt _ om) (hp.lt _ om) (hp.lt _ om) hl (h2 i j hai h h4)
  ·have:j=i:=om
   rw[this];exact hl
theorem za5{L:Nat->Nat->Prop}{n a m i:Nat}{p:Nat->Nat}(hO:Ord L n)(hp:Inj n p)(hmn:m<n)(hai:a<=i)(him:i<=m)(h1:Rise L p a m)(hlo:i=a\/L (p (i - 1)) (p m))(hhi:i=m\/L (p m) (p i)):Merged (L:=L) p (rot p i m (m+1)) n a (m+1):=by
 refine zu7 hp hmn hai him h1 (λj h3 h4=>?_) (λj h3 h4=>?_)
 ·have hl:L (p (i - 1)) (p m):=by
   rcases hlo with h|h
   ·omega
   ·exact h
  rcases ox j (i - 1) with h|h
  ·exact hO.trans _ _ _ (hp.lt _ om) (hp.lt _ om) (hp.lt _ om) (h1 j (i - 1) h3 h om) hl
  ·have:j=i - 1:=om
   rw[this];exact hl
 ·have hl:L (p m) (p i):=by
   rcases hhi with h|h
   ·omega
   ·exact h
  rcases ox i j with h|h
  ·exact hO.trans _ _ _ (hp.lt _ om) (hp.lt _ om) (hp.lt _ om) hl (h1 i j hai h h4)
  ·have:j=i:=om
   rw[this];exact hl
theorem Sep.congr{q p:Nat->Nat}{a m b:Nat}(h:Sep p a m b)(he:∀ i,a<=i->i<b->q i=p i):Sep q a m b:=λi j h1 h2 h3 h4=>by
 by_cases hx:i<b
 ·by_cases hy:a<=j
  ·rw[he i h1 hx,he j hy h4];exact h i j h1 h2 h3 h4
  ·omega
 ·omega
theorem jh3{α:Type}(p:Nat->α){a m b i:Nat}(h:a<=i)(h2:i<a+(b - m)):rot p a m b i=p (i+(m - a)):=by
 unfold rot;rw[if_pos ⟨h,h2⟩]
theorem ju9{α:Type}(p:Nat->α){a m b i:Nat}(h:a+(b - m)<=i)(h2:i<b):rot p a m b i=p (i - (b - m)):=by
 unfold rot;rw[if_neg om,if_pos ⟨h,h2⟩]
theorem qk3{α:Type}(p:Nat->α){a m b i:Nat}(h0:a<=m)(h1:m<=b)(h:i<a\/b<=i):rot p a m b i=p i:=by
 unfold rot;rw[if_neg om,if_neg om]
theorem xo5{L:Nat->Nat->Prop}{a m b s e mid:Nat}{p:Nat->Nat}(h1:Rise L p a m)(h2:Rise L p m b)(hs:Sep p a m b)(hc:Cut (L:=L) p a m b s e)(hmid:mid=s+(e - m)):Rise L (rot p s m e) a s/\Rise L (rot p s m e) s mid/\Sep (rot p s m e) a s mid:=by
 obtain⟨sa,sm,me,eb,_,_⟩:=hc;refine⟨λi j hi hij hj=>?_,λi j hi hij hj=>?_,λi j hi hij hj hjb=>?_⟩
 ·rw[qk3 p sm me om,qk3 p sm me om];exact h1 i j hi hij om
 ·rw[jh3 p hi om,jh3 p om om];exact h2 _ _ om om om
 ·rw[qk3 p sm me om,jh3 p hj om];exact hs _ _ hi om om om
theorem xe5{L:Nat->Nat->Prop}{a m b s e mid:Nat}{p:Nat->Nat}(h1:Rise L p a m)(h2:Rise L p m b)(hs:Sep p a m b)(hc:Cut (L:=L) p a m b s e)(hmid:mid=s+(e - m)):Rise L (rot p s m e) mid e/\Rise L (rot p s m e) e b/\Sep (rot p s m e) mid e b:=by
 obtain⟨sa,sm,me,eb,_,_⟩:=hc;refine⟨λi j hi hij hj=>?_,λi j hi hij hj=>?_,λi j hi hij hj hjb=>?_⟩
 ·rw[ju9 p om om,ju9 p om om];exact h1 _ _ om om om
 ·rw[qk3 p sm me om,qk3 p sm me om];exact h2 _ _ om hij hj
 ·rw[ju9 p om om,qk3 p sm me om];exact hs _ _ om om om om
theorem Merged.stay{L:Nat->Nat->Prop}{n a b:Nat}{q:Nat->Nat}(hi:Inj n q)(h:Rise L q a b):Merged (L:=L) q q n a b:=⟨hi,.refl _ _ _,h⟩
def Lc(k lo n:Nat)(p:Nat->Nat):Prop:=∀ i,lo<=i->i<n->p i / k=i / k
def Rs(L:Nat->Nat->Prop)(k lo hi:Nat)(p:Nat->Nat):Prop:=∀ i j,lo<=i->i<j->j<hi->i / k=j / k->L (p i) (p j)
theorem kp{k c i:Nat}(h1:c * k<=i)(h2:i<c * k+k):i / k=c:=by
 have hk:0<k:=om
 apply Nat.le_antisymm
 ·exact Nat.lt_succ_iff.1 (Nat.div_lt_of_lt_mul (by rw[bn];rw[b9];exact h2))
 ·exact(Nat.le_div_iff_mul_le hk).2 h1
theorem za6(i k:Nat):i / (2 * k)=(i / k) / 2:=by rw[Nat.div_div_eq_div_mul,bn]
structure Mg(L:Nat->Nat->Prop)(k n c:Nat)(p:Nat->Nat):Prop where
 inj:Inj n p
 big:Lc (2 * k) 0 n p
 done:Rs L (2 * k) 0 (min (c * (2 * k)) n) p
 rest:Rs L k (c * (2 * k)) n p
 small:Lc k (c * (2 * k)) n p
theorem Mg.begin{L:Nat->Nat->Prop}{k n:Nat}{p:Nat->Nat}(h1:Inj n p)(h2:Lc k 0 n p)(h3:Rs L k 0 n p):Mg L k n 0 p :=
 ⟨h1,λi hi hn=>by rw[za6,za6,h2 i hi hn],λi j hi hij hj _=>by omega,λi j hi=>h3 i j om,λi hi=>h2 i om⟩
theorem Mg.left{L:Nat->Nat->Prop}{k n c:Nat}{p:Nat->Nat}(h:Mg L k n c p)(hm:c * (2 * k)+k<=n):Rise L p (c * (2 * k)) (c * (2 * k)+k):=λi j hi hij hj=>by
 have e:c * (2 * k)=(c * 2) * k:=by rw[Nat.mul_assoc]
 refine h.rest i j hi hij om ?_;rw[kp (c:=c * 2) om om,kp (c:=c * 2) om om]
theorem Mg.right{L:Nat->Nat->Prop}{k n c b:Nat}{p:Nat->Nat}(h:Mg L k n c p)(hb:b<=n)(hb2:b<=c * (2 * k)+2 * k):Rise L p (c * (2 * k)+k) b:=λi j hi hij hj=>by
 have e:c * (2 * k)=(c * 2) * k:=by rw[Nat.mul_assoc]
 have e2:(c * 2+1) * k=(c * 2) * k+k:=by rw[b9]
 refine h.rest i j om hij om ?_;rw[kp (c:=c * 2+1) om om,kp (c:=c * 2+1) om om]
theorem Mg.sep{L:Nat->Nat->Prop}{k n c b:Nat}{p:Nat->Nat}(h:Mg L k n c p)(hb:b<=n)(hb2:b<=c * (2 * k)+2 * k):Sep p (c * (2 * k)) (c * (2 * k)+k) b:=λi j hi him hj hjb=>by
 have hk:0<k:=om
 have e:c * (2 * k)=(c * 2) * k:=by rw[Nat.mul_assoc]
 have e2:(c * 2+1) * k=(c * 2) * k+k:=by rw[b9]
 have a1:=h.small i hi om;have a2:=h.small j om om;rw [kp (c:=c * 2) (i:=i) om om] at a1;rw [kp (c:=c * 2+1) (i:=j) om om] at a2;rcases ox (p i) (p j) with hl|hl
 ·exact hl
 ·have:=Nat.div_le_div_right (c:=k) hl;omega
theorem Mg.next{L:Nat->Nat->Prop}{k n c b:Nat}{p r:Nat->Nat}(hk:0<k)(h:Mg L k n c p)(hb:b<=n)(hb2:b<=c * (2 * k)+2 * k)(hb3:b=n\/b=c * (2 * k)+2 * k)(hab:c * (2 * k)<=b)(hr:Merged (L:=L) p r n (c * (2 * k)) b):Mg L k n (c+1) r:=by
 have e:(c+1) * (2 * k)=c * (2 * k)+2 * k:=by rw[b9]
 refine⟨hr.inj,λi hi hin=>?_,λi j hi hij hj hd=>?_,λi j hi hij hj hd=>?_,λi hi hin=>?_⟩
 ·by_cases hc:c * (2 * k)<=i/\i<b
  ·obtain⟨j,b1,b2,b3⟩:=hr.same.fwd i hc.1 hc.2;rw[b3,h.big j om om,kp (c:=c) b1 om,kp (c:=c) hc.1 om]
  ·rw[hr.same.out i hc];exact h.big i hi hin
 ·by_cases hc:c * (2 * k)<=i
  ·exact hr.rise i j hc hij om
  ·by_cases hjc:j<c * (2 * k)
   ·rw[hr.same.out i om,hr.same.out j om];exact h.done i j hi hij om hd
   ·exfalso;rw [kp (c:=c) (i:=j) om om] at hd;have:=Nat.div_mul_le_self i (2 * k);rw [hd] at this;omega
 ·rw[hr.same.out i om,hr.same.out j om];exact h.rest i j om hij hj hd
 ·rw[hr.same.out i om];exact h.small i om hin
theorem Mg.over{L:Nat->Nat->Prop}{k n c:Nat}{p:Nat->Nat}(hk:0<k)(h:Mg L k n c p)(hn:n<=c * (2 * k)+k):Lc (2 * k) 0 n p/\Rs L (2 * k) 0 n p:=by
 refine⟨h.big,λi j hi hij hj hd=>?_⟩;have e:c * (2 * k)=(c * 2) * k:=by rw[Nat.mul_assoc]
 by_cases hjc:j<c * (2 * k)
 ·exact h.done i j hi hij om hd
 ·have hj2:=kp (k:=2 * k) (c:=c) (i:=j) om om;by_cases hic:c * (2 * k)<=i
  ·refine h.rest i j hic hij hj ?_;rw[kp (c:=c * 2) om om,kp (c:=c * 2) om om]
  ·exfalso;rw [hj2] at hd;have:=Nat.div_mul_le_self i (2 * k);rw [hd] at this;omega
structure Fst(L:Nat->Nat->Prop)(k n c:Nat)(p:Nat->Nat):Prop where
 inj:Inj n p
 loc:Lc k 0 n p
 done:Rs L k 0 (min (c * k) n) p
 rest:∀ i,c * k<=i->p i=i
theorem Fst.zero{L:Nat->Nat->Prop}(k n:Nat):Fst L k n 0 id:=⟨⟨λi h=>h,λi j _ _ h=>h⟩,λi _ _=>rfl,λi j hi hij hj _=>by omega,λi _=>rfl⟩
theorem Fst.next{L:Nat->Nat->Prop}{k n c b:Nat}{p r:Nat->Nat}(h:Fst L k n c p)(hb:b<=n)(hb2:b<=c * k+k)(hb3:b=n\/b=c * k+k)(hr:Merged (L:=L) p r n (c * k) b):Fst L k n (c+1) r:=by
 have e:(c+1) * k=c * k+k:=by rw[b9]
 refine⟨hr.inj,λi hi hin=>?_,λi j hi hij hj hd=>?_,λi hi=>?_⟩
 ·by_cases hc:c * k<=i/\i<b
  ·obtain⟨j,b1,b2,b3⟩:=hr.same.fwd i hc.1 hc.2;rw[b3,h.rest j b1,kp (c:=c) b1 om,kp (c:=c) hc.1 om]
  ·rw[hr.same.out i hc];exact h.loc i hi hin
 ·by_cases hc:c * k<=i
  ·exact hr.rise i j hc hij om
  ·by_cases hjc:j<c * k
   ·rw[hr.same.out i om,hr.same.out j om];exact h.done i j hi hij om hd
   ·exfalso;rw [kp (c:=c) (i:=j) om om] at hd;have:=Nat.div_mul_le_self i k;rw [hd] at this;omega
 ·rw[hr.same.out i om];exact h.rest i om
theorem Rs.all{L:Nat->Nat->Prop}{k n:Nat}{p:Nat->Nat}(h:Rs L k 0 n p)(hk:n<=k):Rise L p 0 n:=λi j hi hij hj=>h i j hi hij hj (by rw[Nat.div_eq_of_lt om,Nat.div_eq_of_lt om])
end
theorem zc4(a b:UInt8)(h1:¬ a<b)(h2:¬ b<a):a=b:=by
 rw [UInt8.lt_iff_toNat_lt] at h1 h2;exact UInt8.toNat_inj.1 om
theorem qj8:∀ a:Ls,Op.bytesLess a a=false
 |[]=>rfl
 |a :: l=>by
  have:¬ a<a:=by rw[UInt8.lt_iff_toNat_lt];omega
  simp[Op.bytesLess,this,qj8 l]
theorem jq4:∀ a b c:Ls,Op.bytesLess a b=true->Op.bytesLess b c=true->Op.bytesLess a c=true
 |_,_,[]=>λ_ h=>by simp [Op.bytesLess] at h
 |_,[],_ :: _=>λh _=>by simp [Op.bytesLess] at h
 |[],_ :: _,_ :: _=>λ_ _=>rfl
 |a :: l,b :: m,c :: n=>λh k=>by
  have ih:=jq4 l m n;simp only [Op.bytesLess,cn,p7,lr,oy] at h k ⊢;rcases h with h|⟨rfl,h⟩ <;> rcases k with k|⟨rfl,k⟩
  ·left;rw [UInt8.lt_iff_toNat_lt] at *;omega
  ·exact .inl h
  ·exact .inl k
  ·exact .inr ⟨rfl,ih h k⟩
theorem zb8(a b:Ls)(h:Op.bytesLess a b=true):Op.bytesLess b a=false:=by
 cases e:Op.bytesLess b a
 ·rfl
 ·have:=jq4 a b a h e;rw [qj8] at this;cases this
theorem qw3:∀ a b:Ls,Op.bytesLess a b=false->Op.bytesLess b a=false->a=b
 |[],[]=>λ_ _=>rfl
 |[],_ :: _=>λh _=>by simp [Op.bytesLess] at h
 |_ :: _,[]=>λ_ h=>by simp [Op.bytesLess] at h
 |a :: l,b :: m=>λh k=>by
  have ih:=qw3 l m;simp only [Op.bytesLess,cp,r8,decide_eq_false_iff_not,oo] at h k;have e:a=b:=zc4 a b h.1 k.1;subst e;rw[ih (h.2.resolve_left (λh=>h rfl)) (k.2.resolve_left (λh=>h rfl))]
theorem xf2(a b c:Ls)(h:Op.bytesLess a b=false)(k:Op.bytesLess b c=false):Op.bytesLess a c=false:=by
 cases e:Op.bytesLess a c
 ·rfl
 ·cases e2:Op.bytesLess b a
  ·rw [qw3 a b h e2] at e;rw [e] at k;cases k
  ·rw [jq4 b a c e2 e] at k;cases k
theorem ju2:∀ a b:Ls,Lib.compareBytes a b=if Op.bytesLess a b then -1 else if Op.bytesLess b a then 1 else 0
 |[],[]=>rfl
 |[],_ :: _=>rfl
 |_ :: _,[]=>rfl
 |a :: l,b :: m=>by
  have ih:=ju2 l m;unfold Lib.compareBytes;by_cases h1:a<b
  ·simp[Op.bytesLess,h1]
  ·by_cases h2:b<a
   ·have:¬ a=b:=λe=>by rw [UInt8.lt_iff_toNat_lt,e] at h2;omega
    simp[Op.bytesLess,h1,h2,this]
   ·have e:=zc4 a b h1 h2;subst e;simp[Op.bytesLess,h1,ih]
theorem qp1(a b:Ls):(Lib.compareBytes a b<0)↔Op.bytesLess a b=true:=by
 rw[ju2];cases h:Op.bytesLess a b
 ·cases h2:Op.bytesLess b a <;> simp
 ·simp
theorem qv0(a b:Ls):(Lib.compareBytes a b=0)↔a=b:=by
 rw[ju2];constructor
 ·intro h;cases h1:Op.bytesLess a b
  ·cases h2:Op.bytesLess b a
   ·exact qw3 a b h1 h2
   ·rw [h1,h2] at h;simp at h
  ·rw [h1] at h;simp at h
 ·rintro rfl;rw[qj8];rfl
def upN(n:Ls):Ls:=n.drop (1+bt n 0)
def qy(n:Ls):Ls × Int:=if qa n then (if n=[0] then ([],3) else (upN n,0)) else ([],2)
theorem x8{n:Ls}(h:qa n)(hn:n≠[0]):1+bt n 0<=n.length/\bt n 0<=63:=by
 obtain⟨h1,h2,h3⟩:=y5 h;cases hl:labN n with
 |nil=>rw [hl] at h3;exact absurd h3 hn
 |cons l ls =>
  rw [hl] at h2 h3;have hok:=h2 l sm;have hb:bt n 0=l.length:=by rw[h3];exact v6 l (mk ls) hok
  rw[hb];have:=hok.2;refine⟨?_,this⟩;conv=>rhs;rw[h3]
  show _<=(lab l++mk ls).length;rw[pq,xm];omega
theorem rZ3{p:Prop}(h:p:=by repeat'(first|exact ⟨⟩|exact rfl|exact .inr rfl|exact .inl rfl|exact λ_ _=>rfl|exact noI|apply And.intro)):p:=h
theorem rY3{p:Prop}(h:p:=by (conv=>whnf);repeat'(first|exact ⟨⟩|exact rfl|exact .inr rfl|exact .inl rfl|exact λ_ _=>rfl|exact noI|apply And.intro)):p:=h
theorem w6(n:Ls):FnOk Tryz.prog 198 [.d (.str n)] (.tup [.d (.str (qy n).1),.d (.int .i64 (qy n).2)]):=by
 refine qi (TT:=TT) (IN:=qd []) qe qg mixed 1000 Tryz.func198 rfl (qb Tryz.func198 (by kernel_rfl) rfl) rfl 14 (by kernel_rfl) ?_;conv=>whnf
 refine oD (zo n) rfl rfl ?_;by_cases hn:qa n
 ·rw[if_pos hn];conv=>whnf
  apply Fr;conv=>whnf
  refine⟨λh1=>?_,λh1=>?_⟩
  ·have h1:n=[0]:=by simpa using h1
   rw[show qy n=([],3) by unfold qy;rw[if_pos hn,if_pos h1]];exact rY3
  ·have h1:n≠[0]:=by simpa using h1
   rw[show qy n=(upN n,0) by unfold qy;rw[if_pos hn,if_neg h1]];obtain⟨k1,k2⟩:=x8 hn h1;have hpos:=hn.1;have e1:IntKind.i64.wrap (1+IntKind.i64.wrap (qw n 0))=((1+bt n 0:Nat):Int):=by
    have:=jl n 0;rw [show ((0:Nat):Int)=0 from rfl] at this;rw[this,qc (bt n 0:Int) om,qc _ om];omega
   conv=>whnf
   refine⟨om,?_⟩;conv=>whnf
   rw[e1];refine⟨om,?_⟩;conv=>whnf
   rw[qb3];exact rZ3
 ·rw[if_neg hn];rw[show qy n=([],2) by unfold qy;rw[if_neg hn]];conv=>whnf
  apply Tr;exact rY3
theorem kz{n:Ls}(h:qa n)(hn:n≠[0]):qa (upN n):=by
 obtain⟨h1,h2,h3⟩:=y5 h;cases hl:labN n with
 |nil=>rw [hl] at h3;exact absurd h3 hn
 |cons l ls =>
  rw [hl] at h2 h3;have hok:=h2 l sm;have hb:bt n 0=l.length:=by rw[h3];exact v6 l (mk ls) hok
  have hu:upN n=mk ls:=by
   unfold upN;rw[hb,h3];show(UInt8.ofNat l.length :: (l++mk ls)).drop (1+l.length)=_;rw[Nat.add_comm,List.drop_succ_cons,rt]
  rw[hu];refine(qr7 _).2 ⟨?_,ls,λx hx=>h2 x (by simp[hx]),rfl⟩;rw [h3] at h1;have:(mk (l :: ls)).length=(lab l).length+(mk ls).length:=by
   show(lab l++mk ls).length=_;rw[pq]
  omega
theorem COk.frameX{P:Program}{f:FuncId}{as0:List SV}{ks0:List KB}{R0:SV->List KB->Prop}(h:COk P f as0 ks0 R0)(is:List Nat){al:List SV}{ks:List KB}
 (hok:okN (lenB ks) is=true) (ha:mapL (sig is (lenB ks)) as0=al) (hk:qc8 ks is=mapB (sig is (lenB ks)) ks0):COk P f al ks (λs k=>∃ s0 k0,R0 s0 k0/\s=mapV (sig is (lenB ks)) s0/\k=qg9 ks is (mapB (sig is (lenB ks)) k0)) :=
 COk.frame h is hok ha hk (λs0 k0 h=>⟨s0,k0,h,rfl,rfl⟩)
theorem jd8{K V:Type}{ek:K->List DV}{ev:V->List SV}{σ:Nat->Nat}(hv:∀ v,mapL σ (ev v)=ev v):∀ l:List (K × V),mapM σ (aenc ek ev l)=aenc ek ev l
 |[]=>rfl
 |e :: l=>by
  show(ek e.1,mapL σ (ev e.2)) :: mapM σ (aenc ek ev l)=(ek e.1,ev e.2) :: aenc ek ev l;rw[hv,jd8 hv l]
theorem qn2{K V:Type}{ek:K->List DV}{ev:V->List SV}{ρ:List Nat}(hv:∀ v,renL ρ (ev v)=ev v):∀ l:List (K × V),renM ρ (aenc ek ev l)=aenc ek ev l
 |[]=>rfl
 |e :: l=>by
  show(ek e.1,renL ρ (ev e.2)) :: renM ρ (aenc ek ev l)=(ek e.1,ev e.2) :: aenc ek ev l;rw[hv,qn2 hv l]
def intV(n:Nat):List SV:=[.d (.int .i64 (n:Nat))]
def kc1(z:Zo)(i:Nat):KB:=.cells 128 [.d (.str z.apex),.d (rrsD z.z z.rrs),.map i,.map (i+1)]
def vk(S:List ((Ls × Int × Int × Ls) × Nat)):KB:=.map [.str,.int .u16,.int .u16,.str] true false (aenc z6 intV S)
def wg(N:List (Ls × Hd))(st:MS):KB:=.mapx [.str] false true (aenc strK Hd.enc N) st
def lookK(z:Zo)(S:List ((Ls × Int × Int × Ls) × Nat))(N:List (Ls × Hd))(st:MS):List KB:=[kc1 z 1,vk S,wg N st]
theorem jn8{ρ:List Nat}(S:List ((Ls × Int × Int × Ls) × Nat)):renM ρ (aenc z6 intV S)=aenc z6 intV S:=qn2 (λ_=>rfl) S
theorem qm2{ρ:List Nat}(N:List (Ls × Hd)):renM ρ (aenc strK Hd.enc N)=aenc strK Hd.enc N:=qn2 (λ_=>rfl) N
theorem jn9{σ:Nat->Nat}(S:List ((Ls × Int × Int × Ls) × Nat)):mapM σ (aenc z6 intV S)=aenc z6 intV S:=jd8 (λ_=>rfl) S
theorem jo6{σ:Nat->Nat}(N:List (Ls × Hd)):mapM σ (aenc strK Hd.enc N)=aenc strK Hd.enc N:=jd8 (λ_=>rfl) N
theorem ym0(N:List (Ls × Hd))(st:MS)(ρ:List Nat):SubK (renK ρ (wg N st)) (wg N st):=by
 cases st
 ·exact⟨⟨rfl,rfl,rfl⟩,qm2 N⟩
 ·exact⟨⟨⟨rfl,rfl,rfl⟩,qm2 N⟩,rfl⟩
 ·exact⟨⟨⟨rfl,rfl,rfl⟩,qm2 N⟩,rfl⟩
theorem u6(p:RR->Bool)(l:List RR)(n:Ls):cntZ p l n<=l.length:=cx _ _
theorem rZ4{p:Prop}(h:p:=by repeat'(first|exact ⟨⟩|exact rfl|exact ql _|exact .inr rfl|exact λ_ _=>rfl|exact noI|apply And.intro|exact jn8 _|exact qm2 _|exact ym0 _ _ _)):p:=h
theorem rY4{p:Prop}(h:p:=by (conv=>whnf);repeat'(first|exact ⟨⟩|exact rfl|exact ql _|exact .inr rfl|exact λ_ _=>rfl|exact noI|apply And.intro|exact jn8 _|exact qm2 _|exact ym0 _ _ _)):p:=h
theorem xu4(z:Zo)(S:List ((Ls × Int × Int × Ls) × Nat))(l:List RR)(hl:l.length<=300)(st:MS)(name top:Ls)(hn:qa name) :
 COk Tryz.prog 141 [.ptr 0 0,.d (.str name),.d (.str top),.agg (j4 l name).enc] (lookK z S (qh l) st) (λs k=>s = .d (.bool (qx l top name))/\k=lookK z S (qh l) st):=by
 refine yq (TT:=TT) (IN:=qd [(176,Tryz.f176,1),(197,Tryz.f197,2)]) qe (jv (jv qg Tryz.func197 (by kernel_rfl) (by kernel_rfl)) Tryz.func176 (by kernel_rfl) (by kernel_rfl)) mixed 1000 Tryz.func141 rfl (qb Tryz.func141 (by kernel_rfl) rfl) 59 (by kernel_rfl) ?_;have b1:=u6 anyR l name;have b2:=u6 yg l name;have b3:=u6 isNs l name;have b4:=u6 wm l name;have b5:=u6 qz l name;conv=>whnf
 refine⟨λh1=>?_,λh1=>?_⟩
 ·have h1:0<cntZ wm l name:=by
   have h:((cntZ wm l name:Nat):Int) > 0:=px h1;omega
  conv=>whnf
  refine⟨λh2=>?_,λh2=>?_⟩
  ·have h2:1<cntZ anyR l name:=by
    have h:((cntZ anyR l name:Nat):Int) > 1:=px h2;omega
   have hf:qx l top name=false:=by unfold qx;rw[if_pos ⟨h1,h2⟩]
   conv=>whnf
   rw[hf];refine⟨[0,1,2],_,lookK z S (qh l) st,rfl,rfl,?_,?_,rfl,rfl⟩
   ·exact rfl
   ·exact rY4
  ·have h2:¬ 1<cntZ anyR l name:=by
    have h:¬ ((cntZ anyR l name:Nat):Int) > 1:=py h2;omega
   have hA:¬ (0<cntZ wm l name/\1<cntZ anyR l name):=λh=>h2 h.2
   conv=>whnf
   refine⟨λh3=>?_,λh3=>?_⟩
   ·have h3:name=top:=by simpa using h3
    have hf:qx l top name=true:=by unfold qx;rw[if_neg hA,if_pos h3]
    conv=>whnf
    rw[hf];refine⟨[0,1,2],_,lookK z S (qh l) st,rfl,rfl,?_,?_,rfl,rfl⟩
    ·exact rfl
    ·exact rY4
   ·have h3:name≠top:=by simpa using h3
    conv=>whnf
    refine⟨λh4=>?_,λh4=>?_⟩
    ·have h4:0<cntZ yg l name:=by
      have h:((cntZ yg l name:Nat):Int) > 0:=px h4;omega
     have hf:qx l top name=false:=by unfold qx;rw[if_neg hA,if_neg h3,if_pos (.inl h4)]
     conv=>whnf
     rw[hf];refine⟨[0,1,2],_,lookK z S (qh l) st,rfl,rfl,?_,?_,rfl,rfl⟩
     ·exact rfl
     ·exact rY4
    ·have h4:¬ 0<cntZ yg l name:=by
      have h:¬ ((cntZ yg l name:Nat):Int) > 0:=py h4;omega
     conv=>whnf
     refine⟨λh5=>?_,λh5=>?_⟩
     ·have h5:0<cntZ isNs l name:=by
       have h:((cntZ isNs l name:Nat):Int) > 0:=px h5;omega
      have hw:IntKind.i64.wrap (((j4 l name).ns:Nat)+((j4 l name).addr:Nat):Int)=((cntZ isNs l name+cntZ qz l name:Nat):Int):=by
       show IntKind.i64.wrap (((cntZ isNs l name:Nat):Int)+((cntZ qz l name:Nat):Int))=_;rw[qc _ om];omega
      conv=>whnf
      rw[hw];refine⟨λh6=>?_,λh6=>?_⟩
      ·have h6:cntZ isNs l name+cntZ qz l name<cntZ anyR l name:=by
        have h:((cntZ anyR l name:Nat):Int) > ((cntZ isNs l name+cntZ qz l name:Nat):Int):=px h6;omega
       have hf:qx l top name=false:=by unfold qx;rw[if_neg hA,if_neg h3,if_pos (.inr ⟨h5,h6⟩)]
       conv=>whnf
       rw[hf];refine⟨[0,1,2],_,lookK z S (qh l) st,rfl,rfl,?_,?_,rfl,rfl⟩
       ·exact rfl
       ·exact rY4
      ·have h6:¬ cntZ isNs l name+cntZ qz l name<cntZ anyR l name:=dF h6
       have hf:qx l top name=yx l name top (upsN name):=by unfold qx;rw[if_neg hA,if_neg h3,if_neg (λh=>h.elim h4 (λh=>h6 h.2))]
       conv=>whnf
       refine oD (zo name) rfl rfl ?_;rw[if_pos hn];conv=>whnf
       apply Fr;conv=>whnf
       refine .inv (Ls × Nat) (λs=>qa s.1/\s.1.length<=s.2/\yx l name top (upsF s.2 s.1)=qx l top name) (λs=>[(3,.d (.str s.1))]) (λs=>[]) (λs=>s.2) ⟨(name,name.length),[0,1,2,3,4,5,6,7,8,9],⟨hn,pu _,by rw[hf];unfold upsN;rw[if_pos hn]⟩,?_⟩ ?_
       ·exact rY4
       clear hf;intro s hs;obtain⟨g1,g2,g3⟩:=hs;conv=>whnf
       generalize s.1=n at g1 g2 g3 ⊢;generalize s.2=k at g2 g3 ⊢;obtain⟨k,rfl⟩:∃ k',k=k'+1:=⟨k - 1,by have:=g1.1;omega⟩;have hc:yx l name top (upsF (k+1) n)=if n=top then true else if n≠name/\0<cntZ isNs l n then cntZ anyR l name == cntZ qz l name else yx l name top (if n=[0] then [] else upsF k (n.drop (1+bt n 0))):=rfl;refine⟨λg4=>?_,λg4=>?_⟩
       ·have g4:n=top:=by simpa using g4
        have hf:qx l top name=true:=by rw[<-g3,hc,if_pos g4]
        conv=>whnf
        rw[hf];refine⟨[0,1,2],_,lookK z S (qh l) st,rfl,rfl,?_,?_,rfl,rfl⟩
        ·exact rfl
        ·exact rY4
       ·have g4:n≠top:=by simpa using g4
        rw [if_neg g4] at hc;conv=>whnf
        refine⟨λg5=>?_,λg5=>?_⟩
        ·have g5:n≠name:=by simpa using g5
         conv=>whnf
         have hg:=qi6 l n;cases ha:aget (qh l) n with
         |none =>
          rw [ha] at hg;have hns:cntZ isNs l n=0:=(congrArg Hd.ns hg).symm;rw [if_neg (λh=>by rw [hns] at h;exact absurd h.2 (cq 0))] at hc;refine ⟨none,by have:=xf (ev:=Hd.enc) zp (qh l) n;rw [ha] at this;exact this,?_⟩;conv=>whnf
          apply Fr;conv=>whnf
          refine oD (w6 n) rfl rfl ?_;by_cases hz:n=[0]
          ·have hp:qy n=([],3):=by unfold qy;rw[if_pos g1,if_pos hz]
           have hf:qx l top name=true:=by rw[<-g3,hc,if_pos hz];rfl
           rw[hp];conv=>whnf
           apply Tr;conv=>whnf
           rw[hf];refine⟨[0,1,2],_,lookK z S (qh l) st,rfl,rfl,?_,?_,rfl,rfl⟩
           ·exact rfl
           ·exact rY4
          ·have hp:qy n=(upN n,0):=by unfold qy;rw[if_pos g1,if_neg hz]
           rw [if_neg hz] at hc;rw[hp];conv=>whnf
           apply Fr;conv=>whnf
           refine⟨(upN n,k),[0,1,2,3,4,5,6,7,8,9],⟨kz g1 hz,?_,?_⟩,gw k,?_⟩
           ·have:=x8 g1 hz;show(upN n).length<=k;unfold upN;rw[ou];omega
           ·exact(by rw[<-g3,hc];rfl)
           ·exact rY4
         |some h0 =>
          rw [ha] at hg;have hns:h0.ns=cntZ isNs l n:=congrArg Hd.ns hg;refine ⟨some h0.enc,by have:=xf (ev:=Hd.enc) zp (qh l) n;rw [ha] at this;exact this,?_⟩;conv=>whnf
          refine⟨λg6=>?_,λg6=>?_⟩
          ·have g6:0<cntZ isNs l n:=dT g6
           have hf:qx l top name=((((j4 l name).all:Nat):Int) == (((j4 l name).addr:Nat):Int)):=by
            rw[<-g3,hc,if_pos ⟨g5,g6⟩,my,oy,oy];show(cntZ anyR l name=cntZ qz l name)↔((cntZ anyR l name:Nat):Int)=((cntZ qz l name:Nat):Int);omega
           conv=>whnf
           rw[hf];refine⟨[0,1,2],_,lookK z S (qh l) st,rfl,rfl,?_,?_,rfl,rfl⟩
           ·exact rfl
           ·exact rY4
          ·have g6:¬ 0<cntZ isNs l n:=dF g6
           rw [if_neg (λh=>g6 h.2)] at hc;conv=>whnf
           refine oD (w6 n) rfl rfl ?_;by_cases hz:n=[0]
           ·have hp:qy n=([],3):=by unfold qy;rw[if_pos g1,if_pos hz]
            have hf:qx l top name=true:=by rw[<-g3,hc,if_pos hz];rfl
            rw[hp];conv=>whnf
            apply Tr;conv=>whnf
            rw[hf];refine⟨[0,1,2],_,lookK z S (qh l) st,rfl,rfl,?_,?_,rfl,rfl⟩
            ·exact rfl
            ·exact rY4
           ·have hp:qy n=(upN n,0):=by unfold qy;rw[if_pos g1,if_neg hz]
            rw [if_neg hz] at hc;rw[hp];conv=>whnf
            apply Fr;conv=>whnf
            refine⟨(upN n,k),[0,1,2,3,4,5,6,7,8,9],⟨kz g1 hz,?_,?_⟩,gw k,?_⟩
            ·have:=x8 g1 hz;show(upN n).length<=k;unfold upN;rw[ou];omega
            ·exact(by rw[<-g3,hc];rfl)
            ·exact rY4
        ·have g5:n=name:=by simpa using g5
         rw [if_neg (λh=>h.1 g5)] at hc;conv=>whnf
         refine oD (w6 n) rfl rfl ?_;by_cases hz:n=[0]
         ·have hp:qy n=([],3):=by unfold qy;rw[if_pos g1,if_pos hz]
          have hf:qx l top name=true:=by rw[<-g3,hc,if_pos hz];rfl
          rw[hp];conv=>whnf
          apply Tr;conv=>whnf
          rw[hf];refine⟨[0,1,2],_,lookK z S (qh l) st,rfl,rfl,?_,?_,rfl,rfl⟩
          ·exact rfl
          ·exact rY4
         ·have hp:qy n=(upN n,0):=by unfold qy;rw[if_pos g1,if_neg hz]
          rw [if_neg hz] at hc;rw[hp];conv=>whnf
          apply Fr;conv=>whnf
          refine⟨(upN n,k),[0,1,2,3,4,5,6,7,8,9],⟨kz g1 hz,?_,?_⟩,gw k,?_⟩
          ·have:=x8 g1 hz;show(upN n).length<=k;unfold upN;rw[ou];omega
          ·exact(by rw[<-g3,hc];rfl)
          ·exact rY4
     ·have h5:¬ 0<cntZ isNs l name:=by
       have h:¬ ((cntZ isNs l name:Nat):Int) > 0:=py h5;omega
      have hf:qx l top name=yx l name top (upsN name):=by unfold qx;rw[if_neg hA,if_neg h3,if_neg (λh=>h.elim h4 (λh=>h5 h.1))]
      conv=>whnf
      refine oD (zo name) rfl rfl ?_;rw[if_pos hn];conv=>whnf
      apply Fr;conv=>whnf
      refine .inv (Ls × Nat) (λs=>qa s.1/\s.1.length<=s.2/\yx l name top (upsF s.2 s.1)=qx l top name) (λs=>[(3,.d (.str s.1))]) (λs=>[]) (λs=>s.2) ⟨(name,name.length),[0,1,2,3,4,5,6,7,8,9],⟨hn,pu _,by rw[hf];unfold upsN;rw[if_pos hn]⟩,?_⟩ ?_
      ·exact rY4
      clear hf;intro s hs;obtain⟨g1,g2,g3⟩:=hs;conv=>whnf
      generalize s.1=n at g1 g2 g3 ⊢;generalize s.2=k at g2 g3 ⊢;obtain⟨k,rfl⟩:∃ k',k=k'+1:=⟨k - 1,by have:=g1.1;omega⟩;have hc:yx l name top (upsF (k+1) n)=if n=top then true else if n≠name/\0<cntZ isNs l n then cntZ anyR l name == cntZ qz l name else yx l name top (if n=[0] then [] else upsF k (n.drop (1+bt n 0))):=rfl;refine⟨λg4=>?_,λg4=>?_⟩
      ·have g4:n=top:=by simpa using g4
       have hf:qx l top name=true:=by rw[<-g3,hc,if_pos g4]
       conv=>whnf
       rw[hf];refine⟨[0,1,2],_,lookK z S (qh l) st,rfl,rfl,?_,?_,rfl,rfl⟩
       ·exact rfl
       ·exact rY4
      ·have g4:n≠top:=by simpa using g4
       rw [if_neg g4] at hc;conv=>whnf
       refine⟨λg5=>?_,λg5=>?_⟩
       ·have g5:n≠name:=by simpa using g5
        conv=>whnf
        have hg:=qi6 l n;cases ha:aget (qh l) n with
        |none =>
         rw [ha] at hg;have hns:cntZ isNs l n=0:=(congrArg Hd.ns hg).symm;rw [if_neg (λh=>by rw [hns] at h;exact absurd h.2 (cq 0))] at hc;refine ⟨none,by have:=xf (ev:=Hd.enc) zp (qh l) n;rw [ha] at this;exact this,?_⟩;conv=>whnf
         apply Fr;conv=>whnf
         refine oD (w6 n) rfl rfl ?_;by_cases hz:n=[0]
         ·have hp:qy n=([],3):=by unfold qy;rw[if_pos g1,if_pos hz]
          have hf:qx l top name=true:=by rw[<-g3,hc,if_pos hz];rfl
          rw[hp];conv=>whnf
          apply Tr;conv=>whnf
          rw[hf];refine⟨[0,1,2],_,lookK z S (qh l) st,rfl,rfl,?_,?_,rfl,rfl⟩
          ·exact rfl
          ·exact rY4
         ·have hp:qy n=(upN n,0):=by unfold qy;rw[if_pos g1,if_neg hz]
          rw [if_neg hz] at hc;rw[hp];conv=>whnf
          apply Fr;conv=>whnf
          refine⟨(upN n,k),[0,1,2,3,4,5,6,7,8,9],⟨kz g1 hz,?_,?_⟩,gw k,?_⟩
          ·have:=x8 g1 hz;show(upN n).length<=k;unfold upN;rw[ou];omega
          ·exact(by rw[<-g3,hc];rfl)
          ·exact rY4
        |some h0 =>
         rw [ha] at hg;have hns:h0.ns=cntZ isNs l n:=congrArg Hd.ns hg;refine ⟨some h0.enc,by have:=xf (ev:=Hd.enc) zp (qh l) n;rw [ha] at this;exact this,?_⟩;conv=>whnf
         refine⟨λg6=>?_,λg6=>?_⟩
         ·have g6:0<cntZ isNs l n:=dT g6
          have hf:qx l top name=((((j4 l name).all:Nat):Int) == (((j4 l name).addr:Nat):Int)):=by
           rw[<-g3,hc,if_pos ⟨g5,g6⟩,my,oy,oy];show(cntZ anyR l name=cntZ qz l name)↔((cntZ anyR l name:Nat):Int)=((cntZ qz l name:Nat):Int);omega
          conv=>whnf
          rw[hf];refine⟨[0,1,2],_,lookK z S (qh l) st,rfl,rfl,?_,?_,rfl,rfl⟩
          ·exact rfl
          ·exact rY4
         ·have g6:¬ 0<cntZ isNs l n:=dF g6
          rw [if_neg (λh=>g6 h.2)] at hc;conv=>whnf
          refine oD (w6 n) rfl rfl ?_;by_cases hz:n=[0]
          ·have hp:qy n=([],3):=by unfold qy;rw[if_pos g1,if_pos hz]
           have hf:qx l top name=true:=by rw[<-g3,hc,if_pos hz];rfl
           rw[hp];conv=>whnf
           apply Tr;conv=>whnf
           rw[hf];refine⟨[0,1,2],_,lookK z S (qh l) st,rfl,rfl,?_,?_,rfl,rfl⟩
           ·exact rfl
           ·exact rY4
          ·have hp:qy n=(upN n,0):=by unfold qy;rw[if_pos g1,if_neg hz]
           rw [if_neg hz] at hc;rw[hp];conv=>whnf
           apply Fr;conv=>whnf
           refine⟨(upN n,k),[0,1,2,3,4,5,6,7,8,9],⟨kz g1 hz,?_,?_⟩,gw k,?_⟩
           ·have:=x8 g1 hz;show(upN n).length<=k;unfold upN;rw[ou];omega
           ·exact(by rw[<-g3,hc];rfl)
           ·exact rY4
       ·have g5:n=name:=by simpa using g5
        rw [if_neg (λh=>h.1 g5)] at hc;conv=>whnf
        refine oD (w6 n) rfl rfl ?_;by_cases hz:n=[0]
        ·have hp:qy n=([],3):=by unfold qy;rw[if_pos g1,if_pos hz]
         have hf:qx l top name=true:=by rw[<-g3,hc,if_pos hz];rfl
         rw[hp];conv=>whnf
         apply Tr;conv=>whnf
         rw[hf];refine⟨[0,1,2],_,lookK z S (qh l) st,rfl,rfl,?_,?_,rfl,rfl⟩
         ·exact rfl
         ·exact rY4
        ·have hp:qy n=(upN n,0):=by unfold qy;rw[if_pos g1,if_neg hz]
         rw [if_neg hz] at hc;rw[hp];conv=>whnf
         apply Fr;conv=>whnf
         refine⟨(upN n,k),[0,1,2,3,4,5,6,7,8,9],⟨kz g1 hz,?_,?_⟩,gw k,?_⟩
         ·have:=x8 g1 hz;show(upN n).length<=k;unfold upN;rw[ou];omega
         ·exact(by rw[<-g3,hc];rfl)
         ·exact rY4
 ·have h1:¬ 0<cntZ wm l name:=by
   have h:¬ ((cntZ wm l name:Nat):Int) > 0:=py h1;omega
  have hA:¬ (0<cntZ wm l name/\1<cntZ anyR l name):=λh=>h1 h.1
  conv=>whnf
  refine⟨λh3=>?_,λh3=>?_⟩
  ·have h3:name=top:=by simpa using h3
   have hf:qx l top name=true:=by unfold qx;rw[if_neg hA,if_pos h3]
   conv=>whnf
   rw[hf];refine⟨[0,1,2],_,lookK z S (qh l) st,rfl,rfl,?_,?_,rfl,rfl⟩
   ·exact rfl
   ·exact rY4
  ·have h3:name≠top:=by simpa using h3
   conv=>whnf
   refine⟨λh4=>?_,λh4=>?_⟩
   ·have h4:0<cntZ yg l name:=by
     have h:((cntZ yg l name:Nat):Int) > 0:=px h4;omega
    have hf:qx l top name=false:=by unfold qx;rw[if_neg hA,if_neg h3,if_pos (.inl h4)]
    conv=>whnf
    rw[hf];refine⟨[0,1,2],_,lookK z S (qh l) st,rfl,rfl,?_,?_,rfl,rfl⟩
    ·exact rfl
    ·exact rY4
   ·have h4:¬ 0<cntZ yg l name:=by
     have h:¬ ((cntZ yg l name:Nat):Int) > 0:=py h4;omega
    conv=>whnf
    refine⟨λh5=>?_,λh5=>?_⟩
    ·have h5:0<cntZ isNs l name:=by
      have h:((cntZ isNs l name:Nat):Int) > 0:=px h5;omega
     have hw:IntKind.i64.wrap (((j4 l name).ns:Nat)+((j4 l name).addr:Nat):Int)=((cntZ isNs l name+cntZ qz l name:Nat):Int):=by
      show IntKind.i64.wrap (((cntZ isNs l name:Nat):Int)+((cntZ qz l name:Nat):Int))=_;rw[qc _ om];omega
     conv=>whnf
     rw[hw];refine⟨λh6=>?_,λh6=>?_⟩
     ·have h6:cntZ isNs l name+cntZ qz l name<cntZ anyR l name:=by
       have h:((cntZ anyR l name:Nat):Int) > ((cntZ isNs l name+cntZ qz l name:Nat):Int):=px h6;omega
      have hf:qx l top name=false:=by unfold qx;rw[if_neg hA,if_neg h3,if_pos (.inr ⟨h5,h6⟩)]
      conv=>whnf
      rw[hf];refine⟨[0,1,2],_,lookK z S (qh l) st,rfl,rfl,?_,?_,rfl,rfl⟩
      ·exact rfl
      ·exact rY4
     ·have h6:¬ cntZ isNs l name+cntZ qz l name<cntZ anyR l name:=by
       have h:¬ ((cntZ anyR l name:Nat):Int) > ((cntZ isNs l name+cntZ qz l name:Nat):Int):=py h6;omega
      have hf:qx l top name=yx l name top (upsN name):=by unfold qx;rw[if_neg hA,if_neg h3,if_neg (λh=>h.elim h4 (λh=>h6 h.2))]
      conv=>whnf
      refine oD (zo name) rfl rfl ?_;rw[if_pos hn];conv=>whnf
      apply Fr;conv=>whnf
      refine .inv (Ls × Nat) (λs=>qa s.1/\s.1.length<=s.2/\yx l name top (upsF s.2 s.1)=qx l top name) (λs=>[(3,.d (.str s.1))]) (λs=>[]) (λs=>s.2) ⟨(name,name.length),[0,1,2,3,4,5,6,7,8,9],⟨hn,pu _,by rw[hf];unfold upsN;rw[if_pos hn]⟩,?_⟩ ?_
      ·exact rY4
      clear hf;intro s hs;obtain⟨g1,g2,g3⟩:=hs;conv=>whnf
      generalize s.1=n at g1 g2 g3 ⊢;generalize s.2=k at g2 g3 ⊢;obtain⟨k,rfl⟩:∃ k',k=k'+1:=⟨k - 1,by have:=g1.1;omega⟩;have hc:yx l name top (upsF (k+1) n)=if n=top then true else if n≠name/\0<cntZ isNs l n then cntZ anyR l name == cntZ qz l name else yx l name top (if n=[0] then [] else upsF k (n.drop (1+bt n 0))):=rfl;refine⟨λg4=>?_,λg4=>?_⟩
      ·have g4:n=top:=by simpa using g4
       have hf:qx l top name=true:=by rw[<-g3,hc,if_pos g4]
       conv=>whnf
       rw[hf];refine⟨[0,1,2],_,lookK z S (qh l) st,rfl,rfl,?_,?_,rfl,rfl⟩
       ·exact rfl
       ·exact rY4
      ·have g4:n≠top:=by simpa using g4
       rw [if_neg g4] at hc;conv=>whnf
       refine⟨λg5=>?_,λg5=>?_⟩
       ·have g5:n≠name:=by simpa using g5
        conv=>whnf
        have hg:=qi6 l n;cases ha:aget (qh l) n with
        |none =>
         rw [ha] at hg;have hns:cntZ isNs l n=0:=(congrArg Hd.ns hg).symm;rw [if_neg (λh=>by rw [hns] at h;exact absurd h.2 (cq 0))] at hc;refine ⟨none,by have:=xf (ev:=Hd.enc) zp (qh l) n;rw [ha] at this;exact this,?_⟩;conv=>whnf
         apply Fr;conv=>whnf
         refine oD (w6 n) rfl rfl ?_;by_cases hz:n=[0]
         ·have hp:qy n=([],3):=by unfold qy;rw[if_pos g1,if_pos hz]
          have hf:qx l top name=true:=by rw[<-g3,hc,if_pos hz];rfl
          rw[hp];conv=>whnf
          apply Tr;conv=>whnf
          rw[hf];refine⟨[0,1,2],_,lookK z S (qh l) st,rfl,rfl,?_,?_,rfl,rfl⟩
          ·exact rfl
          ·exact rY4
         ·have hp:qy n=(upN n,0):=by unfold qy;rw[if_pos g1,if_neg hz]
          rw [if_neg hz] at hc;rw[hp];conv=>whnf
          apply Fr;conv=>whnf
          refine⟨(upN n,k),[0,1,2,3,4,5,6,7,8,9],⟨kz g1 hz,?_,?_⟩,gw k,?_⟩
          ·have:=x8 g1 hz;show(upN n).length<=k;unfold upN;rw[ou];omega
          ·exact(by rw[<-g3,hc];rfl)
          ·exact rY4
        |some h0 =>
         rw [ha] at hg;have hns:h0.ns=cntZ isNs l n:=congrArg Hd.ns hg;refine ⟨some h0.enc,by have:=xf (ev:=Hd.enc) zp (qh l) n;rw [ha] at this;exact this,?_⟩;conv=>whnf
         refine⟨λg6=>?_,λg6=>?_⟩
         ·have g6:0<cntZ isNs l n:=dT g6
          have hf:qx l top name=((((j4 l name).all:Nat):Int) == (((j4 l name).addr:Nat):Int)):=by
           rw[<-g3,hc,if_pos ⟨g5,g6⟩,my,oy,oy];show(cntZ anyR l name=cntZ qz l name)↔((cntZ anyR l name:Nat):Int)=((cntZ qz l name:Nat):Int);omega
          conv=>whnf
          rw[hf];refine⟨[0,1,2],_,lookK z S (qh l) st,rfl,rfl,?_,?_,rfl,rfl⟩
          ·exact rfl
          ·exact rY4
         ·have g6:¬ 0<cntZ isNs l n:=dF g6
          rw [if_neg (λh=>g6 h.2)] at hc;conv=>whnf
          refine oD (w6 n) rfl rfl ?_;by_cases hz:n=[0]
          ·have hp:qy n=([],3):=by unfold qy;rw[if_pos g1,if_pos hz]
           have hf:qx l top name=true:=by rw[<-g3,hc,if_pos hz];rfl
           rw[hp];conv=>whnf
           apply Tr;conv=>whnf
           rw[hf];refine⟨[0,1,2],_,lookK z S (qh l) st,rfl,rfl,?_,?_,rfl,rfl⟩
           ·exact rfl
           ·exact rY4
          ·have hp:qy n=(upN n,0):=by unfold qy;rw[if_pos g1,if_neg hz]
           rw [if_neg hz] at hc;rw[hp];conv=>whnf
           apply Fr;conv=>whnf
           refine⟨(upN n,k),[0,1,2,3,4,5,6,7,8,9],⟨kz g1 hz,?_,?_⟩,gw k,?_⟩
           ·have:=x8 g1 hz;show(upN n).length<=k;unfold upN;rw[ou];omega
           ·exact(by rw[<-g3,hc];rfl)
           ·exact rY4
       ·have g5:n=name:=by simpa using g5
        rw [if_neg (λh=>h.1 g5)] at hc;conv=>whnf
        refine oD (w6 n) rfl rfl ?_;by_cases hz:n=[0]
        ·have hp:qy n=([],3):=by unfold qy;rw[if_pos g1,if_pos hz]
         have hf:qx l top name=true:=by rw[<-g3,hc,if_pos hz];rfl
         rw[hp];conv=>whnf
         apply Tr;conv=>whnf
         rw[hf];refine⟨[0,1,2],_,lookK z S (qh l) st,rfl,rfl,?_,?_,rfl,rfl⟩
         ·exact rfl
         ·exact rY4
        ·have hp:qy n=(upN n,0):=by unfold qy;rw[if_pos g1,if_neg hz]
         rw [if_neg hz] at hc;rw[hp];conv=>whnf
         apply Fr;conv=>whnf
         refine⟨(upN n,k),[0,1,2,3,4,5,6,7,8,9],⟨kz g1 hz,?_,?_⟩,gw k,?_⟩
         ·have:=x8 g1 hz;show(upN n).length<=k;unfold upN;rw[ou];omega
         ·exact(by rw[<-g3,hc];rfl)
         ·exact rY4
    ·have h5:¬ 0<cntZ isNs l name:=by
      have h:¬ ((cntZ isNs l name:Nat):Int) > 0:=py h5;omega
     have hf:qx l top name=yx l name top (upsN name):=by unfold qx;rw[if_neg hA,if_neg h3,if_neg (λh=>h.elim h4 (λh=>h5 h.1))]
     conv=>whnf
     refine oD (zo name) rfl rfl ?_;rw[if_pos hn];conv=>whnf
     apply Fr;conv=>whnf
     refine .inv (Ls × Nat) (λs=>qa s.1/\s.1.length<=s.2/\yx l name top (upsF s.2 s.1)=qx l top name) (λs=>[(3,.d (.str s.1))]) (λs=>[]) (λs=>s.2) ⟨(name,name.length),[0,1,2,3,4,5,6,7,8,9],⟨hn,pu _,by rw[hf];unfold upsN;rw[if_pos hn]⟩,?_⟩ ?_
     ·exact rY4
     clear hf;intro s hs;obtain⟨g1,g2,g3⟩:=hs;conv=>whnf
     generalize s.1=n at g1 g2 g3 ⊢;generalize s.2=k at g2 g3 ⊢;obtain⟨k,rfl⟩:∃ k',k=k'+1:=⟨k - 1,by have:=g1.1;omega⟩;have hc:yx l name top (upsF (k+1) n)=if n=top then true else if n≠name/\0<cntZ isNs l n then cntZ anyR l name == cntZ qz l name else yx l name top (if n=[0] then [] else upsF k (n.drop (1+bt n 0))):=rfl;refine⟨λg4=>?_,λg4=>?_⟩
     ·have g4:n=top:=by simpa using g4
      have hf:qx l top name=true:=by rw[<-g3,hc,if_pos g4]
      conv=>whnf
      rw[hf];refine⟨[0,1,2],_,lookK z S (qh l) st,rfl,rfl,?_,?_,rfl,rfl⟩
      ·exact rfl
      ·exact rY4
     ·have g4:n≠top:=by simpa using g4
      rw [if_neg g4] at hc;conv=>whnf
      refine⟨λg5=>?_,λg5=>?_⟩
      ·have g5:n≠name:=by simpa using g5
       conv=>whnf
       have hg:=qi6 l n;cases ha:aget (qh l) n with
       |none =>
        rw [ha] at hg;have hns:cntZ isNs l n=0:=(congrArg Hd.ns hg).symm;rw [if_neg (λh=>by rw [hns] at h;exact absurd h.2 (cq 0))] at hc;refine ⟨none,by have:=xf (ev:=Hd.enc) zp (qh l) n;rw [ha] at this;exact this,?_⟩;conv=>whnf
        apply Fr;conv=>whnf
        refine oD (w6 n) rfl rfl ?_;by_cases hz:n=[0]
        ·have hp:qy n=([],3):=by unfold qy;rw[if_pos g1,if_pos hz]
         have hf:qx l top name=true:=by rw[<-g3,hc,if_pos hz];rfl
         rw[hp];conv=>whnf
         apply Tr;conv=>whnf
         rw[hf];refine⟨[0,1,2],_,lookK z S (qh l) st,rfl,rfl,?_,?_,rfl,rfl⟩
         ·exact rfl
         ·exact rY4
        ·have hp:qy n=(upN n,0):=by unfold qy;rw[if_pos g1,if_neg hz]
         rw [if_neg hz] at hc;rw[hp];conv=>whnf
         apply Fr;conv=>whnf
         refine⟨(upN n,k),[0,1,2,3,4,5,6,7,8,9],⟨kz g1 hz,?_,?_⟩,gw k,?_⟩
         ·have:=x8 g1 hz;show(upN n).length<=k;unfold upN;rw[ou];omega
         ·exact(by rw[<-g3,hc];rfl)
         ·exact rY4
       |some h0 =>
        rw [ha] at hg;have hns:h0.ns=cntZ isNs l n:=congrArg Hd.ns hg;refine ⟨some h0.enc,by have:=xf (ev:=Hd.enc) zp (qh l) n;rw [ha] at this;exact this,?_⟩;conv=>whnf
        refine⟨λg6=>?_,λg6=>?_⟩
        ·have g6:0<cntZ isNs l n:=dT g6
         have hf:qx l top name=((((j4 l name).all:Nat):Int) == (((j4 l name).addr:Nat):Int)):=by
          rw[<-g3,hc,if_pos ⟨g5,g6⟩,my,oy,oy];show(cntZ anyR l name=cntZ qz l name)↔((cntZ anyR l name:Nat):Int)=((cntZ qz l name:Nat):Int);omega
         conv=>whnf
         rw[hf];refine⟨[0,1,2],_,lookK z S (qh l) st,rfl,rfl,?_,?_,rfl,rfl⟩
         ·exact rfl
         ·exact rY4
        ·have g6:¬ 0<cntZ isNs l n:=dF g6
         rw [if_neg (λh=>g6 h.2)] at hc;conv=>whnf
         refine oD (w6 n) rfl rfl ?_;by_cases hz:n=[0]
         ·have hp:qy n=([],3):=by unfold qy;rw[if_pos g1,if_pos hz]
          have hf:qx l top name=true:=by rw[<-g3,hc,if_pos hz];rfl
          rw[hp];conv=>whnf
          apply Tr;conv=>whnf
          rw[hf];refine⟨[0,1,2],_,lookK z S (qh l) st,rfl,rfl,?_,?_,rfl,rfl⟩
          ·exact rfl
          ·exact rY4
         ·have hp:qy n=(upN n,0):=by unfold qy;rw[if_pos g1,if_neg hz]
          rw [if_neg hz] at hc;rw[hp];conv=>whnf
          apply Fr;conv=>whnf
          refine⟨(upN n,k),[0,1,2,3,4,5,6,7,8,9],⟨kz g1 hz,?_,?_⟩,gw k,?_⟩
          ·have:=x8 g1 hz;show(upN n).length<=k;unfold upN;rw[ou];omega
          ·exact(by rw[<-g3,hc];rfl)
          ·exact rY4
      ·have g5:n=name:=by simpa using g5
       rw [if_neg (λh=>h.1 g5)] at hc;conv=>whnf
       refine oD (w6 n) rfl rfl ?_;by_cases hz:n=[0]
       ·have hp:qy n=([],3):=by unfold qy;rw[if_pos g1,if_pos hz]
        have hf:qx l top name=true:=by rw[<-g3,hc,if_pos hz];rfl
        rw[hp];conv=>whnf
        apply Tr;conv=>whnf
        rw[hf];refine⟨[0,1,2],_,lookK z S (qh l) st,rfl,rfl,?_,?_,rfl,rfl⟩
        ·exact rfl
        ·exact rY4
       ·have hp:qy n=(upN n,0):=by unfold qy;rw[if_pos g1,if_neg hz]
        rw [if_neg hz] at hc;rw[hp];conv=>whnf
        apply Fr;conv=>whnf
        refine⟨(upN n,k),[0,1,2,3,4,5,6,7,8,9],⟨kz g1 hz,?_,?_⟩,gw k,?_⟩
        ·have:=x8 g1 hz;show(upN n).length<=k;unfold upN;rw[ou];omega
        ·exact(by rw[<-g3,hc];rfl)
        ·exact rY4
def xq(z:Zo)(l:List RR)(r:RR):Bool:=yz z.apex r && !l.any λx=>keyZ x == keyZ r
theorem ys3:∀ {l:List (List DV × List SV)} {key:List DV} (z:List SV),zg l key=none->opnM l key z=(l++[(key,z)],z,l.length)
 |[],_,_,_=>rfl
 |(k,v) :: l,key,z,h=>by
  unfold zg at h;split at h
  ·cases h
  ·rename_i hk;unfold opnM;rw[if_neg hk,ys3 z h];rfl
theorem yn8{key:List DV}{v:List SV}(hk:jo key key=true):∀ {l:List (List DV × List SV)},zg l key=none->zg (l++[(key,v)]) key=some v
 |[],_=>by
  show(if jo key key then some v else zg [] key)=some v;rw[if_pos hk]
 |(k,u) :: l,h=>by
  unfold zg at h;split at h
  ·cases h
  ·rename_i hn;show(if jo key k then some u else zg (l++[(key,v)]) key)=some v;rw[if_neg hn];exact yn8 hk h
theorem zf7{zero:List SV}{o:Option Hd}{F:SV->Prop}(hz:zero=Hd.no.enc)(hF:Eng.lookK false true zero (some (o.getD Hd.no).enc) F):Eng.lookK false true zero (o.map Hd.enc) F:=by
 cases o with
 |none=>subst hz;exact hF
 |some h=>exact hF
theorem yr8(k:List DV)(v v':List SV):∀ l:List (List DV × List SV),putQ (l++[(k,v)]) l.length v'=l++[(k,v')]
 |[]=>rfl
 |p :: l=>by
  show p :: putQ (l++[(k,v)]) l.length v'=_;rw[yr8 k v v' l];rfl
theorem xq9(z:Zo)(l:List RR)(hl:l.length<=300)(r:RR)(hr:r.nm.length<=100000) :
 COk Tryz.prog 109 [.ptr 0 0,.agg (r.enc.map .d)] (lookK z (jt l) (qh l) .free) (λs k=>s = .d (.bool (xq z l r))/\k=if xq z l r then lookK z (jt (l++[r])) (qh (l++[r])) .free else lookK z (jt l) (qh l) .free):=by
 refine yq (TT:=TT) (IN:=qd []) qe qg mixed 1000 Tryz.func109 rfl (qb Tryz.func109 (by kernel_rfl) rfl) 106 (by kernel_rfl) ?_;conv=>whnf
 refine⟨λh1=>?_,λh1=>?_⟩
 ·have hb:xq z l r=false:=by unfold xq yz;rw[show(r.cl == 1)=false by simpa using h1];rfl
  conv=>whnf
  rw[hb];refine⟨[0,1,2],_,lookK z (jt l) (qh l) .free,rfl,rfl,?_,?_,rfl,rfl⟩
  ·exact rfl
  ·exact rY4
 have h1:(r.cl == 1)=true:=by simpa using h1
 conv=>whnf
 refine⟨λh2=>?_,λh2=>?_⟩
 ·have hb:xq z l r=false:=by unfold xq yz;rw[h1,show(r.ty != 41)=false by simpa using h2];rfl
  conv=>whnf
  rw[hb];refine⟨[0,1,2],_,lookK z (jt l) (qh l) .free,rfl,rfl,?_,?_,rfl,rfl⟩
  ·exact rfl
  ·exact rY4
 have h2:(r.ty != 41)=true:=by simpa using h2
 conv=>whnf
 refine⟨λh3=>?_,λh3=>?_⟩
 ·have hb:xq z l r=false:=by unfold xq yz;rw[h1,h2,show(r.ttl != 0)=false by simpa using h3];rfl
  conv=>whnf
  rw[hb];refine⟨[0,1,2],_,lookK z (jt l) (qh l) .free,rfl,rfl,?_,?_,rfl,rfl⟩
  ·exact rfl
  ·exact rY4
 have h3:(r.ttl != 0)=true:=by simpa using h3
 conv=>whnf
 refine .data _ (ya2 r) rfl rfl ?_;cases h4:r.check with
 |false =>
  have hb:xq z l r=false:=by unfold xq yz;rw[h1,h2,h3,h4];rfl
  conv=>whnf
  apply Tr;conv=>whnf
  rw[hb];refine⟨[0,1,2],_,lookK z (jt l) (qh l) .free,rfl,rfl,?_,?_,rfl,rfl⟩
  ·exact rfl
  ·exact rY4
 |true =>
  conv=>whnf
  apply Fr;conv=>whnf
  refine .data _ (yi3 _ _) rfl rfl ?_;cases h5:qv r.nm z.apex with
  |false =>
   have hb:xq z l r=false:=by unfold xq yz;rw[h1,h2,h3,h4,h5];rfl
   conv=>whnf
   apply Tr;conv=>whnf
   rw[hb];refine⟨[0,1,2],_,lookK z (jt l) (qh l) .free,rfl,rfl,?_,?_,rfl,rfl⟩
   ·exact rfl
   ·exact rY4
  |true =>
   have hb:xq z l r = !l.any λx=>keyZ x == keyZ r:=by unfold xq yz;rw[h1,h2,h3,h4,h5];rfl
   conv=>whnf
   apply Fr;conv=>whnf
   refine oD (ke r.nm om) rfl rfl ?_;conv=>whnf
   refine .data _ (xi9 r.ty r.d) rfl rfl ?_;conv=>whnf
   have hfs:zg (aenc z6 intV (jt l)) [.str (fold r.nm),.int .u16 r.ty,.int .u16 r.cl,.str (xj r.ty r.d)]=(aget (jt l) (keyZ r)).map intV:=xf yr1 (jt l) (keyZ r);rw [xi5] at hfs;cases h6:l.any λx=>keyZ x == keyZ r with
   |true =>
    rw [h6] at hfs hb;refine⟨_,hfs,?_⟩;conv=>whnf
    apply Tr;conv=>whnf
    rw[hb];refine⟨[0,1,2],_,lookK z (jt l) (qh l) .free,rfl,rfl,?_,?_,rfl,rfl⟩
    ·exact rfl
    ·exact rY4
   |false =>
    rw [h6] at hfs hb;refine⟨_,hfs,?_⟩;conv=>whnf
    apply Fr;conv=>whnf
    have hop:=ys3 [SV.d (.int .i64 0)] hfs;have hfs2:zg (aenc z6 intV (jt l)++[(z6 (keyZ r),[SV.d (.int .i64 0)])]) [.str (fold r.nm),.int .u16 r.ty,.int .u16 r.cl,.str (xj r.ty r.d)]=some [SV.d (.int .i64 0)]:=yn8 ((yr1 (keyZ r) (keyZ r)).trans (pn rfl)) hfs;have hss:putQ (aenc z6 intV (jt l)++[(z6 (keyZ r),[SV.d (.int .i64 0)])]) (aenc z6 intV (jt l)).length [SV.d (.int .i64 1)]=aenc z6 intV (jt (l++[r])):=by
     rw[yr8,zz2];unfold aenc;rw[du];rfl
    apply Exists.intro;refine⟨?_,?_⟩
    ·conv=>whnf
     repeat'(first|exact ⟨⟩|exact⟨rfl,rfl⟩|refine⟨_,hfs,?_⟩|refine⟨_,hfs2,?_⟩|refine⟨_,_,_,hop,?_⟩|intro s|refine⟨rfl,_,hss,?_⟩|apply And.intro|(conv=>whnf))
    conv=>whnf
    rw[hb];have hfn:zg (aenc strK Hd.enc (qh l)) [.str (fold r.nm)]=(aget (qh l) (fold r.nm)).map Hd.enc:=xf zp (qh l) (fold r.nm);have hg:=qi6 l (fold r.nm);have b1:=u6 anyR l (fold r.nm);have b2:=u6 yg l (fold r.nm);have b3:=u6 isNs l (fold r.nm);have b4:=u6 wm l (fold r.nm);have b5:=u6 qz l (fold r.nm);have hh:(aget (qh l) (fold r.nm)).getD Hd.no=j4 l (fold r.nm):=hg;refine⟨_,hfn,?_⟩;refine zf7 rfl ?_;rw[hh];have hg:j4 l (fold r.nm)=j4 l (fold r.nm):=rfl;generalize hgen:j4 l (fold r.nm)=h at hh ⊢;clear hg;have hg:h=j4 l (fold r.nm):=hgen.symm;have c1:h.all<=300:=by rw[hg];exact gn b1 hl
    have c2:h.soa<=300:=by rw[hg];exact gn b2 hl
    have c3:h.ns<=300:=by rw[hg];exact gn b3 hl
    have c4:h.alias<=300:=by rw[hg];exact gn b4 hl
    have c5:h.addr<=300:=by rw[hg];exact gn b5 hl
    have e0:IntKind.i64.wrap ((h.all:Int)+1)=((h.all+1:Nat):Int):=by rw[qc _ om];omega
    have e1:IntKind.i64.wrap ((h.soa:Int)+1)=((h.soa+1:Nat):Int):=by rw[qc _ om];omega
    have e2:IntKind.i64.wrap ((h.ns:Int)+1)=((h.ns+1:Nat):Int):=by rw[qc _ om];omega
    have e3:IntKind.i64.wrap ((h.alias:Int)+1)=((h.alias+1:Nat):Int):=by rw[qc _ om];omega
    have e4:IntKind.i64.wrap ((h.addr:Int)+1)=((h.addr+1:Nat):Int):=by rw[qc _ om];omega
    conv=>whnf
    rw[e0];refine⟨λk1=>?_,λk1=>?_⟩
    ·have k1:r.ty=6:=by simpa using k1
     have hadd:h.add r=⟨h.all+1,h.soa+1,h.ns,h.alias,h.addr⟩:=by unfold Hd.add;rw[k1];rfl
     conv=>whnf
     rw[e1];have hput:putM (aenc strK Hd.enc (qh l)) [.str (fold r.nm)] (h.add r).enc=aenc strK Hd.enc (qh (l++[r])):=by
      have:=qf2 (ev:=Hd.enc) zp (qh l) (fold r.nm) (h.add r);rw[uu,hh];exact this
     rw [hadd] at hput;refine⟨_,hput,?_⟩;conv=>whnf
     refine⟨[0,1,2],_,lookK z (jt (l++[r])) (qh (l++[r])) .free,rfl,rfl,?_,?_,rfl,rfl⟩
     ·exact rfl
     ·exact rY4
    have k1:r.ty≠6:=by simpa using k1
    conv=>whnf
    refine⟨λk2=>?_,λk2=>?_⟩
    ·have k2:r.ty=2:=by simpa using k2
     have hadd:h.add r=⟨h.all+1,h.soa,h.ns+1,h.alias,h.addr⟩:=by unfold Hd.add;rw[k2];rfl
     conv=>whnf
     rw[e2];have hput:putM (aenc strK Hd.enc (qh l)) [.str (fold r.nm)] (h.add r).enc=aenc strK Hd.enc (qh (l++[r])):=by
      have:=qf2 (ev:=Hd.enc) zp (qh l) (fold r.nm) (h.add r);rw[uu,hh];exact this
     rw [hadd] at hput;refine⟨_,hput,?_⟩;conv=>whnf
     refine⟨[0,1,2],_,lookK z (jt (l++[r])) (qh (l++[r])) .free,rfl,rfl,?_,?_,rfl,rfl⟩
     ·exact rfl
     ·exact rY4
    have k2:r.ty≠2:=by simpa using k2
    conv=>whnf
    refine⟨λk3=>?_,λk3=>?_⟩
    ·have k3:r.ty=5:=by simpa using k3
     have hadd:h.add r=⟨h.all+1,h.soa,h.ns,h.alias+1,h.addr⟩:=by unfold Hd.add;rw[k3];rfl
     conv=>whnf
     rw[e3];have hput:putM (aenc strK Hd.enc (qh l)) [.str (fold r.nm)] (h.add r).enc=aenc strK Hd.enc (qh (l++[r])):=by
      have:=qf2 (ev:=Hd.enc) zp (qh l) (fold r.nm) (h.add r);rw[uu,hh];exact this
     rw [hadd] at hput;refine⟨_,hput,?_⟩;conv=>whnf
     refine⟨[0,1,2],_,lookK z (jt (l++[r])) (qh (l++[r])) .free,rfl,rfl,?_,?_,rfl,rfl⟩
     ·exact rfl
     ·exact rY4
    have k3:r.ty≠5:=by simpa using k3
    conv=>whnf
    refine⟨λk4=>?_,λk4=>?_⟩
    ·have k4':=k4;have k4:r.ty=1:=by simpa using k4
     have hadd:h.add r=⟨h.all+1,h.soa,h.ns,h.alias,h.addr+1⟩:=by unfold Hd.add;rw[k4];rfl
     conv=>whnf
     refine brT k4' ?_;conv=>whnf
     rw[e4];have hput:putM (aenc strK Hd.enc (qh l)) [.str (fold r.nm)] (h.add r).enc=aenc strK Hd.enc (qh (l++[r])):=by
      have:=qf2 (ev:=Hd.enc) zp (qh l) (fold r.nm) (h.add r);rw[uu,hh];exact this
     rw [hadd] at hput;refine⟨_,hput,?_⟩;conv=>whnf
     refine⟨[0,1,2],_,lookK z (jt (l++[r])) (qh (l++[r])) .free,rfl,rfl,?_,?_,rfl,rfl⟩
     ·exact rfl
     ·exact rY4
    have k4:r.ty≠1:=by simpa using k4
    conv=>whnf
    refine⟨λk5=>?_,λk5=>?_⟩
    ·have k5:r.ty=28:=by simpa using k5
     have hadd:h.add r=⟨h.all+1,h.soa,h.ns,h.alias,h.addr+1⟩:=by unfold Hd.add;rw[k5];rfl
     conv=>whnf
     rw[e4];have hput:putM (aenc strK Hd.enc (qh l)) [.str (fold r.nm)] (h.add r).enc=aenc strK Hd.enc (qh (l++[r])):=by
      have:=qf2 (ev:=Hd.enc) zp (qh l) (fold r.nm) (h.add r);rw[uu,hh];exact this
     rw [hadd] at hput;refine⟨_,hput,?_⟩;conv=>whnf
     refine⟨[0,1,2],_,lookK z (jt (l++[r])) (qh (l++[r])) .free,rfl,rfl,?_,?_,rfl,rfl⟩
     ·exact rfl
     ·exact rY4
    have k5:r.ty≠28:=by simpa using k5
    have hadd:h.add r=⟨h.all+1,h.soa,h.ns,h.alias,h.addr⟩:=by unfold Hd.add;rw[if_neg k1,if_neg k2,if_neg k3,if_neg (λh=>h.elim k4 k5)]
    conv=>whnf
    have hput:putM (aenc strK Hd.enc (qh l)) [.str (fold r.nm)] (h.add r).enc=aenc strK Hd.enc (qh (l++[r])):=by
     have:=qf2 (ev:=Hd.enc) zp (qh l) (fold r.nm) (h.add r);rw[uu,hh];exact this
    rw [hadd] at hput;refine⟨_,hput,?_⟩;conv=>whnf
    refine⟨[0,1,2],_,lookK z (jt (l++[r])) (qh (l++[r])) .free,rfl,rfl,?_,?_,rfl,rfl⟩
    ·exact rfl
    ·exact rY4
theorem zy2{z:Zo}(h1:cntZ yg z.rrs (fold z.apex)=1)(h2:cntZ isNs z.rrs (fold z.apex)≠0):kf z=(qh z.rrs).all λe=>qx z.rrs (fold z.apex) e.1:=by
 unfold kf;rw[h1,xb9 z.rrs (λn=>qx z.rrs (fold z.apex) n)];have:(cntZ isNs z.rrs (fold z.apex) != 0)=true:=by simpa using h2
 rw[this];rfl
instance:Inhabited Hd:=⟨Hd.no⟩
theorem ym6(z:Zo)(S:List ((Ls × Int × Int × Ls) × Nat))(N:List (Ls × Hd))(st:MS){σ:Nat->Nat}(h1:σ 1=1)(h2:σ 2=2):mapB σ (lookK z S N st)=lookK z S N st:=by
 show[KB.cells _ [_,_,SV.map (σ 1),SV.map (σ 2)],KB.mapx _ _ _ (mapM _ (aenc z6 intV S)) _,KB.mapx _ _ _ (mapM _ (aenc strK Hd.enc N)) _]=_;rw[h1,h2,jn9,jo6];rfl
theorem xh8(z:Zo)(S:List ((Ls × Int × Int × Ls) × Nat))(hl:z.rrs.length<=300)(hn:∀ r ∈ z.rrs,qa r.nm)(ha:z.apex.length<=100000) :
 COk Tryz.prog 110 [.ptr 0 0] (lookK z S (qh z.rrs) .free) (λs k=>s = .d (.bool (kf z))/\k=lookK z S (qh z.rrs) .free):=by
 refine yq (TT:=TT) (IN:=qd []) qe qg mixed 1000 Tryz.func110 rfl (qb Tryz.func110 (by kernel_rfl) rfl) 42 (by kernel_rfl) ?_;conv=>whnf
 refine oD (ke z.apex om) rfl rfl ?_;conv=>whnf
 have hfn:zg (aenc strK Hd.enc (qh z.rrs)) [.str (fold z.apex)]=(aget (qh z.rrs) (fold z.apex)).map Hd.enc:=xf zp (qh z.rrs) (fold z.apex);have hg:=qi6 z.rrs (fold z.apex);refine⟨_,hfn,?_⟩;refine zf7 rfl ?_;rw[hg];conv=>whnf
 refine⟨λh1=>?_,λh1=>?_⟩
 ·have hb:kf z=false:=by
   have h1:((cntZ yg z.rrs (fold z.apex):Nat):Int)≠1:=(show(((j4 z.rrs (fold z.apex)).soa:Nat):Int)≠1 by simpa using h1);unfold kf;rw[show(cntZ yg z.rrs (fold z.apex) == 1)=false by rw[oo];omega]
   rfl
  conv=>whnf
  rw[hb];refine⟨[0,1,2],_,lookK z S (qh z.rrs) .free,rfl,rfl,?_,?_,rfl,rfl⟩
  ·exact rfl
  ·exact rY4
 have h1:cntZ yg z.rrs (fold z.apex)=1:=by
  have h2:(((j4 z.rrs (fold z.apex)).soa:Nat):Int)=1:=by simpa using h1
  have h3:((cntZ yg z.rrs (fold z.apex):Nat):Int)=1:=h2;omega
 conv=>whnf
 refine⟨λh2=>?_,λh2=>?_⟩
 ·have hb:kf z=false:=by
   have h2:(((j4 z.rrs (fold z.apex)).ns:Nat):Int)=0:=by simpa using h2
   have h3:((cntZ isNs z.rrs (fold z.apex):Nat):Int)=0:=h2;unfold kf;rw[show(cntZ isNs z.rrs (fold z.apex) != 0)=false by rw[bne_eq_false_iff_eq];omega];rw[lx,l8]
  conv=>whnf
  rw[hb];refine⟨[0,1,2],_,lookK z S (qh z.rrs) .free,rfl,rfl,?_,?_,rfl,rfl⟩
  ·exact rfl
  ·exact rY4
 have h2:cntZ isNs z.rrs (fold z.apex)≠0:=by
  have h2:¬ (((j4 z.rrs (fold z.apex)).ns:Nat):Int)=0:=by simpa using h2
  have h3:¬ ((cntZ isNs z.rrs (fold z.apex):Nat):Int)=0:=h2;omega
 have hlaw:=zy2 h1 h2;conv=>whnf
 intro bs c rem hbl hrem;conv=>whnf
 refine .inv (List Nat × Nat) (λs=>s.1.Nodup/\(∀ q ∈ s.1,q<(qh z.rrs).length)/\∀ q,q<(qh z.rrs).length->q ∉ s.1->qx z.rrs (fold z.apex) ((qh z.rrs).getD q default).1=true) (λs=>[]) (λs=>[(4,.iter 2 bs c s.1 s.2)]) (λs=>s.1.length) ⟨(rem,bs.length),[0,1,2,3,4],?_,?_⟩ ?_
 ·have hL:(aenc strK Hd.enc (qh z.rrs)).length=(qh z.rrs).length:=mq ..;refine⟨?_,λq hq=>?_,λq hq hn=>?_⟩
  ·rw[<-hrem];exact List.nodup_range
  ·rw [<-hrem,hL] at hq;exact o8.1 hq
  ·exact absurd (by rw[<-hrem,hL];exact o8.2 hq) hn
 ·exact rY4
 intro s hs;conv=>whnf
 obtain⟨s1,s2,s3⟩:=hs;generalize s.1=R at s1 s2 s3 ⊢;generalize s.2=lst;refine⟨⟨rfl,rfl⟩,λq hq=>?_,λh0=>?_⟩
 ·have hql:=s2 q hq;have hqe:(qh z.rrs)[q]? = some (qh z.rrs)[q]:=pp hql;have hgd:(qh z.rrs).getD q default=(qh z.rrs)[q]:=by rw[fy,hqe];rfl
  have hmem:=oz hql;generalize (qh z.rrs)[q]=e at hqe hgd hmem;have hae:(aenc strK Hd.enc (qh z.rrs))[q]? = some (strK e.1,e.2.enc):=by unfold aenc;rw[mw,hqe];rfl
  have he2:=zu4 hmem;obtain⟨r,hr,hre⟩:=yl9 hmem;have hen:qa e.1:=by rw[<-hre];exact wi (hn r hr)
  refine⟨_,_,hae,?_⟩;conv=>whnf
  intro R' hR';conv=>whnf
  refine⟨⟨rfl,rfl⟩,_,_,hae,?_⟩;conv=>whnf
  rw[he2];refine .rel _ (COk.frameX (xu4 z S z.rrs hl (.born bs c) e.1 (fold z.apex) hen) [0,1,2] rfl rfl (ym6 z S (qh z.rrs) (.born bs c) rfl rfl).symm) (λx ks' hR=>?_);obtain⟨s0,k0,⟨rfl,rfl⟩,rfl,rfl⟩:=hR;rw[ym6 z S (qh z.rrs) (.born bs c) rfl rfl];cases hfit:qx z.rrs (fold z.apex) e.1 with
  |false =>
   have hb:kf z=false:=by
    rw[hlaw,dx];exact⟨e,hmem,by rw[hfit];decide⟩
   conv=>whnf
   apply Tr;conv=>whnf
   rw[hb];refine⟨[0,1,2],_,lookK z S (qh z.rrs) .free,rfl,rfl,?_,?_,rfl,rfl⟩
   ·exact rfl
   ·exact rY4
  |true =>
   conv=>whnf
   apply Fr;conv=>whnf
   refine⟨(R',q),[0,1,2,3,4],⟨?_,?_,?_⟩,?_,?_⟩
   ·rw[<-hR'];exact s1.erase q
   ·intro q' hq';rw [<-hR'] at hq';exact s2 q' (List.mem_of_mem_erase hq')
   ·intro q' hq' hn';by_cases hqq:q'=q
    ·subst hqq;rw[hgd];exact hfit
    ·exact s3 q' hq' (λhm=>hn' (by rw[<-hR'];exact(List.mem_erase_of_ne hqq).2 hm))
   ·rw[<-hR'];show(R.erase q).length<R.length;rw[List.length_erase_of_mem hq];have:=List.length_pos_of_mem hq;omega
   ·exact rY4
 ·have hb:kf z=true:=by
   rw[hlaw,o7];intro e he;obtain⟨q,hq,rfl⟩:=mr.1 he;have:=s3 q hq (by rw[h0];simp);rw [fy,pp hq] at this;exact this
  conv=>whnf
  rw[hb];refine⟨[0,1,2],_,lookK z S (qh z.rrs) .free,rfl,rfl,?_,?_,rfl,rfl⟩
  ·exact rfl
  ·exact rY4
theorem DenTo.tup[Dr]{l m:List SV}(h:DenToL l m):DenTo (.tup l) (.tup m):=λw M β v hd=>by
 cases hd with
 |tup _ vs h1 h2 =>
  refine .tup _ vs (by rw[<-h.len];exact h1) (λj t u ht hu=>?_);have hj:j<l.length:=by rw[h.len];exact(p6.1 ht).1
  exact h.at j _ t (pp hj) ht _ _ _ _ (h2 j _ u (pp hj) hu)
theorem COk.resD[Dr]{P:Program}{f:FuncId}{args:List SV}{ks:List KB}{R R':SV->List KB->Prop}(h:COk P f args ks R)(hR:∀ s k,R s k->∃ s',DenTo s s'/\R' s' k):COk P f args ks R' :=
 ⟨h.1,λX w β fp vs hM hl hd=>(h.2 X w β fp vs hM hl hd).mono (λe w' h=>by
  obtain⟨r,s,ks',β',fp',h1,h2,h3,h4⟩:=h;obtain⟨s',hs,hR'⟩:=hR s ks' h2;exact⟨r,s',ks',β',fp',h1,hR',h3,hs _ _ _ _ h4⟩)⟩
structure Fo where
 zz:Bool
 zones:List Zo
 hz:Bool
 hosts:List (Int × Bool × List Int)
def zj(zs:List Zo)(n:Ls):Option Nat:=zs.findIdx? λz=>fold z.apex == n
theorem ye{n c:Ls}(h:qv n c=true):qa n/\qa c:=by
 unfold qv at h;simp only [p7,lr] at h;exact⟨h.1,h.2.1⟩
theorem qz0{c:Ls}(hc:qa c):qu (fold c)=qu c:=by
 unfold qu;rw[if_pos hc,if_pos (wi hc),qs1 hc];unfold fl;rw[mq]
theorem yg6{a b:Ls}(ha:qa a)(hb:qa b)(h:fold a=fold b):fl a=fl b:=by
 rw[<-qs1 ha,<-qs1 hb,h]
theorem jw9{n a b:Ls}(ha:qa a)(h:fold a=fold b)(hw:qv n b=true):qv n a=true:=by
 have hb:=(ye hw).2;unfold qv at hw ⊢;rw[yg6 ha hb h,pn ha];rwa [pn hb] at hw
theorem jy4{n z:Ls}(h:qv n z=true):qu z<=qu n:=by
 obtain⟨hn,hz⟩:=ye h;unfold qv at h;simp only [p7,r9] at h;have hl:=h.2.2.length_le;unfold fl at hl;rw [mq,mq] at hl;unfold qu;rw[if_pos hn,if_pos hz];exact hl
theorem qx4{n z:Ls}(h:qv n z=true)(hs:qp n z=false):qu z<qu n:=by
 obtain⟨hn,hz⟩:=ye h;have hle:=jy4 h;apply Classical.byContradiction;intro hc;unfold qv at h;simp only [p7,r9] at h;have hlen:(fl z).length=(fl n).length:=by
  unfold qu at hle hc;rw [if_pos hn,if_pos hz] at hle hc;unfold fl;rw[mq,mq];omega
 have e:=h.2.2.eq_of_length hlen;have:qp n z=true:=by
  unfold qp;rw[pn hn,pn hz,p9,p9,oy,u0 hn,u0 hz,e]
 rw [this] at hs;cases hs
theorem Zo.ok_name{z:Zo}(h:z.ok=true):qa z.apex:=by
 unfold Zo.ok at h;simp only [p7,lr] at h;exact h.1
theorem Zo.ok_take{z:Zo}(h:z.ok=true){r:RR}(hr:r ∈ z.rrs):yz z.apex r=true:=by
 unfold Zo.ok at h;simp only [p7,o7] at h;exact h.2.2.1 r hr
theorem ja0{zs:List Zo}{b:Ls}{i:Nat}(h:zj zs b=some i):∃ z,zs[i]? = some z/\fold z.apex=b:=by
 unfold zj at h;obtain⟨hi,h1,_⟩:=List.findIdx?_eq_some_iff_getElem.1 h;exact⟨zs[i],pp hi,by simpa using h1⟩
def Zo.V(z:Zo):SV:=.agg [.d (.str z.apex),.d (rrsD z.z z.rrs)]
theorem zx6(z:Zo){i:Nat}{r:RR}(h:z.rrs[i]? = some r):xh z.apex (z.rrs.take (i+1))=(xh z.apex (z.rrs.take i) && xq z (z.rrs.take i) r):=by
 rw[o3,h];exact yd1 _ _ _
theorem ql2(z:Zo)(S:List ((Ls × Int × Int × Ls) × Nat))(N:List (Ls × Hd))(st:MS)(σ:Nat->Nat):mapB σ (lookK z S N st)=[.cells 128 [.d (.str z.apex),.d (rrsD z.z z.rrs),.map (σ 1),.map (σ 2)],vk S,wg N st]:=by
 show[KB.cells _ [_,_,SV.map (σ 1),SV.map (σ 2)],KB.mapx _ _ _ (mapM _ (aenc z6 intV S)) _,KB.mapx _ _ _ (mapM _ (aenc strK Hd.enc N)) _]=_;rw[jn9,jo6];rfl
theorem xr5(z:Zo)(hz:∀ r ∈ z.rrs,r.nm.length<=100000/\r.d.length<=100000) :
 COk Tryz.prog 73 [z.V] [] (λs k=>∃ S N b,s = .tup [.agg [.d (.str z.apex),.d (rrsD z.z z.rrs),.map 0,.map 1],.d b]/\DenTo (.d b) (.d (.bool z.ok))/\k=[vk S,wg N .free]):=by
 refine yq (TT:=TT) (IN:=qd []) qe qg mixed 1000 Tryz.func73 rfl (qb Tryz.func73 (by kernel_rfl) rfl) 38 (by kernel_rfl) ?_;conv=>whnf
 refine oD (zo z.apex) rfl rfl ?_;by_cases hn:qa z.apex;case neg =>
  rw[if_neg hn];have hb:z.ok=false:=by rw[z.ok_eq,po hn];rfl
  conv=>whnf
  apply Tr;conv=>whnf
  rw[hb];refine⟨[2,3],_,[vk [],wg [] .free],rfl,rfl,?_,?_,[],[],.ff,rfl,DenTo.ff,rfl⟩
  ·exact rfl
  ·exact rY2
 rw[if_pos hn];conv=>whnf
 apply Fr;conv=>whnf
 refine⟨λh1=>?_,λh1=>?_⟩
 ·have h1:¬ z.rrs.length<=256:=dT h1
  have hb:z.ok=false:=by rw[z.ok_eq,po h1,lx,l8]
  rw[hb];conv=>whnf
  refine⟨[2,3],_,[vk [],wg [] .free],rfl,rfl,?_,?_,[],[],.ff,rfl,DenTo.ff,rfl⟩
  ·exact rfl
  ·exact rY2
 have h1:z.rrs.length<=256:=dF h1
 have hok:z.ok=(xh z.apex z.rrs && kf z):=by rw[z.ok_eq,pn hn,pn h1];rfl
 conv=>whnf
 refine .inv Nat (λi=>i<=z.rrs.length/\xh z.apex (z.rrs.take i)=true) (λi=>[(28,iV i)]) (λi=>[(2,vk (jt (z.rrs.take i))),(3,wg (qh (z.rrs.take i)) .free)]) (λi=>z.rrs.length - i) ⟨0,[0,1,2,3,4],⟨pv _,rfl⟩,?_⟩ ?_
 ·exact rY2
 intro i hi;obtain⟨hi,hti⟩:=hi;conv=>whnf
 refine⟨λh2=>?_,λh2=>?_⟩
 ·have h2:i<z.rrs.length:=dT h2
  have hw1:=w64s i om;obtain⟨r,hr⟩:∃ r,z.rrs.getD i default=r:=⟨_,rfl⟩;have hrl:z.rrs[i]? = some r:=by rw[<-hr,List.getD,pp h2];rfl
  have hnx:=zx6 z hrl;have htk:z.rrs.take (i+1)=z.rrs.take i++[r]:=by rw[o3,hrl];rfl
  conv=>whnf
  refine⟨om,?_⟩;conv=>whnf
  rw[pr,hr];refine .rel _ (COk.frameX (xq9 z (z.rrs.take i) (by rw[o4];omega) r (hz r (ov hrl)).1) [4,2,3] rfl rfl (by rw[ql2];rfl)) (λx ks' hR=>?_);obtain⟨s0,k0,⟨rfl,rfl⟩,rfl,rfl⟩:=hR;cases hto:xq z (z.rrs.take i) r with
  |false =>
   have hb:z.ok=false:=by
    rw[hok,zx7 (i:=i+1) (by rw[hnx,hto,l8])]
    rfl
   rw[hb,if_neg (by decide),ql2];conv=>whnf
   apply Tr;conv=>whnf
   refine⟨[2,3],_,[vk (jt (z.rrs.take i)),wg (qh (z.rrs.take i)) .free],rfl,rfl,?_,?_,_,_,.ff,rfl,DenTo.ff,rfl⟩
   ·exact rfl
   ·exact rY4
  |true =>
   rw[if_pos rfl,ql2];conv=>whnf
   apply Fr;conv=>whnf
   rw[hw1];refine⟨i+1,[0,1,2,3,4],⟨h2,by rw[hnx,hti,hto];rfl⟩,om,?_⟩;rw[htk];exact rY4
 ·have h2:i=z.rrs.length:=dF h2
  subst h2;rw [mu] at hti ⊢;rw [hti,p9] at hok;have hnm:∀ r ∈ z.rrs,qa r.nm:=λr hr=>by
   unfold xh at hti;simp only [p7,o7] at hti;have:=hti.1 r hr;unfold yz at this;simp only [p7] at this;exact(ye this.2.2.2.2).1
  have hsd:COk Tryz.prog 110 [.ptr 4 0] [.cells 58 [.d (.str z.apex),.d (rrsD z.z z.rrs)],.cells 128 [.d (.str []),nilS,.v (.map none),.v (.map none)],vk (jt z.rrs),wg (qh z.rrs) .free,.cells 128 [.d (.str z.apex),.d (rrsD z.z z.rrs),.map 2,.map 3]]
   (λs k=>s = .d (.bool (kf z))/\k=[.cells 58 [.d (.str z.apex),.d (rrsD z.z z.rrs)],.cells 128 [.d (.str []),nilS,.v (.map none),.v (.map none)],vk (jt z.rrs),wg (qh z.rrs) .free,.cells 128 [.d (.str z.apex),.d (rrsD z.z z.rrs),.map 2,.map 3]]) :=
   (COk.frameX (xh8 z (jt z.rrs) om hnm (by have:=hn.2.1;omega)) [4,2,3] rfl rfl (by rw[ql2];rfl)).imp λr k ⟨s0,k0,⟨h1,h2⟩,h3,h4⟩=>by
    subst h1 h2 h3 h4;rw[ql2];exact⟨rfl,rfl⟩
  conv=>whnf
  apply Exists.intro;apply Exists.intro;refine⟨?_,?_⟩
  ·conv=>whnf
   repeat'(first|exact ⟨⟩|exact⟨rfl,rfl⟩|refine .mem _ _ hsd ?_|apply And.intro|(conv=>whnf))
  conv=>whnf
  refine⟨[2,3],_,[vk (jt z.rrs),wg (qh z.rrs) .free],rfl,rfl,?_,?_,_,_,_,rfl,by rw[hok];exact DenTo.refl _,rfl⟩
  ·exact rfl
  ·exact rY4
theorem xx7(z:Zo)(hz:∀ r ∈ z.rrs,r.nm.length<=100000/\r.d.length<=100000) :
 COk Tryz.prog 73 [z.V] [] (λs k=>∃ S N,s = .tup [.agg [.d (.str z.apex),.d (rrsD z.z z.rrs),.map 0,.map 1],.d (.bool z.ok)]/\k=[vk S,wg N .free]) :=
 COk.resD (xr5 z hz) λs k ⟨S,N,b,h1,h2,h3⟩=>⟨_,h1 ▸ DenTo.tup ⟨DenTo.refl _,h2,trivial⟩,S,N,rfl,h3⟩
def rvF(l:List Ls)(k j:Nat):List DV:=[.str (if j<k\/l.length<=j+k then (l[l.length - 1 - j]?).getD [] else (l[j]?).getD [])]
theorem xi6(l:List Ls)(j:Nat)(h:j<l.length):rvF l 0 j=strs l j:=by
 unfold rvF strs;rw[if_neg om]
theorem xr6(l:List Ls)(k j:Nat)(h:j<l.length)(hk:l.length<=2 * k+1):rvF l k j=strs l.reverse j:=by
 unfold rvF strs;rw[List.getElem?_reverse h];split
 ·rfl
 ·rw[show l.length - 1 - j=j by omega]
theorem rZ5{p:Prop}(h:p:=by repeat'(first|exact⟨rfl,rfl⟩|(refine⟨⟨by omega,by omega⟩,?_⟩;conv=>whnf)|exact ⟨⟩|apply And.intro|(conv=>whnf))):p:=h
theorem rY5{p:Prop}(h:p:=by (conv=>whnf);repeat'(first|exact⟨rfl,rfl⟩|(refine⟨⟨by omega,by omega⟩,?_⟩;conv=>whnf)|exact ⟨⟩|apply And.intro|(conv=>whnf))):p:=h
theorem xy0(z:Z)(l:List Ls)(hn:l.length<=1000000):COk Tryz.prog 194 [.all 0] [.row 9 1 l.length z (strs l)] (λr k=>r = .tup []/\k=[.row 9 1 l.length z (strs l.reverse)]):=by
 refine yq (TT:=TT) (IN:=qd []) qe qg mixed 1000 Tryz.func194 rfl (qb Tryz.func194 (by kernel_rfl) rfl) 27 (by kernel_rfl) ?_;conv=>whnf
 have e0:IntKind.i64.wrap ((l.length:Int) - 1)=(l.length:Int) - 1 - (0:Nat):=by rw[qc _ om];omega
 rw[e0];refine .inv Nat (λk=>2 * k<=l.length) (λk=>[(2,.d (.int .i64 k)),(3,.d (.int .i64 ((l.length:Int) - 1 - k)))]) (λk=>[(0,.row 9 1 l.length z (rvF l k))]) (λk=>l.length - k) ⟨0,[0],om,?_⟩ ?_
 ·conv=>whnf
  repeat'(first|exact ⟨⟩|exact rfl|exact ql _|exact .inr rfl|exact λ_ _=>rfl|exact noI|apply And.intro)
  exact λj hj=>(xi6 l j hj).symm
 intro k hk;conv=>whnf
 refine⟨λh1=>?_,λh1=>?_⟩
 ·have h1:(k:Int)<(l.length:Int) - 1 - k:=px h1;have e1:((l.length:Int) - 1 - k).toNat=l.length - 1 - k:=om
  conv=>whnf
  refine⟨?_,?_,?_,?_⟩;rotate_left 2
  ·exact rY5
  ·conv=>whnf
   refine⟨k+1,[0],om,by show l.length - (k+1)<l.length - k;omega,?_⟩;have e3:=w64s k om;have e4:IntKind.i64.wrap ((l.length:Int) - 1 - k - 1)=(l.length:Int) - 1 - (k+1:Nat):=by rw[qc _ om];omega
   rw[e3,e4];conv=>whnf
   repeat'(first|exact ⟨⟩|exact rfl|exact ql _|exact .inr rfl|exact λ_ _=>rfl|exact noI|apply And.intro)
   intro j hj;rw[e1,pr,if_neg om,if_neg om];unfold oneF;by_cases h2:j=l.length - 1 - k
   ·rw[if_pos h2,if_neg om];show[DV.str (l[k]?.getD [])]=_;unfold rvF;rw[if_pos om,show l.length - 1 - j=k by omega]
   ·rw[if_neg h2];by_cases h3:j=k
    ·rw[if_pos h3];show[DV.str (l[l.length - 1 - k]?.getD [])]=_;unfold rvF;rw[if_pos om,h3]
    ·rw[if_neg h3];unfold rvF;by_cases h4:j<k\/l.length<=j+k
     ·rw[if_pos h4,if_pos om]
     ·rw[if_neg h4,if_neg om]
 ·have h1:¬ (k:Int)<(l.length:Int) - 1 - k:=py h1;conv=>whnf
  refine⟨[0],_,_,rfl,rfl,?_,?_,rfl,rfl⟩
  ·exact rfl
  ·conv=>whnf
   repeat'(first|exact ⟨⟩|exact rfl|exact ql _|exact .inr rfl|exact λ_ _=>rfl|exact noI|apply And.intro)
   exact λj hj=>(xr6 l k j hj om)
def qr(n:Ls):List Ls:=(fl n).reverse
theorem zi9{ls:List Ls}{i:Nat}{l:Ls}(h:ls[i]? = some l)(j:Nat)(hj:j<i+1):catF i (strs (ls.take i)) (qs [DV.str l] 1) j=strs (ls.take i++[l]) j:=by
 have hi:=(p6.1 h).1;have:=zh (ls.take i) l (qs [DV.str l] 1) rfl j (by rw[o4];omega)
 rwa [o4,so om] at this
theorem zz5(n0:Ls)(hn0:qa n0):FnOk Tryz.prog 171 [.d (.str n0)] (.d (.sl (qr n0).isEmpty (qr n0).length 1 (strs (qr n0)))):=by
 refine qi (TT:=TT) (IN:=qd [(193,Tryz.f193,1),(208,Tryz.f208,2),(70,Tryz.f70,1),(106,Tryz.f106,2),(107,Tryz.f107,1),(139,Tryz.f139,2)]) qe (jv (jv (jv (jv (jv (jv qg Tryz.func139 (by kernel_rfl) (by kernel_rfl)) Tryz.func107 (by kernel_rfl) (by kernel_rfl)) Tryz.func106 (by kernel_rfl) (by kernel_rfl)) Tryz.func70 (by kernel_rfl) (by kernel_rfl)) Tryz.func208 (by kernel_rfl) (by kernel_rfl)) Tryz.func193 (by kernel_rfl) (by kernel_rfl)) mixed 1000 Tryz.func171 rfl (qb Tryz.func171 (by kernel_rfl) rfl) rfl 10 (by kernel_rfl) ?_;conv=>whnf
 refine oD (ke n0 (by have:=hn0.2.1;omega)) rfl rfl ?_;have hn:qa (fold n0):=wi hn0;conv=>whnf
 refine oD (zo (fold n0)) rfl rfl ?_;rw[if_pos hn];conv=>whnf
 apply Fr;have hlf:=qs1 hn0;generalize hnn:fold n0=n at hn hlf ⊢;conv=>whnf
 have hflok:=qx0 hn0;obtain⟨hn1,hn2,hn3⟩:=y5 hn;have hend:∀ i,qj (labN n) i<n.length:=λi=>by have:=jf9 (labN n) i;rw [<-hn3] at this;exact this
 have hbt:∀ i l,(labN n)[i]? = some l->bt n (qj (labN n) i)=l.length:=λi l h=>by
  have:=jg3 hn2 h;rw [<-hn3] at this;exact this
 have hbe:bt n (qj (labN n) (labN n).length)=0:=by
  have:=jg4 (labN n);rw [<-hn3] at this;exact this
 have hll:=jr7 (labN n);rw [<-hn3] at hll;have hlab:∀ i l,(labN n)[i]? = some l->(n.drop (qj (labN n) i+1)).take l.length=l:=λi l h=>by
  have:=yt2 h;rw [<-hn3] at this;exact this
 generalize hls:labN n=ls at hn2 hn3 hend hbt hbe hll hlf hlab;have hcnt:∀ i,i<=ls.length->i<=qj ls i:=λi=>by
  induction i with
  |zero=>intro _;exact pv _
  |succ i ih =>
   intro h;have:=ih om;have:=jo0 (ls:=ls) (i:=i) (j:=i+1) om h;omega
 have hlc:=hcnt ls.length (pu _);refine .nilC 1 0 9 1 (strs []) _ _ _ _ rfl rfl ?_;conv=>whnf
 refine .inv Nat (λi=>i<=ls.length) (λi=>[(3,iV (qj ls i))]) (λi=>[(4,.cells 3 [iV (qj ls i)]),(7,.row 9 1 i .iff (strs (ls.take i)))]) (λi=>ls.length - i) ⟨0,[0,1,2,3,4,5,6,7],pv _,?_⟩ ?_
 ·exact rY2
 intro i hi;have hp:=hend i;conv=>whnf
 refine brT (pn om) ?_;conv=>whnf
 refine⟨om,?_⟩;conv=>whnf
 rw[jl,qc (bt n (qj ls i):Int) (by have:=vm n (qj ls i);omega)];rcases ox i ls.length with hlt|hge
 ·have hli:ls[i]? = some ls[i]:=pp hlt;have hb:=hbt i _ hli;have hok:=hn2 _ (oz hlt);have hps:=qr0 hli;have hp2:=hend (i+1);rw[hb];generalize ls[i]=l at hli hb hok hps;obtain⟨ho1,ho2⟩:=hok;refine brF (by rw[oo];omega) ?_;conv=>whnf
  refine brF (po om) ?_;conv=>whnf
  have e1:IntKind.i64.wrap ((n.length:Int) - (qj ls i:Int))=((n.length - qj ls i:Nat):Int):=by rw[qc _ om];omega
  rw[e1];refine brF (po om) ?_;conv=>whnf
  have e2:IntKind.i64.wrap ((qj ls i:Int)+IntKind.i64.wrap (1+(l.length:Int)))=((qj ls (i+1):Nat):Int):=by rw[qc (1+(l.length:Int)) om,qc _ om];omega
  rw[e2];have e3:IntKind.i64.wrap ((qj ls i:Int)+1)=((qj ls i+1:Nat):Int):=by rw[qc _ om];omega
  rw[e3];refine⟨om,?_⟩;conv=>whnf
  have hsub:sub n ((qj ls i+1:Nat):Int) ((qj ls (i+1):Nat):Int)=l:=by
   unfold sub;rw[pr,pr];rw[show qj ls (i+1) - (qj ls i+1)=l.length by omega];exact hlab i l hli
  rw[hsub];refine⟨om,?_⟩;conv=>whnf
  refine⟨i+1,[0,1,2,3,4,5,6,9],hlt,om,?_⟩;conv=>whnf
  repeat'(first|exact ⟨⟩|exact rfl|exact ql _|exact .inr rfl|exact λ_ _=>rfl|exact noI|apply And.intro)
  exact λj hj=>by rw[o3,hli];exact zi9 hli j hj
 ·have hil:i=ls.length:=om
  subst hil;rw[hbe];conv=>whnf
  apply Tr;conv=>whnf
  refine .rel _ (COk.frameX (xy0 .iff ls om) [7] rfl rfl (by rw[mu];rfl)) (λy ks' hR=>?_);obtain⟨_,_,⟨rfl,rfl⟩,rfl,rfl⟩:=hR;conv=>whnf
  have hr:qr n0=ls.reverse:=by unfold qr;rw[hlf]
  rw[hr];refine⟨?_,d9.symm,.inr rfl,λ_ _=>rfl⟩;rw[my,Nat.beq_eq,List.isEmpty_iff,List.reverse_eq_nil_iff,sx]
def cmpS(a b:Ls):Int:=if Op.bytesLess a b then -1 else if a=b then 0 else 1
def jp:List Ls->List Ls->Int
 |[],[]=>0
 |[],_ :: _=>-1
 |_ :: _,[]=>1
 |a :: l,b :: m=>if cmpS a b≠0 then cmpS a b else jp l m
theorem xv6(a b:Ls):FnOk Tryz.prog 196 [.d (.str a),.d (.str b)] (.d (.int .i64 (cmpS a b))):=by
 refine qi (TT:=TT) (IN:=qd [(211,Tryz.f211,1)]) qe (jv qg Tryz.func211 (by kernel_rfl) (by kernel_rfl)) mixed 1000 Tryz.func196 rfl (qb Tryz.func196 (by kernel_rfl) rfl) rfl 18 (by kernel_rfl) ?_;conv=>whnf
 refine brF sm ?_;conv=>whnf
 refine brF sm ?_;conv=>whnf
 unfold cmpS;refine⟨λh=>?_,λh=>?_⟩
 ·rw[if_pos h];conv=>whnf
  try exact rfl
 rw[if_neg (by rw[h];decide)];conv=>whnf
 rw[h,c9];by_cases e:a=b
 ·rw[if_pos e];refine brF (by simp[e]) ?_;conv=>whnf
  try exact rfl
 ·rw[if_neg e];refine brT (by simp[e]) ?_;conv=>whnf
  try exact rfl
theorem rZ6{p:Prop}(h:p:=by repeat'(first|exact ⟨⟩|exact rfl|exact λ_=>Iff.rfl|exact λ_ _=>rfl|exact renM_ent rfl _|apply And.intro)):p:=h
theorem rY6{p:Prop}(h:p:=by (conv=>whnf);repeat'(first|exact ⟨⟩|exact rfl|exact λ_=>Iff.rfl|exact λ_ _=>rfl|exact renM_ent rfl _|apply And.intro)):p:=h
theorem xo8(y z:Bool)(l m:List Ls)(hl:l.length<=1000000)(hm:m.length<=1000000):FnOk Tryz.prog 174 [.d (.sl y l.length 1 (strs l)),.d (.sl z m.length 1 (strs m))] (.d (.int .i64 (jp l m))):=by
 refine qi (TT:=TT) (IN:=qd []) qe qg mixed 1000 Tryz.func174 rfl (qb Tryz.func174 (by kernel_rfl) rfl) rfl 34 (by kernel_rfl) ?_;conv=>whnf
 refine .inv Nat (λi=>i<=l.length/\i<=m.length/\jp (l.drop i) (m.drop i)=jp l m) (λi=>[(11,iV i)]) (λ_=>[]) (λi=>l.length - i) ⟨0,[],⟨pv _,pv _,rfl⟩,?_⟩ ?_
 ·exact rY6
 intro i hi;obtain⟨hi1,hi2,hi3⟩:=hi;have hw1:=w64s i om;conv=>whnf
 generalize jp l m=Y at hi3 ⊢;refine⟨λc0=>?_,λc0=>?_⟩
 ·have c0':i<l.length:=dT c0;rw [lu c0'] at hi3;conv=>whnf
  refine⟨om,?_⟩;conv=>whnf
  by_cases hlt:i<m.length
  case neg =>
   rw [show m.drop i=[] from d5 om] at hi3;simp only [jp] at hi3;rw[<-hi3];refine brT (pn om) ?_;exact rY6
  rw [lu hlt] at hi3;refine brF (po om) ?_;conv=>whnf
  refine⟨om,?_⟩;conv=>whnf
  rw[pr,show l[i]?.getD []=l[i] by rw[pp c0'];rfl,show m[i]?.getD []=m[i] by rw[pp hlt];rfl];refine oD (xv6 _ _) rfl rfl ?_;conv=>whnf
  simp only [jp] at hi3;by_cases hc:cmpS l[i] m[i]=0
  ·rw [if_neg (by simpa using hc)] at hi3;refine brF (by rw[bne_eq_false_iff_eq];exact hc) ?_;conv=>whnf
   rw[hw1];refine⟨i+1,[],⟨c0',hlt,hi3⟩,om,?_⟩;exact rY6
  ·rw [if_pos hc] at hi3;rw[<-hi3];refine brT (by rw[bne_iff_ne];exact hc) ?_;exact rY6
 ·have c0':i=l.length:=dF c0;rw [show l.drop i=[] from d5 om] at hi3;conv=>whnf
  by_cases hlt:i<m.length
  ·rw [lu hlt] at hi3;simp only [jp] at hi3;rw[<-hi3];refine brT (pn om) ?_;exact rY6
  ·rw [d5 om] at hi3;simp only [jp] at hi3;rw[<-hi3];refine brF (po om) ?_;exact rY6
theorem jc3{n:Ls}(h:qa n):(qr n).length<=255:=by
 obtain⟨h1,h2,h3⟩:=y5 h;unfold qr;rw[d9,fl,mq];have:=qy7 (labN n);have e:(labs (labN n)).length+1=(mk (labN n)).length:=by rw[<-x9,pq];rfl
 rw [<-h3] at e;omega
theorem xs5(b:UInt8):low (low b)=low b:=by
 have:∀ n:Nat,n<256->low (low (UInt8.ofNat n))=low (UInt8.ofNat n):=by decide +kernel
 have:=this b.toNat b.toNat_lt
 rwa [UInt8.ofNat_toNat] at this
theorem qd9(s:Ls):fold (fold s)=fold s:=by
 unfold fold;rw[f7];exact List.map_congr_left λb _=>xs5 b
structure Cw{α:Type}(P:α->Prop)(c:α->α->Int):Prop where
 anti:∀ a b,P a->P b->(c a b<0↔0<c b a)
 trans:∀ a b d,P a->P b->P d->c a b<=0->c b d<=0->c a d<=0
theorem Cw.lt_le{α:Type}{P:α->Prop}{c:α->α->Int}(h:Cw P c){a b d:α}(ha:P a)(hb:P b)(hd:P d)(h1:c a b<=0)(h2:c b d<0):c a d<0:=by
 have a1:=h.anti a d ha hd;have a2:=h.anti b d hb hd;have a3:=h.anti d a hd ha;have:=h.trans d a b hd ha hb;have a4:=h.anti d b hd hb;omega
theorem Cw.le_lt{α:Type}{P:α->Prop}{c:α->α->Int}(h:Cw P c){a b d:α}(ha:P a)(hb:P b)(hd:P d)(h1:c a b<0)(h2:c b d<=0):c a d<0:=by
 have a1:=h.anti a d ha hd;have a2:=h.anti a b ha hb;have a3:=h.anti d a hd ha;have:=h.trans b d a hb hd ha;have a4:=h.anti b a hb ha;omega
theorem Cw.sgn{α:Type}{P:α->Prop}{c c':α->α->Int}(h:Cw P c)(hs:∀ a b,P a->P b->(c' a b<0↔c a b<0)/\(c' a b=0↔c a b=0)):Cw P c' where
 anti a b ha hb:=by
  have:=h.anti a b ha hb;have:=hs a b ha hb;have:=hs b a hb ha;omega
 trans a b d ha hb hd:=by
  have:=h.trans a b d ha hb hd;have:=hs a b ha hb;have:=hs b d hb hd;have:=hs a d ha hd;omega
theorem cw_bytes:Cw (λ_=>True) Lib.compareBytes where
 anti a b _ _:=by
  have h1:=qp1 a b;have h2:=qp1 b a;have h3:=qv0 b a;constructor
  ·intro h;have e1:=h1.1 h;have e2:=zb8 a b e1;have:¬ Lib.compareBytes b a<0:=λh=>by rw [h2.1 h] at e2;cases e2
   have:¬ Lib.compareBytes b a=0:=λh=>by rw [h3.1 h,qj8] at e1;cases e1
   omega
  ·intro h;apply h1.2;cases e:Op.bytesLess a b
   ·have:Op.bytesLess b a=false:=by
     cases e2:Op.bytesLess b a
     ·rfl
     ·have:=h2.2 e2;omega
    have:=h3.2 (qw3 b a this e);omega
   ·rfl
 trans a b d _ _ _ h1 h2:=by
  have c1:=qp1 d a;have hle:∀ x y:Ls,Lib.compareBytes x y<=0->Op.bytesLess y x=false:=λx y h=>by
   cases e:Op.bytesLess y x
   ·rfl
   ·rcases Int.lt_or_eq_of_le h with h|h
    ·have:=zb8 x y ((qp1 x y).1 h);rw [this] at e;cases e
    ·rw [(qv0 x y).1 h,qj8] at e;cases e
  have e:=xf2 d b a (hle b d h2) (hle a b h1);cases e2:Op.bytesLess a d
  ·have:=(qv0 a d).2 (qw3 a d e2 e);omega
  ·have:=(qp1 a d).2 e2;omega
theorem zb4(a b:Ls):(cmpS a b<0↔Lib.compareBytes a b<0)/\(cmpS a b=0↔Lib.compareBytes a b=0):=by
 have h1:=qp1 a b;have h2:=qv0 a b;unfold cmpS;rw[h1,h2];cases e:Op.bytesLess a b
 ·simp only[fx,if_false];split <;> simp_all
 ·have:¬ a=b:=λh=>by rw [h,qj8] at e;cases e
  simp[this]
theorem cw_S:Cw (λ_=>True) cmpS:=cw_bytes.sgn λa b _ _=>zb4 a b
theorem xe7{a b:Ls}(h:cmpS a b=0):a=b:=(qv0 a b).1 ((zb4 a b).2.1 h)
theorem xz:∀ l m:List Ls,jp l m<0↔0<jp m l
 |[],[]=>by simp[jp]
 |[],_ :: _=>by simp[jp]
 |_ :: _,[]=>by simp[jp]
 |a :: l,b :: m=>by
  have ih:=xz l m;have h1:=cw_S.anti a b trivial trivial;have h2:=cw_S.anti b a trivial trivial;simp only[jp];split <;> split <;> omega
theorem qz1:∀ l m n:List Ls,jp l m<=0->jp m n<=0->jp l n<=0
 |[],_,[]=>by simp[jp]
 |[],_,_ :: _=>by simp[jp]
 |_ :: _,[],_=>by simp[jp]
 |_ :: _,_ :: _,[]=>by simp[jp]
 |a :: l,b :: m,c :: n=>by
  have ih:=qz1 l m n;have t1:=cw_S.trans a b c trivial trivial trivial;have t3:=@Cw.lt_le _ _ _ cw_S a b c trivial trivial trivial;have t4:=@Cw.le_lt _ _ _ cw_S a b c trivial trivial trivial;simp only[jp];split <;> split <;> split <;> omega
theorem jv8:Cw (λ_=>True) jp:=⟨λa b _ _=>xz a b,λa b d _ _ _=>qz1 a b d⟩
theorem yk2{n:Ls}(h:qa n):fold n=mk (qr n).reverse:=by
 unfold qr;rw[sq];exact u0 h
theorem ye8{α:Type}[DecidableEq α]:∀ {l m:List α},l.Nodup->m.Nodup->(∀ x,x ∈ l↔x ∈ m)->l.Perm m
 |[],m,_,_,h=>by
  have:m=[]:=ap.2 λx hx=>by have:=(h x).2 hx;cases this
  rw[this]
 |a :: l,m,h1,h2,h=>by
  rw [List.nodup_cons] at h1;have ha:a ∈ m:=(h a).1 sm;refine .trans (.cons a ?_) (List.perm_cons_erase ha).symm;refine ye8 h1.2 (h2.erase a) λx=>?_
  rw[h2.mem_erase_iff];constructor
  ·intro hx;exact⟨λe=>h1.1 (e ▸ hx),(h x).1 (by simp[hx])⟩
  ·rintro ⟨hx1,hx2⟩
   rcases pz.1 ((h x).2 hx2) with e|hx
   ·exact absurd e hx1
   ·exact hx
theorem xm0{n:Nat}{q:Nat->Nat}(hq:Inj n q):((List.range n).map q).Perm (List.range n):=by
 refine ye8 ?_ List.nodup_range λx=>?_
 ·unfold List.Nodup;rw[List.pairwise_map];refine(List.nodup_range (n:=n)).imp_of_mem λ{a b} ha hb hab e=>?_
  exact hab (hq.un a b (o8.1 ha) (o8.1 hb) e)
 ·rw[gv,o8];constructor
  ·rintro ⟨i,hi,rfl⟩
   exact hq.lt i (o8.1 hi)
  ·intro hx;obtain⟨i,hi,e⟩:=hq.surj x hx;exact⟨i,o8.2 hi,e⟩
end Go.Proofs.YtoefgnnkajhmiaaGreatDoor
