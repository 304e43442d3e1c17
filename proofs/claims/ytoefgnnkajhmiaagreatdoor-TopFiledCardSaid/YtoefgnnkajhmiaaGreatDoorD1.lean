/-
  Part of the proof: lemmas about the functions that the row calls, and about the steps of a run. Conditions: those ahead of each lemma.
-/
import Derived.Test.YtoefgnnkajhmiaaGreatDoorRows
import Derived.KernelRfl
import Derived.Shelf.Strings.OnBuilder
import Derived.Shelf.Small.Strs
import Derived.Shelf.Strings.Builder1
import Derived.Shelf.Strconv.Itoa1
import Derived.Shelf.Strconv.Itoa2
import Derived.Shelf.LaysM
import Derived.Shelf.Pu.ParseUintPublic10
import Derived.Shelf.Strings.Search3
import Derived.Shelf.Strings.Count
import Derived.Test.YtoefgnnkajhmiaaGreatDoorProg
import Derived.Test.YtoefgnnkajhmiaaGreatDoorN4
set_option linter.unusedVariables false
set_option linter.unusedSimpArgs false
set_option maxRecDepth 100000
set_option maxHeartbeats 64000000
namespace Go.Proofs.YtoefgnnkajhmiaaGreatDoor
open Go Go.Eng
def types:List (Nat × TI):=[
 (2,⟨1,8,false,[.d (.int .i64 0)],.int .i64,[]⟩),
 (3,⟨1,8,false,[.d (.int .i64 0)],.int .i64,[]⟩),
 (4,⟨1,1,false,[.d .ff],.bool,[]⟩),
 (5,⟨1,1,false,[.d (.int .u8 0)],.int .u8,[]⟩),
 (6,⟨1,1,false,[.d (.int .u8 0)],.int .u8,[]⟩),
 (7,⟨4,24,true,[.d (.int .i64 0),.d (.int .i64 0),.d .ff,.d (.int .u8 0)],.struct [(0,2),(1,3),(2,4),(3,6)],[.int .i64,.int .i64,.bool,.int .u8]⟩),
 (9,⟨1,16,false,[.d (.str [])],.str,[]⟩),
 (17,⟨1,8,false,[.v (.pointer none)],.ptr 267,[]⟩),
 (18,⟨1,8,true,[.v (.pointer none)],.struct [(0,17)],[]⟩),
 (19,⟨1,8,true,[.v (.pointer none)],.struct [(0,17)],[]⟩),
 (21,⟨1,4,false,[.d (.int .i32 0)],.int .i32,[]⟩),
 (22,⟨1,24,false,[nilS],.slice 58,[]⟩),
 (23,⟨1,24,false,[nilS],.slice 32,[]⟩),
 (24,⟨2,48,true,[nilS,nilS],.struct [(0,22),(1,23)],[]⟩),
 (25,⟨2,48,true,[nilS,nilS],.struct [(0,22),(1,23)],[]⟩),
 (26,⟨1,8,false,[.v .nilFunc],.other,[]⟩),
 (28,⟨1,24,false,[nilS],.slice 25,[]⟩),
 (29,⟨1,4,false,[.d (.int .u32 0)],.int .u32,[]⟩),
 (30,⟨1,24,false,[nilS],.slice 3,[]⟩),
 (31,⟨2,32,true,[.d (.int .u32 0),nilS],.struct [(0,29),(1,30)],[]⟩),
 (32,⟨2,32,true,[.d (.int .u32 0),nilS],.struct [(0,29),(1,30)],[]⟩),
 (33,⟨1,8,false,[.d (.int .i64 0)],.int .i64,[]⟩),
 (35,⟨1,8,false,[.v .nilFunc],.other,[]⟩),
 (37,⟨1,8,false,[.v .nilFunc],.other,[]⟩),
 (38,⟨1,8,false,[.v .nilFunc],.other,[]⟩),
 (39,⟨1,8,false,[.v .nilFunc],.other,[]⟩),
 (40,⟨1,8,false,[.v .nilFunc],.other,[]⟩),
 (41,⟨1,8,false,[.v .nilFunc],.other,[]⟩),
 (42,⟨1,2,false,[.d (.int .u16 0)],.int .u16,[]⟩),
 (43,⟨1,2,false,[.d (.int .u16 0)],.int .u16,[]⟩),
 (44,⟨3,24,true,[.d (.str []),.d (.int .u16 0),.d (.int .u16 0)],.struct [(0,9),(1,43),(2,42)],[.str,.int .u16,.int .u16]⟩),
 (45,⟨3,24,true,[.d (.str []),.d (.int .u16 0),.d (.int .u16 0)],.struct [(0,9),(1,43),(2,42)],[.str,.int .u16,.int .u16]⟩),
 (46,⟨1,24,false,[nilS],.slice 49,[]⟩),
 (47,⟨1,24,false,[nilS],.slice 9,[]⟩),
 (48,⟨4,48,true,[.d (.str []),.d (.int .u16 0),.d (.int .u32 0),nilS],.struct [(0,9),(1,43),(2,29),(3,47)],[]⟩),
 (49,⟨4,48,true,[.d (.str []),.d (.int .u16 0),.d (.int .u32 0),nilS],.struct [(0,9),(1,43),(2,29),(3,47)],[]⟩),
 (50,⟨6,80,true,[.d (.int .i64 0),nilS,.d (.str []),.d (.int .u16 0),.d (.int .u32 0),nilS],.struct [(0,3),(1,46),(2,49)],[]⟩),
 (51,⟨6,80,true,[.d (.int .i64 0),nilS,.d (.str []),.d (.int .u16 0),.d (.int .u32 0),nilS],.struct [(0,3),(1,46),(2,49)],[]⟩),
 (53,⟨1,8,false,[.v .nilFunc],.other,[]⟩),
 (54,⟨1,8,false,[.v .nilFunc],.other,[]⟩),
 (55,⟨1,8,false,[.v .nilFunc],.other,[]⟩),
 (56,⟨1,24,false,[nilS],.slice 62,[]⟩),
 (57,⟨2,40,true,[.d (.str []),nilS],.struct [(0,9),(1,56)],[]⟩),
 (58,⟨2,40,true,[.d (.str []),nilS],.struct [(0,9),(1,56)],[]⟩),
 (59,⟨1,8,false,[.v .nilFunc],.other,[]⟩),
 (60,⟨1,24,false,[nilS],.slice 5,[]⟩),
 (61,⟨5,40,true,[.d (.str []),.d (.int .u16 0),.d (.int .u16 0),.d (.int .u32 0),.d (.str [])],.struct [(0,9),(1,43),(2,42),(3,29),(4,9)],[.str,.int .u16,.int .u16,.int .u32,.str]⟩),
 (62,⟨5,40,true,[.d (.str []),.d (.int .u16 0),.d (.int .u16 0),.d (.int .u32 0),.d (.str [])],.struct [(0,9),(1,43),(2,42),(3,29),(4,9)],[.str,.int .u16,.int .u16,.int .u32,.str]⟩),
 (63,⟨1,8,false,[.v (.pointer none)],.ptr 65,[]⟩),
 (64,⟨2,32,true,[.v (.pointer none),nilS],.struct [(0,63),(1,60)],[]⟩),
 (65,⟨2,32,true,[.v (.pointer none),nilS],.struct [(0,63),(1,60)],[]⟩),
 (67,⟨1,8,false,[.v .nilFunc],.other,[]⟩),
 (70,⟨1,16,false,[.v .nilIface],.iface,[]⟩),
 (75,⟨1,8,false,[.v .nilFunc],.other,[]⟩),
 (76,⟨1,8,false,[.v .nilFunc],.other,[]⟩),
 (77,⟨1,8,false,[.v .nilFunc],.other,[]⟩),
 (78,⟨2,48,true,[nilS,nilS],.struct [(0,25)],[]⟩),
 (79,⟨2,48,true,[nilS,nilS],.struct [(0,25)],[]⟩),
 (81,⟨1,8,false,[.v .nilFunc],.other,[]⟩),
 (82,⟨1,8,false,[.v .nilFunc],.other,[]⟩),
 (84,⟨1,8,false,[.v .nilFunc],.other,[]⟩),
 (86,⟨1,8,false,[.v .nilFunc],.other,[]⟩),
 (89,⟨1,8,false,[.v .nilFunc],.other,[]⟩),
 (92,⟨1,8,false,[.v .nilFunc],.other,[]⟩),
 (93,⟨1,8,false,[.v (.map none)],.map 9 3,[]⟩),
 (99,⟨1,8,false,[.v .nilFunc],.other,[]⟩),
 (100,⟨1,8,false,[.v .nilFunc],.other,[]⟩),
 (102,⟨1,8,false,[.v .nilFunc],.other,[]⟩),
 (103,⟨1,8,false,[.v .nilFunc],.other,[]⟩),
 (104,⟨1,8,false,[.v .nilFunc],.other,[]⟩),
 (105,⟨1,8,false,[.v (.pointer none)],.ptr 5,[]⟩),
 (106,⟨1,8,false,[.v .nilFunc],.other,[]⟩),
 (107,⟨1,8,false,[.v .nilFunc],.other,[]⟩),
 (108,⟨1,8,false,[.v .nilFunc],.other,[]⟩),
 (111,⟨1,8,false,[.v .nilFunc],.other,[]⟩),
 (112,⟨1,8,false,[.v .nilFunc],.other,[]⟩),
 (113,⟨1,8,false,[.v (.pointer none)],.ptr 79,[]⟩),
 (115,⟨1,8,false,[.v .nilFunc],.other,[]⟩),
 (119,⟨1,8,false,[.v .nilFunc],.other,[]⟩),
 (121,⟨1,8,false,[.v .nilFunc],.other,[]⟩),
 (123,⟨1,8,false,[.v .nilFunc],.other,[]⟩),
 (124,⟨1,8,false,[.v .nilFunc],.other,[]⟩),
 (125,⟨1,8,false,[.v (.map none)],.map 191 3,[]⟩),
 (126,⟨1,8,false,[.v (.map none)],.map 9 193,[]⟩),
 (127,⟨4,56,true,[.d (.str []),nilS,.v (.map none),.v (.map none)],.struct [(0,58),(2,125),(3,126)],[]⟩),
 (128,⟨4,56,true,[.d (.str []),nilS,.v (.map none),.v (.map none)],.struct [(0,58),(2,125),(3,126)],[]⟩),
 (130,⟨1,8,false,[.v .nilFunc],.other,[]⟩),
 (132,⟨1,8,false,[.v .nilFunc],.other,[]⟩),
 (134,⟨1,8,false,[.v .nilFunc],.other,[]⟩),
 (136,⟨1,8,false,[.v .nilFunc],.other,[]⟩),
 (137,⟨1,8,false,[.d (.int .u64 0)],.int .u64,[]⟩),
 (141,⟨1,8,false,[.v (.pointer none)],.other,[]⟩),
 (145,⟨1,8,false,[.v .nilFunc],.other,[]⟩),
 (146,⟨1,8,false,[.v .nilFunc],.other,[]⟩),
 (149,⟨1,8,false,[.v (.pointer none)],.ptr 58,[]⟩),
 (150,⟨1,8,false,[.v .nilFunc],.other,[]⟩),
 (151,⟨1,8,false,[.v (.map none)],.map 152 3,[]⟩),
 (152,⟨2,16,true,[.d (.int .i64 0),.d (.int .i64 0)],.array 2 3,[.int .i64,.int .i64]⟩),
 (154,⟨1,8,false,[.v (.map none)],.map 29 3,[]⟩),
 (155,⟨1,8,false,[.v .nilFunc],.other,[]⟩),
 (158,⟨1,8,false,[.v .nilFunc],.other,[]⟩),
 (161,⟨1,8,false,[.v .nilFunc],.other,[]⟩),
 (164,⟨1,8,false,[.v .nilFunc],.other,[]⟩),
 (167,⟨3,24,true,[.d (.int .i64 0),.d (.int .i64 0),.d (.int .i64 0)],.struct [(0,3),(1,3),(2,3)],[.int .i64,.int .i64,.int .i64]⟩),
 (168,⟨3,24,true,[.d (.int .i64 0),.d (.int .i64 0),.d (.int .i64 0)],.struct [(0,3),(1,3),(2,3)],[.int .i64,.int .i64,.int .i64]⟩),
 (169,⟨3,56,true,[.d (.str []),nilS,.d (.str [])],.struct [(0,9),(1,47),(2,9)],[]⟩),
 (170,⟨3,56,true,[.d (.str []),nilS,.d (.str [])],.struct [(0,9),(1,47),(2,9)],[]⟩),
 (172,⟨1,8,false,[.v .nilFunc],.other,[]⟩),
 (173,⟨1,8,false,[.d (.int .u64 0)],.int .u64,[]⟩),
 (174,⟨1,8,false,[.v .nilFunc],.other,[]⟩),
 (176,⟨1,8,false,[.v .nilFunc],.other,[]⟩),
 (178,⟨1,8,false,[.v .nilFunc],.other,[]⟩),
 (181,⟨1,8,false,[.v .nilFunc],.other,[]⟩),
 (182,⟨1,8,false,[.v .nilFunc],.other,[]⟩),
 (187,⟨1,8,false,[.v .nilFunc],.other,[]⟩),
 (189,⟨1,8,false,[.v (.pointer none)],.ptr 128,[]⟩),
 (190,⟨4,40,true,[.d (.str []),.d (.int .u16 0),.d (.int .u16 0),.d (.str [])],.struct [(0,9),(1,43),(2,42),(3,9)],[.str,.int .u16,.int .u16,.str]⟩),
 (191,⟨4,40,true,[.d (.str []),.d (.int .u16 0),.d (.int .u16 0),.d (.str [])],.struct [(0,9),(1,43),(2,42),(3,9)],[.str,.int .u16,.int .u16,.str]⟩),
 (192,⟨5,40,true,[.d (.int .i64 0),.d (.int .i64 0),.d (.int .i64 0),.d (.int .i64 0),.d (.int .i64 0)],.struct [(0,3),(1,3),(2,3),(3,3),(4,3)],[.int .i64,.int .i64,.int .i64,.int .i64,.int .i64]⟩),
 (193,⟨5,40,true,[.d (.int .i64 0),.d (.int .i64 0),.d (.int .i64 0),.d (.int .i64 0),.d (.int .i64 0)],.struct [(0,3),(1,3),(2,3),(3,3),(4,3)],[.int .i64,.int .i64,.int .i64,.int .i64,.int .i64]⟩),
 (194,⟨1,8,false,[.v .nilFunc],.other,[]⟩),
 (196,⟨1,8,false,[.v .nilFunc],.other,[]⟩),
 (199,⟨1,8,false,[.v .nilFunc],.other,[]⟩),
 (201,⟨1,8,false,[.v .nilFunc],.other,[]⟩),
 (203,⟨1,8,false,[.v .nilFunc],.other,[]⟩),
 (204,⟨24,24,true,[.d (.int .u8 0),.d (.int .u8 0),.d (.int .u8 0),.d (.int .u8 0),.d (.int .u8 0),.d (.int .u8 0),.d (.int .u8 0),.d (.int .u8 0),.d (.int .u8 0),.d (.int .u8 0),.d (.int .u8 0),.d (.int .u8 0),.d (.int .u8 0),.d (.int .u8 0),.d (.int .u8 0),.d (.int .u8 0),.d (.int .u8 0),.d (.int .u8 0),.d (.int .u8 0),.d (.int .u8 0),.d (.int .u8 0),.d (.int .u8 0),.d (.int .u8 0),.d (.int .u8 0)],.array 24 5,[.int .u8,.int .u8,.int .u8,.int .u8,.int .u8,.int .u8,.int .u8,.int .u8,.int .u8,.int .u8,.int .u8,.int .u8,.int .u8,.int .u8,.int .u8,.int .u8,.int .u8,.int .u8,.int .u8,.int .u8,.int .u8,.int .u8,.int .u8,.int .u8]⟩),
 (205,⟨1,8,false,[.v .nilFunc],.other,[]⟩),
 (210,⟨1,8,false,[.v .nilFunc],.other,[]⟩),
 (211,⟨1,8,false,[.d (.int .i64 0)],.int .i64,[]⟩),
 (212,⟨1,8,false,[.v (.pointer none)],.ptr 231,[]⟩),
 (216,⟨1,24,false,[nilS],.slice 218,[]⟩),
 (217,⟨2,40,true,[.d (.str []),nilS],.struct [(0,9),(1,47)],[]⟩),
 (218,⟨2,40,true,[.d (.str []),nilS],.struct [(0,9),(1,47)],[]⟩),
 (221,⟨1,8,false,[.v .nilFunc],.other,[]⟩),
 (224,⟨1,8,false,[.v .nilFunc],.other,[]⟩),
 (225,⟨20,160,true,[.d (.int .u64 0),.d (.int .u64 0),.d (.int .u64 0),.d (.int .u64 0),.d (.int .u64 0),.d (.int .u64 0),.d (.int .u64 0),.d (.int .u64 0),.d (.int .u64 0),.d (.int .u64 0),.d (.int .u64 0),.d (.int .u64 0),.d (.int .u64 0),.d (.int .u64 0),.d (.int .u64 0),.d (.int .u64 0),.d (.int .u64 0),.d (.int .u64 0),.d (.int .u64 0),.d (.int .u64 0)],.array 20 137,[.int .u64,.int .u64,.int .u64,.int .u64,.int .u64,.int .u64,.int .u64,.int .u64,.int .u64,.int .u64,.int .u64,.int .u64,.int .u64,.int .u64,.int .u64,.int .u64,.int .u64,.int .u64,.int .u64,.int .u64]⟩),
 (227,⟨1,8,false,[.v .nilFunc],.other,[]⟩),
 (230,⟨3,48,true,[.d (.str []),.d (.str []),.v .nilIface],.struct [(0,9),(1,9),(2,70)],[]⟩),
 (231,⟨3,48,true,[.d (.str []),.d (.str []),.v .nilIface],.struct [(0,9),(1,9),(2,70)],[]⟩),
 (239,⟨1,8,false,[.v .nilFunc],.other,[]⟩),
 (240,⟨1,8,false,[.v (.pointer none)],.ptr 242,[]⟩),
 (241,⟨1,16,true,[.d (.str [])],.struct [(0,9)],[.str]⟩),
 (242,⟨1,16,true,[.d (.str [])],.struct [(0,9)],[.str]⟩),
 (244,⟨1,8,false,[.v .nilFunc],.other,[]⟩),
 (250,⟨1,8,false,[.v .nilFunc],.other,[]⟩),
 (252,⟨2,2,true,[.d (.int .u8 0),.d (.int .u8 0)],.struct [(0,5),(1,5)],[.int .u8,.int .u8]⟩),
 (253,⟨2,2,true,[.d (.int .u8 0),.d (.int .u8 0)],.struct [(0,5),(1,5)],[.int .u8,.int .u8]⟩),
 (255,⟨4,40,true,[.v (.pointer none),.v (.pointer none),.v (.pointer none),.d (.str [])],.struct [(0,17),(1,17),(2,17),(3,9)],[]⟩),
 (261,⟨1,1,false,[.d (.int .u8 0)],.int .u8,[]⟩),
 (262,⟨1,1,false,[.d (.int .u8 0)],.int .u8,[]⟩),
 (264,⟨1,4,false,[.d (.int .i32 0)],.int .i32,[]⟩),
 (265,⟨1,4,false,[.d (.int .i32 0)],.int .i32,[]⟩),
 (267,⟨11,48,true,[.d (.int .u64 0),.d (.int .u64 0),.d (.int .u32 0),.d (.int .u8 0),.d (.int .u8 0),.d (.int .u8 0),.d (.int .u8 0),.v .nilFunc,.v (.pointer none),.d (.int .i32 0),.d (.int .i32 0)],.struct [(0,12),(1,12),(2,29),(3,261),(4,5),(5,5),(6,262),(7,263),(8,105),(9,264),(10,265)],[]⟩)]
def TT(n:Nat):Option TI:=Eng.look types n
set_option maxRecDepth 100000 in
theorem qg:TTok Tryz.prog TT:=zf8 (P:=Tryz.prog) (l:=types) (by kernel_rfl)
theorem mixed:Tryz.prog.follows .mixedOrders=true:=by kernel_rfl
def bt(s:List UInt8)(k:Nat):Nat:=(s[k]?.getD 0).toNat
theorem yo(s:List UInt8)(k:Nat):jc s (k:Int)=(bt s k:Int):=by
 unfold jc bt;simp
theorem qc2(s:List UInt8)(k:Nat):bt s k<256:=UInt8.toNat_lt _
def more(s:List UInt8)(k:Nat):Prop:=k<s.length/\¬ bt s k=0/\bt s k<=63/\bt s k<s.length - k
instance (s:List UInt8) (k:Nat):Decidable (more s k):=by unfold more;infer_instance
def kr(s:List UInt8):Nat->Nat->Nat
 |0,k=>k
 |m+1,k=>if more s k then kr s m (k+1+bt s k) else k
def qv4(s:List UInt8):Nat:=kr s s.length 0
def At(s:List UInt8)(k:Nat):Prop:=k<=s.length/\∃ m,s.length<=k+m/\kr s m k=qv4 s
theorem At.zero(s:List UInt8):At s 0:=⟨pz _,s.length,by omega,rfl⟩
theorem At.next{s:List UInt8}{k:Nat}(h:At s k)(hm:more s k):At s (k+1+bt s k):=by
 obtain⟨h1,m,h2,h3⟩:=h;have:=hm;obtain⟨a1,a2,a3,a4⟩:=this;cases m with
 |zero=>omega
 |succ m=>exact⟨by omega,m,by omega,by rw[<-h3];simp[kr,hm]⟩
theorem At.last{s:List UInt8}{k:Nat}(h:At s k)(hm:¬ more s k):k=qv4 s:=by
 obtain⟨h1,m,h2,h3⟩:=h;rw[<-h3];cases m <;> simp[kr,hm]
def qb(s:List UInt8):Prop:=0<s.length/\s.length<=255/\qv4 s=s.length - 1/\bt s (qv4 s)=0
instance (s:List UInt8):Decidable (qb s):=by unfold qb;infer_instance
theorem qa(n:Int)(h : -9223372036854775808<=n/\n<=9223372036854775807):IntKind.i64.wrap n=n:=by rw[IntKind.wrap_i64];omega
theorem w64s(i:Nat)(h:i<9223372036854775807):IntKind.i64.wrap ((i:Int)+1)=((i+1:Nat):Int):=by rw[qa _ (by omega)];omega
theorem rZ0{p:Prop}(h:p:=by repeat'(first|exact ⟨⟩|exact rfl|apply And.intro)):p:=h
theorem yq(s:List UInt8):FnOk Tryz.prog 71 [.d (.str s)] (.d (.int .i64 (if qb s then 0 else 2))):=by
 refine qu (TT:=TT) (IN:=qe [(107,Tryz.f107,1),(139,Tryz.f139,2)]) qg ?_ mixed 1000 Tryz.func71 rfl (qd Tryz.func71 (by kernel_rfl) rfl) rfl 27 (by kernel_rfl) ?_
 ·exact jh (jh qh Tryz.func139 (by kernel_rfl) (by kernel_rfl)) Tryz.func107 (by kernel_rfl) (by kernel_rfl)
 conv=>whnf
 refine⟨fun h1=>?_,fun h1=>?_⟩
 ·have:¬ qb s:=fun hn=>by have a:=hn.1;simp at h1;rw [h1] at a;simp at a
  exact congrArg (DV.int _) (by rw[if_neg this])
 have hpos:0<s.length:=by
  rcases fq s.length with e|e
  ·rw [e] at h1;cases h1
  ·exact e
 conv=>whnf
 refine⟨fun h2=>?_,fun h2=>?_⟩
 ·have:¬ qb s:=fun hn=>by have a:=hn.2.1;simp at h2;omega
  exact congrArg (DV.int _) (by rw[if_neg this])
 have hlen:s.length<=255:=by simp at h2;omega
 conv=>whnf
 refine .inv Nat (fun k=>At s k) (fun k=>[(3,.d (.int .i64 k))]) (fun k=>[(0,.cells 3 [.d (.int .i64 k)])]) (fun k=>s.length - k) ⟨0,[0,1,2],At.zero s,?_⟩ ?_
 ·conv=>whnf
  exact rZ0
 intro k hk;have hkl:=hk.1;have hby:=qc2 s k;have hwb:IntKind.i64.wrap (jc s (k:Int))=(bt s k:Int):=by rw[yo,qa _ (by omega)]
 have hwl:IntKind.i64.wrap ((s.length:Int) - 1)=(s.length:Int) - 1:=qa _ (by omega);have key1:¬ more s k->(((k:Int) != IntKind.i64.wrap ((s.length:Int) - 1))=true)->¬ qb s:=fun hm hne hn=>by
  have:=hk.last hm;obtain⟨_,_,a,_⟩:=hn;rw [hwl] at hne;simp at hne;omega
 have key2:¬ more s k->(((k:Int) != IntKind.i64.wrap ((s.length:Int) - 1))=false)->(bt s k=0↔qb s)/\k<s.length:=fun hm hne=>by
  have:=hk.last hm;rw [hwl] at hne;simp at hne;unfold qb;rw[<-this];omega
 conv=>whnf
 refine⟨fun hlt=>?_,fun hge=>?_⟩
 ·have hlt':k<s.length:=by simpa using hlt
  conv=>whnf
  refine⟨by simp;omega,?_⟩;conv=>whnf
  refine⟨fun h0=>?_,fun h0=>?_⟩
  ·have hm:¬ more s k:=fun hm=>by rw [hwb] at h0;simp at h0;exact hm.2.1 h0
   conv=>whnf
   refine⟨fun e=>congrArg (DV.int _) (by rw[if_neg (key1 hm e)]),fun e=>?_⟩;obtain⟨e1,e2⟩:=key2 hm e;conv=>whnf
   refine⟨by simp;omega,?_⟩;conv=>whnf
   refine⟨fun hz=>?_,fun hz=>?_⟩
   ·exact congrArg (DV.int _) (by rw [if_neg (fun hn=>by rw [yo] at hz;simp at hz;exact hz (e1.2 hn))])
   ·exact congrArg (DV.int _) (by rw [if_pos (e1.1 (by rw [yo] at hz;simpa using hz))])
  ·have h0':¬ bt s k=0:=by rw [hwb] at h0;simpa using h0
   conv=>whnf
   refine⟨fun h3=>?_,fun h3=>?_⟩
   ·have hm:¬ more s k:=fun hm=>by rw [hwb] at h3;simp at h3;have:=hm.2.2.1;omega
    conv=>whnf
    refine⟨fun e=>congrArg (DV.int _) (by rw[if_neg (key1 hm e)]),fun e=>?_⟩;obtain⟨e1,e2⟩:=key2 hm e;conv=>whnf
    refine⟨by simp;omega,?_⟩;conv=>whnf
    refine⟨fun hz=>?_,fun hz=>?_⟩
    ·exact congrArg (DV.int _) (by rw [if_neg (fun hn=>by rw [yo] at hz;simp at hz;exact hz (e1.2 hn))])
    ·exact congrArg (DV.int _) (by rw [if_pos (e1.1 (by rw [yo] at hz;simpa using hz))])
   ·have h3':bt s k<=63:=by rw [hwb] at h3;simp at h3;omega
    conv=>whnf
    have hws:IntKind.i64.wrap ((s.length:Int) - (k:Int))=(s.length:Int) - k:=qa _ (by omega);refine⟨fun h4=>?_,fun h4=>?_⟩
    ·have hm:¬ more s k:=fun hm=>by rw [hwb,hws] at h4;simp at h4;have:=hm.2.2.2;omega
     conv=>whnf
     refine⟨fun e=>congrArg (DV.int _) (by rw[if_neg (key1 hm e)]),fun e=>?_⟩;obtain⟨e1,e2⟩:=key2 hm e;conv=>whnf
     refine⟨by simp;omega,?_⟩;conv=>whnf
     refine⟨fun hz=>?_,fun hz=>?_⟩
     ·exact congrArg (DV.int _) (by rw [if_neg (fun hn=>by rw [yo] at hz;simp at hz;exact hz (e1.2 hn))])
     ·exact congrArg (DV.int _) (by rw [if_pos (e1.1 (by rw [yo] at hz;simpa using hz))])
    ·have hm:more s k:=⟨hlt',h0',h3',by rw [hwb,hws] at h4;simp at h4;omega⟩;conv=>whnf
     refine⟨k+1+bt s k,[0,1,2],hk.next hm,by show s.length - (k+1+bt s k)<s.length - k;omega,?_⟩;have hnx:IntKind.i64.wrap ((k:Int)+IntKind.i64.wrap (1+IntKind.i64.wrap (jc s (k:Int))))=((k+1+bt s k:Nat):Int):=by rw[hwb,qa (1+(bt s k:Int)) (by omega),qa _ (by omega)];omega
     conv=>whnf
     repeat'(first|exact ⟨⟩|exact rfl|apply And.intro)
     all_goals exact congrArg SV.d (congrArg (DV.int _) hnx)
 ·have hm:¬ more s k:=fun hm=>by have:=hm.1;simp at hge;omega
  conv=>whnf
  refine⟨fun e=>congrArg (DV.int _) (by rw[if_neg (key1 hm e)]),fun e=>?_⟩;obtain⟨e1,e2⟩:=key2 hm e;conv=>whnf
  refine⟨by simp;omega,?_⟩;conv=>whnf
  refine⟨fun hz=>?_,fun hz=>?_⟩
  ·exact congrArg (DV.int _) (by rw [if_neg (fun hn=>by rw [yo] at hz;simp at hz;exact hz (e1.2 hn))])
  ·exact congrArg (DV.int _) (by rw [if_pos (e1.1 (by rw [yo] at hz;simpa using hz))])
def low(b:UInt8):UInt8:=if 65<=b/\b<=90 then b+32 else b
def fold(s:List UInt8):List UInt8:=s.map low
theorem qu1(b:UInt8):(low b).toNat=if 65<=b.toNat/\b.toNat<=90 then b.toNat+32 else b.toNat:=by
 unfold low;have e1:(65<=b)↔65<=b.toNat:=by rw[UInt8.le_iff_toNat_le];rfl
 have e2:(b<=90)↔b.toNat<=90:=by rw[UInt8.le_iff_toNat_le];rfl
 simp only[e1,e2];split
 ·rw[UInt8.toNat_add];have:(32:UInt8).toNat=32:=rfl;omega
 ·rfl
def mix(s:List UInt8)(k j:Nat):Int:=if j<k then ((low (s[j]?.getD 0)).toNat:Int) else (bt s j:Int)
theorem xc(s:List UInt8)(hs:s.length<9223372036854775808):FnOk Tryz.prog 67 [.d (.str s)] (.d (.str (fold s))):=by
 refine qu (TT:=TT) (IN:=qe []) qg qh mixed 1000 Tryz.func67 rfl (qd Tryz.func67 (by kernel_rfl) rfl) rfl 28 (by kernel_rfl) ?_;conv=>whnf
 refine .inv Nat (fun k=>k<=s.length) (fun k=>[(10,.d (.int .i64 k))]) (fun k=>[(0,.row 5 1 s.length .no (fun j=>[.int .u8 (mix s k j)]))]) (fun k=>s.length - k) ⟨0,[0],by omega,?_⟩ ?_
 ·conv=>whnf
  repeat'(first|exact ⟨⟩|exact rfl|apply And.intro)
  intro i hi;simp[mix,yo]
 intro k hk;have hk1:k<s.length->IntKind.i64.wrap ((k:Int)+1)=((k+1:Nat):Int):=fun _=>by rw[qa _ (by omega)];omega
 conv=>whnf
 refine⟨fun hlt=>?_,fun hge=>?_⟩
 ·have hlt':k<s.length:=by simpa using hlt
  conv=>whnf
  refine⟨by simp;omega,?_⟩;have hmk:mix s k (Int.toNat (k:Int))=(bt s k:Int):=by simp[mix]
  have hb:=qc2 s k;conv=>whnf
  have stay:¬ (65<=bt s k/\bt s k<=90)->∀ i,i<s.length->[DV.int IntKind.u8 (mix s k i)]=[DV.int IntKind.u8 (mix s (k+1) i)]:=fun hn i hi=>by
   unfold mix;by_cases e:i=k
   ·subst e;rw [if_neg (by omega),if_pos (by omega),qu1,if_neg (by unfold bt at hn;exact hn)]
    rfl
   ·by_cases e2:i<k
    ·rw[if_pos e2,if_pos (by omega)]
    ·rw[if_neg e2,if_neg (by omega)]
  rw[hmk];refine⟨fun h1=>?_,fun h1=>?_⟩
  ·conv=>whnf
   refine⟨fun h2=>?_,fun h2=>?_⟩
   ·conv=>whnf
    refine⟨by simp;omega,?_⟩;conv=>whnf
    refine⟨k+1,[0],by omega,by show s.length - (k+1)<s.length - k;omega,?_⟩;conv=>whnf
    repeat'(first|exact ⟨⟩|exact rfl|apply And.intro)
    all_goals first
     |exact congrArg SV.d (congrArg (DV.int _) (hk1 hlt'))
     |exact stay (by simp at h1 h2;omega)
     |(
      intro i hi;show oneF _ _ _ _ i=_;unfold oneF mix;simp at h1 h2;by_cases e:i=k
      ·subst e;simp only[px,if_true,putD,s8];rw [if_pos (by omega),qu1,if_pos (by unfold bt at h1 h2;omega),dx];unfold bt at *;congr 2;omega
      ·rw[if_neg (by simpa using e)];show[DV.int _ _]=[DV.int _ _];by_cases e2:i<k
       ·rw[if_pos e2,if_pos (by omega)]
       ·rw[if_neg e2,if_neg (by omega)])
   ·conv=>whnf
    refine⟨k+1,[0],by omega,by show s.length - (k+1)<s.length - k;omega,?_⟩;conv=>whnf
    repeat'(first|exact ⟨⟩|exact rfl|apply And.intro)
    all_goals first
     |exact congrArg SV.d (congrArg (DV.int _) (hk1 hlt'))
     |exact stay (by simp at h1 h2;omega)
     |(
      intro i hi;show oneF _ _ _ _ i=_;unfold oneF mix;simp at h1 h2;by_cases e:i=k
      ·subst e;simp only[px,if_true,putD,s8];rw [if_pos (by omega),qu1,if_pos (by unfold bt at h1 h2;omega),dx];unfold bt at *;congr 2;omega
      ·rw[if_neg (by simpa using e)];show[DV.int _ _]=[DV.int _ _];by_cases e2:i<k
       ·rw[if_pos e2,if_pos (by omega)]
       ·rw[if_neg e2,if_neg (by omega)])
  ·conv=>whnf
   refine⟨k+1,[0],by omega,by show s.length - (k+1)<s.length - k;omega,?_⟩;conv=>whnf
   repeat'(first|exact ⟨⟩|exact rfl|apply And.intro)
   all_goals first
    |exact congrArg SV.d (congrArg (DV.int _) (hk1 hlt'))
    |exact stay (by simp at h1;omega)
    |(
     intro i hi;show oneF _ _ _ _ i=_;unfold oneF mix;simp at h1;by_cases e:i=k
     ·subst e;simp only[px,if_true,putD,s8];rw [if_pos (by omega),qu1,if_pos (by unfold bt at h1;omega),dx];unfold bt at *;congr 2;omega
     ·rw[if_neg (by simpa using e)];show[DV.int _ _]=[DV.int _ _];by_cases e2:i<k
      ·rw[if_pos e2,if_pos (by omega)]
      ·rw[if_neg e2,if_neg (by omega)])
 ·have hke:k=s.length:=by simp at hge;omega
  subst hke;conv=>whnf
  refine⟨fun i _=>⟨_,rfl⟩,?_⟩;conv=>whnf
  refine congrArg DV.str ?_;unfold yb fold;apply cx;intro i;rw[o4,o4];by_cases hi:i<s.length
  ·rw[co hi,pp hi];simp[mix,hi]
  ·rw[gp (by simp;omega),gp (by omega)]
   rfl
def qb0(s:List UInt8):Nat->Nat->Nat
 |0,_=>0
 |m+1,k=>if k<s.length/\k<255 then (if bt s k=0 then (if qb (s.take (k+1)) then k+1 else 0) else qb0 s m (k+1+bt s k)) else 0
def zq(s:List UInt8):Nat:=qb0 s 256 0
def FAt(s:List UInt8)(k:Nat):Prop:=k<=510/\∃ m,256<=k+m/\qb0 s m k=zq s
theorem FAt.zero(s:List UInt8):FAt s 0:=⟨by omega,256,by omega,rfl⟩
theorem FAt.step{s:List UInt8}{k:Nat}(h:FAt s k)(h1:k<s.length)(h2:k<255):(zq s=if bt s k=0 then (if qb (s.take (k+1)) then k+1 else 0) else zq s)/\(bt s k≠0->FAt s (k+1+bt s k)):=by
 obtain⟨hk,m,hm,e⟩:=h;cases m with
 |zero=>omega
 |succ m =>
  simp only [qb0,h1,h2,and_self,if_true] at e;have:=qc2 s k;refine⟨?_,fun hb=>⟨by omega,m,by omega,?_⟩⟩
  ·split
   ·rename_i hb;rw [if_pos hb] at e;exact e.symm
   ·rfl
  ·rw [if_neg hb] at e;exact e
theorem FAt.last{s:List UInt8}{k:Nat}(h:FAt s k)(h1:¬ (k<s.length/\k<255)):zq s=0:=by
 obtain⟨hk,m,hm,e⟩:=h;rw[<-e];cases m with
 |zero=>rfl
 |succ m=>simp only[qb0,if_neg h1]
theorem brT{b:Bool}{p q:Prop}(h:b=true)(hp:p):(b=true->p)/\(b=false->q):=⟨fun _=>hp,fun e=>(by rw [h] at e;cases e)⟩
theorem brF{b:Bool}{p q:Prop}(h:b=false)(hq:q):(b=true->p)/\(b=false->q):=⟨fun e=>(by rw [h] at e;cases e),fun _=>hq⟩
def strs(l:List (List UInt8))(i:Nat):List DV:=[.str (l[i]?.getD [])]
theorem wg(l:List (List UInt8))(x:List UInt8)(g:Nat->List DV)(hg:g 0=[.str x]):∀ i,i<l.length+1->catF l.length (strs l) g i=strs (l++[x]) i:=fun i hi=>by
 unfold catF strs;split
 ·rename_i h;rw[ot h]
 ·rename_i h;have:i=l.length:=by omega
  subst this;simp[hg]
theorem zz2(s:List UInt8):∀ m k,qb0 s m k<=s.length/\qb0 s m k<=255:=by
 intro m;induction m with
 |zero=>intro k;simp[qb0]
 |succ m ih =>
  intro k;simp only[qb0];split
  ·split
   ·split
    ·omega
    ·omega
   ·exact ih _
  ·omega
theorem yk8(s:List UInt8):zq s<=s.length/\zq s<=255:=zz2 s _ _
def jg7(b:Bool):Int:=if b then 0 else 2
theorem jg5(s:List UInt8)(n:Nat):((s.length:Int) == (n:Int))=(s.length == n):=by
 rw[ly];simp;omega
theorem xi2(s:List UInt8):FnOk Tryz.prog 179 [.d (.str s)] (.d (.int .i64 (zq s))):=by
 refine qu (TT:=TT) (IN:=qe []) qg qh mixed 1000 Tryz.func179 rfl (qd Tryz.func179 (by kernel_rfl) rfl) rfl 30 (by kernel_rfl) ?_;conv=>whnf
 refine .inv Nat (fun k=>FAt s k) (fun k=>[(3,.d (.int .i64 k))]) (fun k=>[]) (fun k=>600 - k) ⟨0,[],FAt.zero s,?_⟩ ?_
 ·conv=>whnf
  exact rZ0
 intro k hk;have hk1:=hk.1;have hby:=qc2 s k;conv=>whnf
 refine⟨fun hlt=>?_,fun hge=>?_⟩
 ·conv=>whnf
  refine⟨fun hlt2=>?_,fun hge2=>?_⟩
  ·have h1:k<s.length:=by simpa using hlt
   have h2:k<255:=by simp at hlt2;omega
   obtain⟨e1,e2⟩:=hk.step h1 h2;conv=>whnf
   refine⟨by simp;omega,?_⟩;conv=>whnf
   rw[yo];refine⟨fun hb=>?_,fun hb=>?_⟩
   ·have hb':bt s k≠0:=by simpa using hb
    conv=>whnf
    refine⟨by simp;omega,?_⟩;conv=>whnf
    refine⟨k+1+bt s k,[],e2 hb',by show 600 - (k+1+bt s k)<600 - k;omega,?_⟩;have hnx:IntKind.i64.wrap ((k:Int)+IntKind.i64.wrap (1+IntKind.i64.wrap (jc s (k:Int))))=((k+1+bt s k:Nat):Int):=by simp(disch:=omega) only[yo,qa];omega
    conv=>whnf
    repeat'(first|exact ⟨⟩|exact rfl|apply And.intro)
    all_goals exact congrArg SV.d (congrArg (DV.int _) hnx)
   ·have hb':bt s k=0:=by simpa using hb
    rw [if_pos hb'] at e1;have hw:=w64s k (by omega);conv=>whnf
    rw[hw];refine⟨by omega,?_⟩;conv=>whnf
    refine oD (yq _) rfl rfl ?_;have hsub:sub s 0 ((k+1:Nat):Int)=s.take (k+1):=by simp[sub]
    rw[hsub];by_cases hn:qb (s.take (k+1))
    ·rw [if_pos hn] at e1 ⊢;conv=>whnf
     refine brF (by decide) ?_;conv=>whnf
     refine congrArg (DV.int _) ?_;rw[e1,hw]
    ·rw [if_neg hn] at e1 ⊢;conv=>whnf
     refine brT (by decide) ?_;conv=>whnf
     exact congrArg (DV.int _) (by rw[e1];rfl)
  ·conv=>whnf
   exact congrArg (DV.int _) (by rw [hk.last (by simp at hge2;omega)];rfl)
 ·conv=>whnf
  exact congrArg (DV.int _) (by rw [hk.last (by simp at hge;omega)];rfl)
def qv0:Nat->List UInt8->Option (List (List UInt8))
 |_,[]=>some []
 |0,_ :: _=>none
 |m+1,a :: r=>if a.toNat<=r.length then (qv0 m (r.drop a.toNat)).map (r.take a.toNat :: ·) else none
def qt4(s:List UInt8):Option (List (List UInt8)):=qv0 s.length s
def qj0(s:List UInt8):Bool:=match qt4 s with
 |some l=>decide (0<l.length)
 |none=>false
def TAt(s:List UInt8)(k:Nat)(l:List (List UInt8)):Prop:=k<=s.length/\l.length<=k/\∃ m,s.length<=k+m/\(qv0 m (s.drop k)).map (l ++ ·)=qt4 s
theorem TAt.zero(s:List UInt8):TAt s 0 []:=⟨pz _,pz _,s.length,by omega,by simp[qt4]⟩
theorem TAt.step{s:List UInt8}{k:Nat}{l:List (List UInt8)}(h:TAt s k l)(hk:k<s.length):(s.length<k+1+bt s k->qt4 s=none)/\(k+1+bt s k<=s.length->TAt s (k+1+bt s k) (l++[(s.drop (k+1)).take (bt s k)])):=by
 obtain⟨h1,h2,m,h3,h4⟩:=h;have hd:s.drop k=s[k] :: s.drop (k+1):=l6 hk;have hb:bt s k=s[k].toNat:=by simp[bt,hk]
 cases m with
 |zero=>omega
 |succ m =>
  rw [hd] at h4;simp only [qv0,o7,<-hb] at h4;refine⟨fun hlt=>?_,fun hle=>⟨hle,by simp;omega,m,by omega,?_⟩⟩
  ·rw [if_neg (by omega)] at h4;simpa using h4.symm
  ·rw [if_pos (by omega),f9] at h4;rw[<-h4];simp[Function.comp_def]
theorem TAt.last{s:List UInt8}{k:Nat}{l:List (List UInt8)}(h:TAt s k l)(hk:k=s.length):qt4 s=some l:=by
 obtain⟨h1,h2,m,h3,h4⟩:=h;rw[<-h4,hk,cy];cases m <;> simp[qv0]
theorem xc8(s:List UInt8)(hs:s.length<=4096):FnOk Tryz.prog 149 [.d (.str s)] (.tup [.any,.d (.bool (qj0 s))]):=by
 refine qu (TT:=TT) (IN:=qe []) qg qh mixed 1000 Tryz.func149 rfl (qd Tryz.func149 (by kernel_rfl) rfl) rfl 28 (by kernel_rfl) ?_;conv=>whnf
 refine .nilT 4 9 1 (fun _=>[]) _ _ rfl ?_;conv=>whnf
 refine .inv (Nat × List (List UInt8)) (fun p=>TAt s p.1 p.2) (fun p=>[(0,.d (.str (s.drop p.1))),(4,.all 0)]) (fun p=>[(0,.row 9 1 p.2.length .iff (strs p.2))]) (fun p=>s.length - p.1) ⟨(0,[]),[0],TAt.zero s,?_⟩ ?_
 ·conv=>whnf
  repeat'(first|exact ⟨⟩|exact rfl|apply And.intro)
  intro i hi;exact absurd hi (by simp)
 intro p hk;have hk0:p.1<=s.length:=hk.1;have hk2:p.2.length<=p.1:=hk.2.1;have hby:=qc2 s p.1;have hlen:(s.drop p.1).length=s.length - p.1:=by simp
 conv=>whnf
 refine⟨fun hne=>?_,fun heq=>?_⟩
 ·have hlt:p.1<s.length:=by
   rcases oo p.1 s.length with e|e
   ·exact e
   ·rw [aq e] at hne;simp at hne
  obtain⟨e1,e2⟩:=TAt.step hk hlt;have hb0:jc (s.drop p.1) 0=(bt s p.1:Int):=by
   rw[show(0:Int)=((0:Nat):Int) from rfl,yo];simp[bt]
  conv=>whnf
  refine⟨by omega,?_⟩;have hsz:IntKind.i64.wrap (1+IntKind.i64.wrap (jc (s.drop p.1) 0))=((1+bt s p.1:Nat):Int):=by rw[hb0];simp(disch:=omega) only[qa];omega
  conv=>whnf
  rw[hsz];refine⟨fun hgt=>?_,fun hle=>?_⟩
  ·conv=>whnf
   refine⟨True.intro,?_,True.intro⟩;have:qj0 s=false:=by unfold qj0;rw [e1 (by simp at hgt;omega)]
   rw[this];exact rfl
  ·have hle':p.1+1+bt s p.1<=s.length:=by simp at hle;omega
   conv=>whnf
   refine⟨by omega,?_⟩;conv=>whnf
   refine⟨by omega,?_⟩;conv=>whnf
   refine⟨by omega,?_⟩;conv=>whnf
   refine⟨(p.1+1+bt s p.1,p.2++[(s.drop (p.1+1)).take (bt s p.1)]),[2],e2 hle',by show s.length - (p.1+1+bt s p.1)<s.length - p.1;omega,?_⟩;conv=>whnf
   repeat'(first|exact ⟨⟩|exact rfl|apply And.intro)
   ·refine congrArg SV.d (congrArg DV.str ?_);show sub (s.drop p.1) _ _=s.drop (p.1+1+bt s p.1);simp only[sub,px,f9];rw[dn (by simp;omega)];congr 1;omega
   ·simp
   ·refine wg _ _ _ ?_;show[DV.str _]=[DV.str _];congr 2;simp only[sub,px,f9];rw[show(1:Int).toNat=1 from rfl];congr 1;omega
 ·have hke:p.1=s.length:=by
   simp at heq;omega
  conv=>whnf
  refine⟨True.intro,?_,True.intro⟩;have:qj0 s=decide (0<p.2.length):=by unfold qj0;rw[TAt.last hk hke]
  rw[this];refine congrArg DV.bool ?_;simp
def wq:Nat->List UInt8->Option (List (List UInt8) × List UInt8)
 |0,s=>some ([],s)
 |n+1,s=>if zq s=0 then none else (wq n (s.drop (zq s))).map (fun p=>(s.take (zq s) :: p.1,p.2))
def cutF(a n c:Nat)(s:List UInt8):Option (List UInt8 × List (List UInt8) × List UInt8) :=
 if s.length<2 * a then none else (wq n (s.drop (2 * a))).bind fun p=>if p.2.length=4 * c then some (s.take (2 * a),p.1,p.2) else none
def yy2(x:List UInt8)(l:List (List UInt8))(r:List UInt8):SV:=.agg [.d (.str x),.d (.sl (Nat.beq l.length 0) l.length 1 (strs l)),.d (.str r)]
def yu7:SV:=.agg [.d (.str []),nilS,.d (.str [])]
def cutR:Option (List UInt8 × List (List UInt8) × List UInt8)->SV
 |none=>.tup [yu7,.d .ff]
 |some (x,l,r)=>.tup [yy2 x l r,.d .tt]
structure NAt(n:Nat)(s:List UInt8)(i:Nat)(l:List (List UInt8))(r:List UInt8):Prop where
 le:i<=n
 len:l.length=i
 short:r.length<=s.length
 eq:(wq (n - i) r).map (fun p=>(l++p.1,p.2))=wq n s
theorem NAt.zero(n:Nat)(s:List UInt8):NAt n s 0 [] s:=⟨pz _,rfl,pr _,by simp⟩
theorem NAt.step{n:Nat}{s:List UInt8}{i:Nat}{l:List (List UInt8)}{r:List UInt8}(h:NAt n s i l r)(hi:i<n):(zq r=0->wq n s=none)/\(zq r≠0->NAt n s (i+1) (l++[r.take (zq r)]) (r.drop (zq r))):=by
 have e:=h.eq;rw [show n - i=(n - (i+1))+1 from by omega] at e;simp only [wq] at e;refine ⟨fun h0=>by rw [if_pos h0] at e;simpa using e.symm,fun h0=>⟨hi,by simp [h.len],by have:=h.short;simp;omega,?_⟩⟩;rw [if_neg h0] at e;rw[<-e];simp[Function.comp_def]
theorem NAt.last{n:Nat}{s:List UInt8}{l:List (List UInt8)}{r:List UInt8}(h:NAt n s n l r):wq n s=some (l,r):=by
 rw[<-h.eq];simp[wq]
theorem rZ1{p:Prop}(h:p:=by repeat'(first|exact ⟨⟩|exact rfl|exact Or.inl rfl|exact .inr rfl|exact fun _ _=>rfl|apply And.intro)):p:=h
theorem yz3(a n c:Nat)(ha:a<=100)(hn:n<=100)(hc:c<=100)(s:List UInt8):FnOk Tryz.prog 151 [.agg [.d (.int .i64 a),.d (.int .i64 n),.d (.int .i64 c)],.d (.str s)] (cutR (cutF a n c s)):=by
 refine qu (TT:=TT) (IN:=qe []) qg qh mixed 1000 Tryz.func151 rfl (qd Tryz.func151 (by kernel_rfl) rfl) rfl 56 (by kernel_rfl) ?_;have h2a:IntKind.i64.wrap (2 * (a:Int))=((2 * a:Nat):Int):=by rw[qa _ (by omega)];omega
 have h4c:IntKind.i64.wrap (4 * (c:Int))=((4 * c:Nat):Int):=by rw[qa _ (by omega)];omega
 conv=>whnf
 rw[h2a];refine⟨fun hlt=>?_,fun hge=>?_⟩
 ·have:cutF a n c s=none:=by unfold cutF;rw [if_pos (by simp at hlt;omega)]
  rw[this];conv=>whnf
  exact rZ1
 ·have hge':2 * a<=s.length:=by simp at hge;omega
  conv=>whnf
  rw[h2a];refine⟨by omega,?_⟩;conv=>whnf
  rw[h2a];refine⟨by omega,?_⟩;conv=>whnf
  refine .nilC 2 1 9 1 (fun _=>[]) _ _ _ _ rfl rfl ?_;conv=>whnf
  have hr0:sub s ((2 * a:Nat):Int) (s.length:Int)=s.drop (2 * a):=by
   simp only[sub,px];rw[dn (by simp)]
  have hx0:sub s 0 ((2 * a:Nat):Int)=s.take (2 * a):=by simp only[sub,px];simp
  rw[hr0,hx0];refine .inv (Nat × List (List UInt8) × List UInt8) (fun p=>NAt n (s.drop (2 * a)) p.1 p.2.1 p.2.2) (fun p=>[(7,.d (.str p.2.2)),(29,.d (.int .i64 p.1))]) (fun p=>[(2,.cells 170 [.d (.str (s.take (2 * a))),.all 3,.d (.str [])]),(3,.row 9 1 p.2.1.length .iff (strs p.2.1))]) (fun p=>n - p.1) ⟨(0,[],s.drop (2 * a)),[0,1,2,3],NAt.zero _ _,?_⟩ ?_
  ·conv=>whnf
   repeat'(first|exact ⟨⟩|exact rfl|apply And.intro)
   intro i hi;omega
  intro p hp;have hp1:=hp.le;have hp2:=hp.len;have hp3:=hp.short;have hf:=yk8 p.2.2;simp only [o7] at hp3;conv=>whnf
  refine⟨fun hlt=>?_,fun hge=>?_⟩
  ·have hi:p.1<n:=by simpa using hlt
   obtain⟨e1,e2⟩:=hp.step hi;conv=>whnf
   refine oD (xi2 _) rfl rfl ?_;conv=>whnf
   refine⟨fun h0=>?_,fun h0=>?_⟩
   ·have h0':zq p.2.2=0:=by simpa using h0
    have:cutF a n c s=none:=by unfold cutF;rw[if_neg (by omega),e1 h0'];rfl
    rw[this];conv=>whnf
    exact rZ1
   ·have h0':zq p.2.2≠0:=by simpa using h0
    conv=>whnf
    refine⟨by omega,?_⟩;conv=>whnf
    refine⟨by omega,?_⟩;conv=>whnf
    refine⟨by omega,?_⟩;conv=>whnf
    refine⟨(p.1+1,p.2.1++[p.2.2.take (zq p.2.2)],p.2.2.drop (zq p.2.2)),[0,1,2,5],e2 h0',by show n - (p.1+1)<n - p.1;omega,?_⟩;have hw:IntKind.i64.wrap ((p.1:Int)+1)=((p.1+1:Nat):Int):=by rw[qa _ (by omega)];omega
    conv=>whnf
    repeat'(first|exact ⟨⟩|exact rfl|apply And.intro)
    ·refine congrArg SV.d (congrArg DV.str ?_);simp only[sub,px];rw[dn (by simp)]
    ·exact congrArg SV.d (congrArg (DV.int _) hw)
    ·simp
    ·refine wg _ _ _ ?_;show[DV.str _]=[DV.str _];simp[sub]
  ·have hi:p.1=n:=by simp at hge;omega
   rw [hi] at hp;have hnm:=hp.last;conv=>whnf
   rw[h4c];refine⟨fun hne=>?_,fun heq=>?_⟩
   ·have:cutF a n c s=none:=by unfold cutF;rw [if_neg (by omega),hnm];simp at hne ⊢;omega
    rw[this];conv=>whnf
    exact rZ1
   ·have:cutF a n c s=some (s.take (2 * a),p.2.1,p.2.2):=by unfold cutF;rw [if_neg (by omega),hnm];simp at heq ⊢;omega
    rw[this];conv=>whnf
    exact rZ1
def zj(t:Int):Option (Nat × Nat × Nat) :=
 if t=2\/t=5\/t=12 then some (0,1,0) else if t=15 then some (1,1,0) else if t=33 then some (3,1,0) else if t=6 then some (0,2,5) else none
def jt8(p:Nat × Nat × Nat):SV:=.agg [.d (.int .i64 p.1),.d (.int .i64 p.2.1),.d (.int .i64 p.2.2)]
def xv4:Option (Nat × Nat × Nat)->SV
 |some p=>.tup [jt8 p,.d .tt]
 |none=>.tup [jt8 (0,0,0),.d .ff]
theorem jm2{t:Int}{p:Nat × Nat × Nat}(h:zj t=some p):p.1<=100/\p.2.1<=100/\p.2.2<=100:=by
 unfold zj at h
 repeat'(split at h)
 all_goals first|(cases h;decide)|cases h
theorem yk6(t:Int):FnOk Tryz.prog 150 [.d (.int .u16 t)] (xv4 (zj t)):=by
 refine qu (TT:=TT) (IN:=qe []) qg qh mixed 1000 Tryz.func150 rfl (qd Tryz.func150 (by kernel_rfl) rfl) rfl 19 (by kernel_rfl) ?_;have fin1:t=2\/t=5\/t=12->zj t=some (0,1,0):=fun h=>by unfold zj;rw[if_pos h]
 conv=>whnf
 refine⟨fun h1=>?_,fun h1=>?_⟩
 ·rw[fin1 (.inl (by simpa using h1))];conv=>whnf
  refine brT h1 ?_;conv=>whnf
  exact rZ0
 simp only [mq,ne_eq] at h1;conv=>whnf
 refine⟨fun h2=>?_,fun h2=>?_⟩
 ·rw[fin1 (.inr (.inl (by simpa using h2)))];conv=>whnf
  refine brT h2 ?_;conv=>whnf
  exact rZ0
 simp only [mq,ne_eq] at h2;conv=>whnf
 refine⟨fun h3=>?_,fun h3=>?_⟩
 ·rw[fin1 (.inr (.inr (by simpa using h3)))];conv=>whnf
  exact rZ0
 simp only [mq,ne_eq] at h3;conv=>whnf
 refine⟨fun h4=>?_,fun h4=>?_⟩
 ·have:zj t=some (1,1,0):=by unfold zj;simp at h4;simp [h4]
  rw[this];conv=>whnf
  exact rZ0
 simp only [mq,ne_eq] at h4;conv=>whnf
 refine⟨fun h5=>?_,fun h5=>?_⟩
 ·have:zj t=some (3,1,0):=by unfold zj;simp at h5;simp [h5]
  rw[this];conv=>whnf
  exact rZ0
 simp only [mq,ne_eq] at h5;conv=>whnf
 refine⟨fun h6=>?_,fun h6=>?_⟩
 ·have:zj t=some (0,2,5):=by unfold zj;simp at h6;simp [h6]
  rw[this];conv=>whnf
  exact rZ0
 simp only [mq,ne_eq] at h6;have:zj t=none:=by unfold zj;simp[h1,h2,h3,h4,h5,h6]
 rw[this];conv=>whnf
 exact rZ0
def kp(t:Int)(s:List UInt8):Bool :=
 if t=1 then s.length == 4 else if t=28 then s.length == 16 else if t=16 then qj0 s else match zj t with
 |some p=>(cutF p.1 p.2.1 p.2.2 s).isSome
 |none=>true
def kf(t:Int)(s:List UInt8):Bool:=decide (s.length<=4096) && kp t s
theorem yi0(t:Int)(s:List UInt8):FnOk Tryz.prog 115 [.d (.int .u16 t),.d (.str s)] (.d (.int .i64 (jg7 (kf t s)))):=by
 refine qu (TT:=TT) (IN:=qe []) qg qh mixed 1000 Tryz.func115 rfl (qd Tryz.func115 (by kernel_rfl) rfl) rfl 43 (by kernel_rfl) ?_;conv=>whnf
 refine⟨fun h0=>?_,fun h0=>?_⟩
 ·have:kf t s=false:=by unfold kf;simp at h0;simp;intro h;omega
  rw[this];conv=>whnf
  exact rfl
 have hle:s.length<=4096:=by simp at h0;omega
 have hr:kf t s=kp t s:=by unfold kf;simp[hle]
 rw[hr];have hlast:∀ b:Bool,kp t s=b->(((!b)=true->(if kp t s=true then (0:Int) else 2)=2)/\((!b)=false->(if kp t s=true then (0:Int) else 2)=0)):=fun b h=>by rw[h];cases b <;> simp
 conv=>whnf
 refine⟨fun h1=>?_,fun h1=>?_⟩
 ·simp only [mw] at h1;have e:kp t s=((s.length:Int) == 4):=by unfold kp;rw[if_pos h1,<-jg5];rfl
  obtain⟨l1,l2⟩:=hlast _ e;conv=>whnf
  refine⟨fun h=>?_,fun h=>?_⟩
  ·conv=>whnf
   exact congrArg (DV.int _) (l1 h).symm
  ·conv=>whnf
   exact congrArg (DV.int _) (l2 h).symm
 simp only [mq,ne_eq] at h1;conv=>whnf
 refine⟨fun h2=>?_,fun h2=>?_⟩
 ·simp only [mw] at h2;have e:kp t s=((s.length:Int) == 16):=by unfold kp;rw[if_neg h1,if_pos h2,<-jg5];rfl
  obtain⟨l1,l2⟩:=hlast _ e;conv=>whnf
  refine⟨fun h=>?_,fun h=>?_⟩
  ·conv=>whnf
   exact congrArg (DV.int _) (l1 h).symm
  ·conv=>whnf
   exact congrArg (DV.int _) (l2 h).symm
 simp only [mq,ne_eq] at h2;conv=>whnf
 refine⟨fun h3=>?_,fun h3=>?_⟩
 ·simp only [mw] at h3;have e:kp t s=qj0 s:=by unfold kp;rw[if_neg h1,if_neg h2,if_pos h3]
  obtain⟨l1,l2⟩:=hlast _ e;conv=>whnf
  refine oD (xc8 s hle) rfl rfl ?_;conv=>whnf
  refine⟨fun h=>?_,fun h=>?_⟩
  ·conv=>whnf
   exact congrArg (DV.int _) (l1 h).symm
  ·conv=>whnf
   exact congrArg (DV.int _) (l2 h).symm
 simp only [mq,ne_eq] at h3;conv=>whnf
 refine .one (.data _ (yk6 t) rfl ?_ ?_)
 ·cases zj t <;> rfl
 cases hf:zj t with
 |none =>
  have e:kp t s=true:=by unfold kp;rw[if_neg h1,if_neg h2,if_neg h3,hf]
  obtain⟨l1,l2⟩:=hlast _ e;conv=>whnf
  refine brF (by simpa using h0) ?_;conv=>whnf
  exact congrArg (DV.int _) (l2 rfl).symm
 |some p =>
  obtain⟨f1,f2,f3⟩:=jm2 hf;have e:kp t s=(cutF p.1 p.2.1 p.2.2 s).isSome:=by unfold kp;rw[if_neg h1,if_neg h2,if_neg h3,hf]
  obtain⟨l1,l2⟩:=hlast _ e;conv=>whnf
  refine .one (.data _ (yz3 p.1 p.2.1 p.2.2 f1 f2 f3 s) rfl ?_ ?_)
  ·cases cutF p.1 p.2.1 p.2.2 s <;> rfl
  cases hc:cutF p.1 p.2.1 p.2.2 s with
  |none =>
   rw [hc] at l1;conv=>whnf
   exact congrArg (DV.int _) (l1 rfl).symm
  |some q =>
   rw [hc] at l2;conv=>whnf
   exact congrArg (DV.int _) (l2 rfl).symm
structure RR where
 nm:List UInt8
 ty:Int
 cl:Int
 ttl:Int
 d:List UInt8
deriving Inhabited,DecidableEq
def RR.enc(r:RR):List DV:=[.str r.nm,.int .u16 r.ty,.int .u16 r.cl,.int .u32 r.ttl,.str r.d]
def RR.V(r:RR):SV:=.agg [.d (.str r.nm),.d (.int .u16 r.ty),.d (.int .u16 r.cl),.d (.int .u32 r.ttl),.d (.str r.d)]
def RR.check(r:RR):Bool:=decide (qb r.nm) && kf r.ty r.d && (decide (r.ttl<=2147483647) || r.ty == 41)
theorem ji9(r:RR):FnOk Tryz.prog 82 [r.V] (.d (.int .i64 (jg7 r.check))):=by
 refine qu (TT:=TT) (IN:=qe []) qg qh mixed 1000 Tryz.func82 rfl (qd Tryz.func82 (by kernel_rfl) rfl) rfl 22 (by kernel_rfl) ?_;conv=>whnf
 refine oD (yq r.nm) rfl rfl ?_;by_cases hn:qb r.nm
 ·rw[if_pos hn];conv=>whnf
  refine brF rfl ?_;conv=>whnf
  refine oD (yi0 r.ty r.d) rfl rfl ?_;cases hc:kf r.ty r.d
  ·have e:r.check=false:=by simp[RR.check,hc]
   rw[e];conv=>whnf
   refine brT rfl ?_;conv=>whnf
   exact rfl
  ·conv=>whnf
   refine brF rfl ?_;conv=>whnf
   refine⟨fun c1=>?_,fun c1=>?_⟩
   ·have c1':¬ r.ttl<=2147483647:=by
     have:r.ttl > 2147483647:=pu c1;omega
    conv=>whnf
    refine⟨fun c2=>?_,fun c2=>?_⟩
    ·have e:r.check=false:=by
      have:¬ r.ty=41:=by simpa using c2
      simp[RR.check,c1',this]
     rw[e];conv=>whnf
     exact rfl
    ·have e:r.check=true:=by
      have:r.ty=41:=by simpa using c2
      simp only[RR.check,hn,hc,decide_true,l7,cq,mw];exact .inr this
     rw[e];conv=>whnf
     exact rfl
   ·have c1':r.ttl<=2147483647:=by
     have:¬ r.ttl > 2147483647:=pw c1;omega
    have e:r.check=true:=by simp[RR.check,hn,hc,c1']
    rw[e];conv=>whnf
    exact rfl
 ·rw[if_neg hn];have e:r.check=false:=by simp[RR.check,hn]
  rw[e];conv=>whnf
  refine brT rfl ?_;conv=>whnf
  exact rfl
def rrsD(z:Bool)(l:List RR):DV:=.sl z l.length 5 (fun i=>(l.getD i default).enc)
theorem yx8(l:List RR)(q:RR)(j:Nat)(hj:j<l.length+1):catF l.length (fun j=>(l.getD j default).enc) (qx q.enc 5) j=((l++[q]).getD j default).enc:=by
 unfold catF;split
 ·rename_i h;show(l.getD j default).enc=_;rw[List.getD,List.getD,ot h]
 ·rename_i h;have:j=l.length:=by omega
  subst this;rw[gq,List.getD,o5 (pr _),gq];rfl
structure RR.Ok(r:RR):Prop where
 ty:0<=r.ty/\r.ty<=65535
 cl:0<=r.cl/\r.cl<=65535
 ttl:0<=r.ttl/\r.ttl<=4294967295
end Go.Proofs.YtoefgnnkajhmiaaGreatDoor
namespace Go.Proofs
open Go.Shelf Go.RowKit Go.Sort Go.Lib
def Try.lays156_ren:Go.Shelf.Ren:=⟨fun|156=>85|165=>118|166=>20|169=>22|240=>51|241=>156|276=>88|277=>185|n=>n,fun|31=>47|9=>9|3=>3|4=>4|0=>0|20=>20|72=>65|76=>71|70=>63|37=>60|75=>70|127=>105|164=>141|5=>5|80=>74|n=>n,fun|n=>n⟩
theorem Try.lays156:Go.Proofs.Lays.n156 Tryz.prog Try.lays156_ren:={
 mixed:=by kernel_rfl
 f156:=Tryz.func85.trans (congrArg some (by kernel_rfl))
 f165:=Tryz.func118.trans (congrArg some (by kernel_rfl))
 f166:=Tryz.func20.trans (congrArg some (by kernel_rfl))
 f169:=Tryz.func22.trans (congrArg some (by kernel_rfl))
 f240:=Tryz.func51.trans (congrArg some (by kernel_rfl))
 f241:=Tryz.func156.trans (congrArg some (by kernel_rfl))
 f276:=Tryz.func88.trans (congrArg some (by kernel_rfl))
 f277:=Tryz.func185.trans (congrArg some (by kernel_rfl))
 t0:=Tryz.underlying0
 a0:=Tryz.isAgg0
 z0:=Tryz.sizeOf0
 v0:=Tryz.zeroValue0
 t3:=Tryz.underlying3
 a3:=Tryz.isAgg3
 z3:=Tryz.sizeOf3
 v3:=Tryz.zeroValue3
 t4:=Tryz.underlying4
 a4:=Tryz.isAgg4
 z4:=Tryz.sizeOf4
 v4:=Tryz.zeroValue4
 t9:=Tryz.underlying9
 a9:=Tryz.isAgg9
 z9:=Tryz.sizeOf9
 v9:=Tryz.zeroValue9
 t20:=Tryz.underlying20
 a20:=Tryz.isAgg20
 z20:=Tryz.sizeOf20
 v20:=Tryz.zeroValue20
 t31:=Tryz.underlying47
 a31:=Tryz.isAgg47
 z31:=Tryz.sizeOf47
 v31:=Tryz.zeroValue47
 t37:=Tryz.underlying60
 a37:=Tryz.isAgg60
 z37:=Tryz.sizeOf60
 v37:=Tryz.zeroValue60
 t70:=Tryz.underlying63
 a70:=Tryz.isAgg63
 z70:=Tryz.sizeOf63
 v70:=Tryz.zeroValue63
 t72:=Tryz.underlying65
 a72:=Tryz.isAgg65
 z72:=Tryz.sizeOf65
 v72:=Tryz.zeroValue65
 t75:=Tryz.underlying70
 a75:=Tryz.isAgg70
 z75:=Tryz.sizeOf70
 v75:=Tryz.zeroValue70
 t76:=Tryz.underlying71
 a76:=Tryz.isAgg71
 z76:=Tryz.sizeOf71
 v76:=Tryz.zeroValue71
 t127:=Tryz.underlying105
 a127:=Tryz.isAgg105
 z127:=Tryz.sizeOf105
 v127:=Tryz.zeroValue105
 t164:=Tryz.underlying141
 a164:=Tryz.isAgg141
 z164:=Tryz.sizeOf141
 v164:=Tryz.zeroValue141 }
theorem Try.Builder_Extra_156:Builder.Extra Tryz.prog Try.lays156_ren:={
 sizeBuilder:=by kernel_rfl
 liesBuilder:=by kernel_rfl
 t5:=Tryz.underlying5
 a5:=Tryz.isAgg5
 z5:=Tryz.sizeOf5
 v5:=Tryz.zeroValue5
 infoByte:=by kernel_rfl
 cellsByte:=by kernel_rfl
 sizeByte:=by kernel_rfl
 neB5:=by decide }
theorem Try.strings_Join_none(a:Option Addr)(c:Nat)(sep:ByteArray)(w:World) :
 Calls Tryz.prog 85 #[.slice a 0 c,.string sep] w fun e w'=>e = .returned (.string ⟨#[]⟩)/\w'=w:=Any.strings_Join_none Try.lays156 Try.Builder_Extra_156 a c sep w
theorem Try.strings_Join(bk o c:Nat)(xs:List ByteArray)(sep:ByteArray)(w:World)(hcells:∀ (j:Nat) x,xs[j]? = some x->w.cell? ⟨bk,o+j,none⟩=some (.string x))(hbk:bk<w.heap.size)(hN:xs.length<=140737488355328)(hcap:xs.length<=c)(hlen:(Lib.join (xs.map (·.data.toList)) sep.data.toList).length<=140737488355328) :
 Calls Tryz.prog 85 #[.slice (some ⟨bk,o,none⟩) xs.length c,.string sep] w fun e w'=>e = .returned (.string ⟨(Lib.join (xs.map (·.data.toList)) sep.data.toList).toArray⟩)/\Below w.heap.size w w':=Any.strings_Join Try.lays156 Try.Builder_Extra_156 bk o c xs sep w hcells hbk hN hcap hlen
def Try.lays106_ren:Go.Shelf.Ren:=⟨fun|106=>145|213=>177|265=>199|n=>n,fun|9=>9|3=>3|n=>n,fun|n=>n⟩
theorem Try.lays106:Go.Proofs.Lays.n106 Tryz.prog Try.lays106_ren:={
 mixed:=by kernel_rfl
 f106:=Tryz.func145.trans (congrArg some (by kernel_rfl))
 f213:=Tryz.func177.trans (congrArg some (by kernel_rfl))
 f265:=Tryz.func199.trans (congrArg some (by kernel_rfl))
 t3:=Tryz.underlying3
 a3:=Tryz.isAgg3
 z3:=Tryz.sizeOf3
 v3:=Tryz.zeroValue3
 t9:=Tryz.underlying9
 a9:=Tryz.isAgg9
 z9:=Tryz.sizeOf9
 v9:=Tryz.zeroValue9 }
theorem Try.strings_Compare(a b:ByteArray)(w:World) :
 Calls Tryz.prog 145 #[.string a,.string b] w fun e w'=>e = .returned (.int .i64 (Lib.compareBytes a.data.toList b.data.toList))/\w'=w:=Any.strings_Compare Try.lays106 a b w
def Try.lays137_ren:Go.Shelf.Ren:=⟨fun|137=>170|217=>127|266=>160|n=>n,fun|9=>9|5=>5|3=>3|n=>n,fun|n=>n⟩
theorem Try.lays137:Go.Proofs.Lays.n137 Tryz.prog Try.lays137_ren:={
 mixed:=by kernel_rfl
 f137:=Tryz.func170.trans (congrArg some (by kernel_rfl))
 f217:=Tryz.func127.trans (congrArg some (by kernel_rfl))
 f266:=Tryz.func160.trans (congrArg some (by kernel_rfl))
 t3:=Tryz.underlying3
 a3:=Tryz.isAgg3
 z3:=Tryz.sizeOf3
 v3:=Tryz.zeroValue3
 t5:=Tryz.underlying5
 a5:=Tryz.isAgg5
 z5:=Tryz.sizeOf5
 v5:=Tryz.zeroValue5
 t9:=Tryz.underlying9
 a9:=Tryz.isAgg9
 z9:=Tryz.sizeOf9
 v9:=Tryz.zeroValue9 }
theorem Try.strings_IndexByte(s:ByteArray)(c:Int)(w:World) :
 Calls Tryz.prog 170 #[.string s,.int .u8 c] w fun e w'=>e = .returned (.int .i64 (Lib.indexByte s.data.toList c.toNat.toUInt8))/\w'=w:=Any.strings_IndexByte Try.lays137 s c w
def Try.lays283_ren:Go.Shelf.Ren:=⟨fun|283=>152|n=>n,fun|3=>3|9=>9|4=>4|n=>n,fun|n=>n⟩
theorem Try.lays283:Go.Proofs.Lays.n283 Tryz.prog Try.lays283_ren:={
 mixed:=by kernel_rfl
 f283:=Tryz.func152.trans (congrArg some (by kernel_rfl))
 t3:=Tryz.underlying3
 a3:=Tryz.isAgg3
 z3:=Tryz.sizeOf3
 v3:=Tryz.zeroValue3
 t4:=Tryz.underlying4
 a4:=Tryz.isAgg4
 z4:=Tryz.sizeOf4
 v4:=Tryz.zeroValue4
 t9:=Tryz.underlying9
 a9:=Tryz.isAgg9
 z9:=Tryz.sizeOf9
 v9:=Tryz.zeroValue9 }
theorem Try.internal_strconv_small(i:Nat)(h:i<100)(w:World) :
 Calls Tryz.prog 152 #[.int .i64 i] w fun e w'=>e = .returned (.string ⟨(Lib.decDigits i).toArray⟩)/\w'=w:=Any.internal_strconv_small Try.lays283 i h w
def Try.laysM284_ren:Go.Shelf.Ren:=⟨fun|284=>153|129=>181|317=>180|318=>182|n=>n,fun|53=>137|3=>3|212=>225|0=>0|4=>4|46=>173|5=>5|9=>9|n=>n,fun|17=>1|n=>n⟩
theorem Try.laysM284:Go.Proofs.LaysM.n284 Tryz.prog Try.laysM284_ren:={
 mixed:=by kernel_rfl
 f129:=Tryz.func181.trans (congrArg some (by kernel_rfl))
 f284:=Tryz.func153.trans (congrArg some (by kernel_rfl))
 f317:=Tryz.func180.trans (congrArg some (by kernel_rfl))
 f318:=Tryz.func182.trans (congrArg some (by kernel_rfl))
 t0:=Tryz.underlying0
 a0:=Tryz.isAgg0
 z0:=Tryz.sizeOf0
 v0:=Tryz.zeroValue0
 t3:=Tryz.underlying3
 a3:=Tryz.isAgg3
 z3:=Tryz.sizeOf3
 v3:=Tryz.zeroValue3
 t4:=Tryz.underlying4
 a4:=Tryz.isAgg4
 z4:=Tryz.sizeOf4
 v4:=Tryz.zeroValue4
 t5:=Tryz.underlying5
 a5:=Tryz.isAgg5
 z5:=Tryz.sizeOf5
 v5:=Tryz.zeroValue5
 t9:=Tryz.underlying9
 a9:=Tryz.isAgg9
 z9:=Tryz.sizeOf9
 v9:=Tryz.zeroValue9
 t46:=Tryz.underlying173
 a46:=Tryz.isAgg173
 z46:=Tryz.sizeOf173
 v46:=Tryz.zeroValue173
 t53:=Tryz.underlying137
 a53:=Tryz.isAgg137
 z53:=Tryz.sizeOf137
 v53:=Tryz.zeroValue137
 t212:=Tryz.underlying225
 a212:=Tryz.isAgg225
 z212:=Tryz.sizeOf225
 v212:=Tryz.zeroValue225
 g17:=by kernel_rfl
 i0:=by kernel_rfl
 i3:=by kernel_rfl
 i4:=by kernel_rfl
 i5:=by kernel_rfl
 i9:=by kernel_rfl
 i46:=by kernel_rfl
 i53:=by kernel_rfl
 i212:=by kernel_rfl
 m17:=by kernel_rfl }
theorem Try.internal_strconv_numDigits (u : Nat) (h1 : 1 ≤ u) (h2 : u < 18446744073709551616) (w : World) (htab : Lib.TabIs Tryz.prog w "internal/strconv.uint64pow10" .u64 Lib.pow10Tab) :
 Calls Tryz.prog 153 #[.int .u64 u] w fun e w'=>e = .returned (.int .i64 (Lib.nDigits u))/\w'=w:=Any.internal_strconv_numDigits Try.laysM284 u h1 h2 w htab
def Try.lays285_ren:Go.Shelf.Ren:=⟨fun|285=>154|n=>n,fun|37=>60|53=>137|3=>3|4=>4|51=>29|9=>9|5=>5|0=>0|n=>n,fun|n=>n⟩
theorem Try.lays285:Go.Proofs.Lays.n285 Tryz.prog Try.lays285_ren:={
 mixed:=by kernel_rfl
 f285:=Tryz.func154.trans (congrArg some (by kernel_rfl))
 t0:=Tryz.underlying0
 a0:=Tryz.isAgg0
 z0:=Tryz.sizeOf0
 v0:=Tryz.zeroValue0
 t3:=Tryz.underlying3
 a3:=Tryz.isAgg3
 z3:=Tryz.sizeOf3
 v3:=Tryz.zeroValue3
 t4:=Tryz.underlying4
 a4:=Tryz.isAgg4
 z4:=Tryz.sizeOf4
 v4:=Tryz.zeroValue4
 t5:=Tryz.underlying5
 a5:=Tryz.isAgg5
 z5:=Tryz.sizeOf5
 v5:=Tryz.zeroValue5
 t9:=Tryz.underlying9
 a9:=Tryz.isAgg9
 z9:=Tryz.sizeOf9
 v9:=Tryz.zeroValue9
 t37:=Tryz.underlying60
 a37:=Tryz.isAgg60
 z37:=Tryz.sizeOf60
 v37:=Tryz.zeroValue60
 t51:=Tryz.underlying29
 a51:=Tryz.isAgg29
 z51:=Tryz.sizeOf29
 v51:=Tryz.zeroValue29
 t53:=Tryz.underlying137
 a53:=Tryz.isAgg137
 z53:=Tryz.sizeOf137
 v53:=Tryz.zeroValue137 }
theorem Try.internal_strconv_formatBase10(blk off cap:Nat)(u:Nat)(d:Array UInt8)(w:World)(hH:Holds (fun(b:UInt8)=>Value.int .u8 (b.toNat:Int)) w blk off d)(hu:u<10 ^ d.size)(hu64:u<18446744073709551616)(hsz:d.size<4611686018427387904) :
 Calls Tryz.prog 154 #[.slice (some ⟨blk,off,none⟩) d.size cap,.int .u64 u] w fun e w' =>
  e = .returned (.tuple #[])/\∃ (n v':Nat) (dk:Array UInt8),w'=(putRow (fun(b:UInt8)=>Value.int .u8 (b.toNat:Int)) w blk off dk).drewN n/\FmtInv d.size u 0 v' dk:=Any.internal_strconv_formatBase10 Try.lays285 blk off cap u d w hH hu hu64 hsz
def Try.lays143_ren:Go.Shelf.Ren:=⟨fun|143=>192|219=>97|217=>127|225=>128|224=>129|267=>130|266=>160|314=>161|n=>n,fun|9=>9|3=>3|4=>4|5=>5|46=>173|146=>209|51=>29|n=>n,fun|1=>0|n=>n⟩
theorem Try.lays143:Go.Proofs.Lays.n143 Tryz.prog Try.lays143_ren:={
 mixed:=by kernel_rfl
 f143:=Tryz.func192.trans (congrArg some (by kernel_rfl))
 f217:=Tryz.func127.trans (congrArg some (by kernel_rfl))
 f219:=Tryz.func97.trans (congrArg some (by kernel_rfl))
 f224:=Tryz.func129.trans (congrArg some (by kernel_rfl))
 f225:=Tryz.func128.trans (congrArg some (by kernel_rfl))
 f266:=Tryz.func160.trans (congrArg some (by kernel_rfl))
 f267:=Tryz.func130.trans (congrArg some (by kernel_rfl))
 f314:=Tryz.func161.trans (congrArg some (by kernel_rfl))
 t3:=Tryz.underlying3
 a3:=Tryz.isAgg3
 z3:=Tryz.sizeOf3
 v3:=Tryz.zeroValue3
 t4:=Tryz.underlying4
 a4:=Tryz.isAgg4
 z4:=Tryz.sizeOf4
 v4:=Tryz.zeroValue4
 t5:=Tryz.underlying5
 a5:=Tryz.isAgg5
 z5:=Tryz.sizeOf5
 v5:=Tryz.zeroValue5
 t9:=Tryz.underlying9
 a9:=Tryz.isAgg9
 z9:=Tryz.sizeOf9
 v9:=Tryz.zeroValue9
 t46:=Tryz.underlying173
 a46:=Tryz.isAgg173
 z46:=Tryz.sizeOf173
 v46:=Tryz.zeroValue173
 t51:=Tryz.underlying29
 a51:=Tryz.isAgg29
 z51:=Tryz.sizeOf29
 v51:=Tryz.zeroValue29
 t146:=Tryz.underlying209
 a146:=Tryz.isAgg209
 z146:=Tryz.sizeOf209
 v146:=Tryz.zeroValue209
 g1:=by kernel_rfl }
theorem Try.strings_Index_one(s:ByteArray)(c:UInt8)(w:World) :
 Calls Tryz.prog 192 #[.string s,.string ⟨#[c]⟩] w fun e w'=>e = .returned (.int .i64 (Lib.indexByte s.data.toList c))/\w'=w:=Any.strings_Index_one Try.lays143 s c w
def Try.laysPu14_ren:Go.Shelf.Ren:=⟨fun|14=>99|16=>133|17=>134|19=>163|20=>164|21=>165|22=>166|23=>167|24=>168|25=>187|27=>189|26=>188|28=>204|29=>213|30=>152|31=>153|32=>154|33=>155|35=>181|34=>180|36=>182|37=>183|38=>184|39=>202|40=>203|n=>n,fun|9=>9|3=>3|22=>137|24=>70|25=>147|4=>4|34=>211|5=>5|36=>173|37=>60|0=>0|39=>212|21=>21|44=>231|47=>105|50=>242|48=>240|2=>2|52=>204|55=>207|59=>225|60=>29|20=>20|61=>226|65=>248|66=>249|67=>74|n=>n,fun|0=>2|1=>3|2=>1|3=>4|4=>5|n=>n⟩
theorem Try.laysPu14:Go.Proofs.LaysPu.n14 Tryz.prog Try.laysPu14_ren:={
 mixed:=by kernel_rfl
 f14:=Tryz.func99.trans (congrArg some (by kernel_rfl))
 f16:=Tryz.func133.trans (congrArg some (by kernel_rfl))
 f17:=Tryz.func134.trans (congrArg some (by kernel_rfl))
 f19:=Tryz.func163.trans (congrArg some (by kernel_rfl))
 f20:=Tryz.func164.trans (congrArg some (by kernel_rfl))
 f21:=Tryz.func165.trans (congrArg some (by kernel_rfl))
 f22:=Tryz.func166.trans (congrArg some (by kernel_rfl))
 f23:=Tryz.func167.trans (congrArg some (by kernel_rfl))
 f24:=Tryz.func168.trans (congrArg some (by kernel_rfl))
 f25:=Tryz.func187.trans (congrArg some (by kernel_rfl))
 f26:=Tryz.func188.trans (congrArg some (by kernel_rfl))
 f27:=Tryz.func189.trans (congrArg some (by kernel_rfl))
 f28:=Tryz.func204.trans (congrArg some (by kernel_rfl))
 f29:=Tryz.func213.trans (congrArg some (by kernel_rfl))
 f30:=Tryz.func152.trans (congrArg some (by kernel_rfl))
 f31:=Tryz.func153.trans (congrArg some (by kernel_rfl))
 f32:=Tryz.func154.trans (congrArg some (by kernel_rfl))
 f33:=Tryz.func155.trans (congrArg some (by kernel_rfl))
 f34:=Tryz.func180.trans (congrArg some (by kernel_rfl))
 f35:=Tryz.func181.trans (congrArg some (by kernel_rfl))
 f36:=Tryz.func182.trans (congrArg some (by kernel_rfl))
 f37:=Tryz.func183.trans (congrArg some (by kernel_rfl))
 f38:=Tryz.func184.trans (congrArg some (by kernel_rfl))
 f39:=Tryz.func202.trans (congrArg some (by kernel_rfl))
 f40:=Tryz.func203.trans (congrArg some (by kernel_rfl))
 t0:=Tryz.underlying0
 a0:=Tryz.isAgg0
 z0:=Tryz.sizeOf0
 v0:=Tryz.zeroValue0
 i0:=by kernel_rfl
 t2:=Tryz.underlying2
 a2:=Tryz.isAgg2
 z2:=Tryz.sizeOf2
 v2:=Tryz.zeroValue2
 i2:=by kernel_rfl
 t3:=Tryz.underlying3
 a3:=Tryz.isAgg3
 z3:=Tryz.sizeOf3
 v3:=Tryz.zeroValue3
 i3:=by kernel_rfl
 t4:=Tryz.underlying4
 a4:=Tryz.isAgg4
 z4:=Tryz.sizeOf4
 v4:=Tryz.zeroValue4
 i4:=by kernel_rfl
 t5:=Tryz.underlying5
 a5:=Tryz.isAgg5
 z5:=Tryz.sizeOf5
 v5:=Tryz.zeroValue5
 i5:=by kernel_rfl
 t9:=Tryz.underlying9
 a9:=Tryz.isAgg9
 z9:=Tryz.sizeOf9
 v9:=Tryz.zeroValue9
 i9:=by kernel_rfl
 t20:=Tryz.underlying20
 a20:=Tryz.isAgg20
 z20:=Tryz.sizeOf20
 v20:=Tryz.zeroValue20
 i20:=by kernel_rfl
 t21:=Tryz.underlying21
 a21:=Tryz.isAgg21
 z21:=Tryz.sizeOf21
 v21:=Tryz.zeroValue21
 i21:=by kernel_rfl
 t22:=Tryz.underlying137
 a22:=Tryz.isAgg137
 z22:=Tryz.sizeOf137
 v22:=Tryz.zeroValue137
 i22:=by kernel_rfl
 t24:=Tryz.underlying70
 a24:=Tryz.isAgg70
 z24:=Tryz.sizeOf70
 v24:=Tryz.zeroValue70
 i24:=by kernel_rfl
 t25:=Tryz.underlying147
 a25:=Tryz.isAgg147
 z25:=Tryz.sizeOf147
 v25:=Tryz.zeroValue147
 i25:=by kernel_rfl
 t34:=Tryz.underlying211
 a34:=Tryz.isAgg211
 z34:=Tryz.sizeOf211
 v34:=Tryz.zeroValue211
 i34:=by kernel_rfl
 c34:=by kernel_rfl
 t36:=Tryz.underlying173
 a36:=Tryz.isAgg173
 z36:=Tryz.sizeOf173
 v36:=Tryz.zeroValue173
 i36:=by kernel_rfl
 t37:=Tryz.underlying60
 a37:=Tryz.isAgg60
 z37:=Tryz.sizeOf60
 v37:=Tryz.zeroValue60
 i37:=by kernel_rfl
 t39:=Tryz.underlying212
 a39:=Tryz.isAgg212
 z39:=Tryz.sizeOf212
 v39:=Tryz.zeroValue212
 i39:=by kernel_rfl
 t44:=Tryz.underlying231
 a44:=Tryz.isAgg231
 z44:=Tryz.sizeOf231
 v44:=Tryz.zeroValue231
 i44:=by kernel_rfl
 t47:=Tryz.underlying105
 a47:=Tryz.isAgg105
 z47:=Tryz.sizeOf105
 v47:=Tryz.zeroValue105
 i47:=by kernel_rfl
 t48:=Tryz.underlying240
 a48:=Tryz.isAgg240
 z48:=Tryz.sizeOf240
 v48:=Tryz.zeroValue240
 i48:=by kernel_rfl
 t50:=Tryz.underlying242
 a50:=Tryz.isAgg242
 z50:=Tryz.sizeOf242
 v50:=Tryz.zeroValue242
 i50:=by kernel_rfl
 t52:=Tryz.underlying204
 a52:=Tryz.isAgg204
 z52:=Tryz.sizeOf204
 v52:=Tryz.zeroValue204
 i52:=by kernel_rfl
 t55:=Tryz.underlying207
 a55:=Tryz.isAgg207
 z55:=Tryz.sizeOf207
 v55:=Tryz.zeroValue207
 i55:=by kernel_rfl
 t59:=Tryz.underlying225
 a59:=Tryz.isAgg225
 z59:=Tryz.sizeOf225
 v59:=Tryz.zeroValue225
 i59:=by kernel_rfl
 t60:=Tryz.underlying29
 a60:=Tryz.isAgg29
 z60:=Tryz.sizeOf29
 v60:=Tryz.zeroValue29
 i60:=by kernel_rfl
 t61:=Tryz.underlying226
 a61:=Tryz.isAgg226
 z61:=Tryz.sizeOf226
 t65:=Tryz.underlying248
 a65:=Tryz.isAgg248
 z65:=Tryz.sizeOf248
 v65:=Tryz.zeroValue248
 i65:=by kernel_rfl
 t66:=Tryz.underlying249
 a66:=Tryz.isAgg249
 z66:=Tryz.sizeOf249
 v66:=Tryz.zeroValue249
 i66:=by kernel_rfl
 t67:=Tryz.underlying74
 a67:=Tryz.isAgg74
 z67:=Tryz.sizeOf74
 v67:=Tryz.zeroValue74
 i67:=by kernel_rfl
 g0:=by kernel_rfl
 m0:=by kernel_rfl
 g1:=by kernel_rfl
 m1:=by kernel_rfl
 g2:=by kernel_rfl
 m2:=by kernel_rfl
 g3:=by kernel_rfl
 m3:=by kernel_rfl
 g4:=by kernel_rfl
 m4:=by kernel_rfl }
theorem Try.strconv_ParseUint_10_at32_ok(s:ByteArray)(hmax:s.size<=9223372036854775806)(u:Nat)(h:Lib.parseUintB 32 s.data.toList = .ok u)(w:World) :
 Calls Tryz.prog 99 #[.string s,.int .i64 10,.int .i64 32] w fun e w'=>e = .returned (.tuple #[.int .u64 u,.nilIface])/\(w'=w\/w'=Lib.bytesWorld w 5 s):=Any.strconv_ParseUint_10_at32_ok Try.laysPu14 s hmax u h w
theorem Try.strconv_ParseUint_10_at32_syntax(s:ByteArray)(hlim:s.size<=281474976710656)(h:Lib.parseUintB 32 s.data.toList=Lib.parseUintB 32 [])(ev:Value)(w:World)(hv:w.cell? ⟨2,0,none⟩=some ev)(hev:ev = .nilIface\/∃ te pe,ev = .iface te pe) :
 Calls Tryz.prog 99 #[.string s,.int .i64 10,.int .i64 32] w fun e w'=>∃ N,e = .returned (.tuple #[.int .u64 0,.iface 212 (.pointer (some ⟨N,0,none⟩))])/\w.heap.size<=N/\w'.heap[N]? = some (.cells #[.string ⟨#[80,97,114,115,101,85,105,110,116]⟩,.string s,ev] 231 (0,0))/\Below w.heap.size w w':=Any.strconv_ParseUint_10_at32_syntax Try.laysPu14 s hlim h ev w hv hev
theorem Try.strconv_ParseUint_10_at32_range(s:ByteArray)(hlim:s.size<=281474976710656)(h:Lib.parseUintB 32 s.data.toList = .range)(ev:Value)(w:World)(hv:w.cell? ⟨3,0,none⟩=some ev)(hev:ev = .nilIface\/∃ te pe,ev = .iface te pe) :
 Calls Tryz.prog 99 #[.string s,.int .i64 10,.int .i64 32] w fun e w'=>∃ N,e = .returned (.tuple #[.int .u64 4294967295,.iface 212 (.pointer (some ⟨N,0,none⟩))])/\w.heap.size<=N/\w'.heap[N]? = some (.cells #[.string ⟨#[80,97,114,115,101,85,105,110,116]⟩,.string s,ev] 231 (0,0))/\Below w.heap.size w w':=Any.strconv_ParseUint_10_at32_range Try.laysPu14 s hlim h ev w hv hev
theorem Try.strconv_ParseUint_10_at16_ok(s:ByteArray)(hmax:s.size<=9223372036854775806)(u:Nat)(h:Lib.parseUintB 16 s.data.toList = .ok u)(w:World) :
 Calls Tryz.prog 99 #[.string s,.int .i64 10,.int .i64 16] w fun e w'=>e = .returned (.tuple #[.int .u64 u,.nilIface])/\(w'=w\/w'=Lib.bytesWorld w 5 s):=Any.strconv_ParseUint_10_at16_ok Try.laysPu14 s hmax u h w
theorem Try.strconv_ParseUint_10_at16_syntax(s:ByteArray)(hlim:s.size<=281474976710656)(h:Lib.parseUintB 16 s.data.toList=Lib.parseUintB 16 [])(ev:Value)(w:World)(hv:w.cell? ⟨2,0,none⟩=some ev)(hev:ev = .nilIface\/∃ te pe,ev = .iface te pe) :
 Calls Tryz.prog 99 #[.string s,.int .i64 10,.int .i64 16] w fun e w'=>∃ N,e = .returned (.tuple #[.int .u64 0,.iface 212 (.pointer (some ⟨N,0,none⟩))])/\w.heap.size<=N/\w'.heap[N]? = some (.cells #[.string ⟨#[80,97,114,115,101,85,105,110,116]⟩,.string s,ev] 231 (0,0))/\Below w.heap.size w w':=Any.strconv_ParseUint_10_at16_syntax Try.laysPu14 s hlim h ev w hv hev
theorem Try.strconv_ParseUint_10_at16_range(s:ByteArray)(hlim:s.size<=281474976710656)(h:Lib.parseUintB 16 s.data.toList = .range)(ev:Value)(w:World)(hv:w.cell? ⟨3,0,none⟩=some ev)(hev:ev = .nilIface\/∃ te pe,ev = .iface te pe) :
 Calls Tryz.prog 99 #[.string s,.int .i64 10,.int .i64 16] w fun e w'=>∃ N,e = .returned (.tuple #[.int .u64 65535,.iface 212 (.pointer (some ⟨N,0,none⟩))])/\w.heap.size<=N/\w'.heap[N]? = some (.cells #[.string ⟨#[80,97,114,115,101,85,105,110,116]⟩,.string s,ev] 231 (0,0))/\Below w.heap.size w w':=Any.strconv_ParseUint_10_at16_range Try.laysPu14 s hlim h ev w hv hev
end Go.Proofs
namespace Go.Proofs.YtoefgnnkajhmiaaGreatDoor
open Go Go.Eng
theorem xe5{w:World}{M:Nat->Prop}{b:Bool}{n sz:Nat}{f:Nat->List DV}{v:Value}(h:Rd w M (.sl b n sz f) v):(n=0/\v = .slice none 0 0)\/∃ (ad:Addr) (cap:Nat) (u:Nat->Nat->Value),v = .slice (some ad) n cap/\n<=cap /\
 (0<n->ad.block<w.heap.size/\¬ M ad.block)/\(∀ (i j:Nat) (d:DV),i<n->(f i)[j]? = some d->w.cell? (ad.add (i * sz+j))=some (u i j))/\(∀ (i j:Nat) (d:DV),i<n->(f i)[j]? = some d->Rd w M d (u i j)):=by
 cases h with
 |nil=>exact .inl ⟨rfl,rfl⟩
 |sl _ _ _ ad cap u g1 g3 g4 g5 g6=>exact .inr ⟨ad,cap,u,rfl,g1,g3,g5,g6⟩
theorem yv4(b:Bool)(l:List (List UInt8))(sep:List UInt8)(hn:l.length<=140737488355328)(hj:(Lib.join l sep).length<=140737488355328):FnOk Tryz.prog 85 [.d (.sl b l.length 1 (strs l)),.d (.str sep)] (.d (.str (Lib.join l sep))):=by
 refine⟨qd Tryz.func85 (by kernel_rfl) rfl,fun M w vs _ hM hl hd=>?_⟩
 match vs,hl with
 |[v0,v1],_ =>
  have h0:=jb (hd 0 _ v0 rfl rfl);have h1:=yk (hd 1 _ v1 rfl rfl);subst h1;rcases xe5 h0 with⟨hl0,rfl⟩|⟨ad,cap,u,rfl,g1,g3,g5,g6⟩
  ·have:l=[]:=f8 hl0;subst this;refine(Try.strings_Join_none none 0 ⟨sep.toArray⟩ w).mono ?_;rintro e w' ⟨rfl,rfl⟩;exact⟨_,rfl,Step.refl _ _,.d (.str _)⟩
  ·by_cases hz:l=[]
   ·subst hz;refine(Try.strings_Join_none (some ad) cap ⟨sep.toArray⟩ w).mono ?_;rintro e w' ⟨rfl,rfl⟩;exact⟨_,rfl,Step.refl _ _,.d (.str _)⟩
   ·have hpos:0<l.length:=d7.2 hz;obtain⟨hb,_⟩:=g3 hpos;have hu:∀ i,i<l.length->u i 0=strV (l[i]?.getD []):=fun i hi=>by
     have:=g6 i 0 (.str (l[i]?.getD [])) hi rfl;exact yk (β:=noE) (.d this)
    have hc0:=g5 0 0 (.str (l[0]?.getD [])) hpos rfl;have hspot:ad.spot=none:=by
     rw [show ad.add (0 * 1+0)=ad from rfl] at hc0;unfold World.cell? at hc0;split at hc0
     ·cases hs:ad.spot with
      |none=>rfl
      |some _=>simp [hs] at hc0
     ·cases hc0
    obtain⟨bk,o,sp⟩:=ad;simp only at hspot hb;subst hspot;have:=Try.strings_Join bk o cap (l.map fun x=>⟨x.toArray⟩) ⟨sep.toArray⟩ w (fun j x hx=>by
     rw [o4,fw] at hx;obtain⟨y,hy,rfl⟩:=hx;have hj:j<l.length:=(pq.1 hy).1;have h5:=g5 j 0 (.str (l[j]?.getD [])) hj rfl;rw [hu j hj,yc,hy] at h5;simpa[strV] using h5) hb (by simpa using hn) (by simpa using g1) (by
      simp only[dy,Function.comp_def,sw,List.map_id'];exact hj)
    simp only [mn,dy,Function.comp_def,sw,List.map_id'] at this;refine this.mono ?_;rintro e w' ⟨rfl,hw⟩;exact⟨_,rfl,Step.of_below _ hw,.d (.str _)⟩
def vl(t:Int)(s:List UInt8):Option ((Nat × Nat × Nat) × (List UInt8 × List (List UInt8) × List UInt8)) :=
 if s.length<=4096 then (zj t).bind fun p=>(cutF p.1 p.2.1 p.2.2 s).map fun q=>(p,q) else none
def xu8:Option ((Nat × Nat × Nat) × (List UInt8 × List (List UInt8) × List UInt8))->SV
 |none=>.tup [.agg [.any,.any,.any],yu7,.d .ff]
 |some (p,x,l,r)=>.tup [jt8 p,yy2 x l r,.d .tt]
theorem xm9(t:Int)(s:List UInt8):FnOk Tryz.prog 116 [.d (.int .u16 t),.d (.str s)] (xu8 (vl t s)):=by
 refine qu (TT:=TT) (IN:=qe []) qg qh mixed 1000 Tryz.func116 rfl (qd Tryz.func116 (by kernel_rfl) rfl) rfl 32 (by kernel_rfl) ?_;conv=>whnf
 refine .one (.data _ (yk6 t) rfl ?_ ?_)
 ·cases zj t <;> rfl
 cases hf:zj t with
 |none =>
  have e:vl t s=none:=by unfold vl;rw[hf];split <;> rfl
  rw[e];conv=>whnf
  exact rZ1
 |some p =>
  obtain⟨f1,f2,f3⟩:=jm2 hf;conv=>whnf
  refine⟨fun hgt=>?_,fun hle=>?_⟩
  ·have e:vl t s=none:=by unfold vl;rw [if_neg (by simp at hgt;omega)]
   rw[e];conv=>whnf
   exact rZ1
  ·have e:vl t s=(cutF p.1 p.2.1 p.2.2 s).map fun q=>(p,q):=by unfold vl;rw [if_pos (by simp at hle;omega),hf];rfl
   rw[e];conv=>whnf
   refine .one (.data _ (yz3 p.1 p.2.1 p.2.2 f1 f2 f3 s) rfl ?_ ?_)
   ·cases cutF p.1 p.2.1 p.2.2 s <;> rfl
   cases hc:cutF p.1 p.2.1 p.2.2 s with
   |none =>
    conv=>whnf
    (apply Exists.intro;apply Exists.intro;apply And.intro;focus ((conv=>whnf);repeat'(first|exact ⟨⟩|exact rfl|apply And.intro)))
    conv=>whnf
    exact rZ1
   |some q =>
    conv=>whnf
    (apply Exists.intro;apply Exists.intro;apply And.intro;focus ((conv=>whnf);repeat'(first|exact ⟨⟩|exact rfl|apply And.intro)))
    conv=>whnf
    exact rZ1
def qy(t:Int)(s:List UInt8):List UInt8:=match vl t s with
 |none=>s
 |some (_,x,l,r)=>x++fold (Lib.join l [])++r
theorem jo3(l:List (List UInt8)):Lib.join l []=l.flatten:=by
 induction l with
 |nil=>rfl
 |cons a l ih=>cases l with
  |nil=>simp[Lib.join]
  |cons b l=>simp [Lib.join] at ih ⊢;rw [ih]
theorem zp6:∀ (n:Nat) (s:List UInt8) (l:List (List UInt8)) (r:List UInt8),wq n s=some (l,r)->l.length=n/\l.flatten.length+r.length=s.length:=by
 intro n;induction n with
 |zero=>intro s l r h;simp only [wq,my,Prod.mk.injEq] at h;obtain ⟨rfl,rfl⟩:=h;simp
 |succ n ih =>
  intro s l r h;simp only [wq] at h;split at h
  ·cases h
  ·cases hn:wq n (s.drop (zq s)) with
   |none=>rw [hn] at h;cases h
   |some p =>
    rw [hn] at h;simp only [o8,my,Prod.mk.injEq] at h;obtain⟨rfl,rfl⟩:=h;obtain⟨h1,h2⟩:=ih _ p.1 p.2 hn;have:=yk8 s;refine⟨by simp[h1],?_⟩;simp only [List.flatten_cons,py,lu,o7] at h2 ⊢;omega
theorem zx9{t:Int}{s:List UInt8}{p:Nat × Nat × Nat}{x:List UInt8}{l:List (List UInt8)}{r:List UInt8}(h:vl t s=some (p,x,l,r)):s.length<=4096/\l.length<=100/\x.length+l.flatten.length+r.length=s.length:=by
 unfold vl at h;split at h
 ·rename_i hs;cases hf:zj t with
  |none=>rw [hf] at h;cases h
  |some q =>
   rw [hf] at h;simp only [dp] at h;cases hc:cutF q.1 q.2.1 q.2.2 s with
   |none=>rw [hc] at h;cases h
   |some c =>
    rw [hc] at h;simp only [o8,my,Prod.mk.injEq] at h;obtain⟨rfl,rfl⟩:=h;unfold cutF at hc;split at hc
    ·cases hc
    ·cases hn:wq q.2.1 (s.drop (2 * q.1)) with
     |none=>rw [hn] at hc;cases hc
     |some y =>
      rw [hn] at hc;simp only [dp] at hc;split at hc
      ·simp only [my,Prod.mk.injEq] at hc;obtain⟨rfl,rfl,rfl⟩:=hc;obtain⟨h1,h2⟩:=zp6 _ _ y.1 y.2 hn;have:=(jm2 hf).2.1;refine⟨hs,by omega,?_⟩;simp only [lu,o7] at h2 ⊢;omega
      ·cases hc
 ·cases h
theorem qr9(t:Int)(s:List UInt8):FnOk Tryz.prog 80 [.d (.int .u16 t),.d (.str s)] (.d (.str (qy t s))):=by
 refine qu (TT:=TT) (IN:=qe []) qg qh mixed 1000 Tryz.func80 rfl (qd Tryz.func80 (by kernel_rfl) rfl) rfl 26 (by kernel_rfl) ?_;conv=>whnf
 refine .one (.data _ (xm9 t s) rfl ?_ ?_)
 ·cases vl t s <;> rfl
 cases hf:vl t s with
 |none =>
  have e:qy t s=s:=by unfold qy;rw[hf]
  rw[e];conv=>whnf
 |some p =>
  obtain⟨p,x,l,r⟩:=p;obtain⟨h1,h2,h3⟩:=zx9 hf;have e:qy t s=x++fold (Lib.join l [])++r:=by unfold qy;rw[hf]
  rw[e];conv=>whnf
  refine .data _ (yv4 _ l [] (by omega) (by rw[jo3];omega)) rfl rfl ?_;conv=>whnf
  refine .data _ (xc _ (by rw[jo3];omega)) rfl rfl ?_;have hfl:(fold (Lib.join l [])).length=l.flatten.length:=by rw[jo3];simp only[fold,mn]
  conv=>whnf
  refine⟨by omega,?_⟩;conv=>whnf
  refine⟨by simp only[py];omega,?_⟩;conv=>whnf
def k8(t:Int):Bool->List UInt8->List (List UInt8)->Bool
 |_,_,[]=>true
 |b,last,d :: l=>kf t d && !(b && (Op.bytesLess (qy t d) last || qy t d == last)) && k8 t true (qy t d) l
def k7(name:List UInt8)(t ttl:Int)(l:List (List UInt8)):Bool :=
 qb name && decide (ttl<=2147483647) && decide (0<l.length/\l.length<=64) && k8 t false [] l
def setV(name:List UInt8)(t ttl:Int)(b:Bool)(l:List (List UInt8)):SV:=.agg [.d (.str name),.d (.int .u16 t),.d (.int .u32 ttl),.d (.sl b l.length 1 (strs l))]
theorem yh1(name:List UInt8)(t ttl:Int)(b:Bool)(l:List (List UInt8)):FnOk Tryz.prog 76 [setV name t ttl b l] (.d (.int .i64 (jg7 (k7 name t ttl l)))):=by
 refine qu (TT:=TT) (IN:=qe []) qg qh mixed 1000 Tryz.func76 rfl (qd Tryz.func76 (by kernel_rfl) rfl) rfl 51 (by kernel_rfl) ?_;have bad:k7 name t ttl l=false->jg7 (k7 name t ttl l)=2:=fun h=>by rw[h];rfl
 conv=>whnf
 refine oD (yq _) rfl rfl ?_;by_cases hn:qb name
 ·rw[if_pos hn];conv=>whnf
  refine brF (by decide) ?_;conv=>whnf
  refine⟨fun hgt=>?_,fun hle=>?_⟩
  ·rw [bad (by simp only [k7,rz,decide_eq_false_iff_not];simp at hgt;omega)];conv=>whnf
  conv=>whnf
  refine⟨fun h0=>?_,fun h0=>?_⟩
  ·rw [bad (by simp only [k7,rz,decide_eq_false_iff_not];simp at h0;simp [h0])];conv=>whnf
  conv=>whnf
  refine⟨fun h1=>?_,fun h1=>?_⟩
  ·rw [bad (by simp only [k7,rz,decide_eq_false_iff_not];simp at h1;omega)];conv=>whnf
  have hl:0<l.length/\l.length<=64:=by simp at h0 h1;exact ⟨by rw [d7];exact h0,by omega⟩
  have hsc:k7 name t ttl l=k8 t false [] l:=by
   unfold k7;rw[pn hl];have:ttl<=2147483647:=by simpa using hle
   simp[hn,this]
  rw[hsc];conv=>whnf
  refine .inv (Nat × List UInt8) (fun p=>p.1<=l.length/\k8 t (decide (0<p.1)) p.2 (l.drop p.1)=k8 t false [] l) (fun p=>[(3,.d (.str p.2)),(29,.d (.int .i64 p.1))]) (fun p=>[]) (fun p=>l.length - p.1) ⟨(0,[]),[0],⟨by omega,rfl⟩,?_⟩ ?_
  ·conv=>whnf
   exact rZ0
  intro p hp;obtain⟨hp1,hp2⟩:=hp;conv=>whnf
  refine⟨fun hlt=>?_,fun hge=>?_⟩
  ·have hi:p.1<l.length:=by simpa using hlt
   have hd:l.drop p.1=l[p.1] :: l.drop (p.1+1):=l6 hi;rw [hd] at hp2;simp only [k8] at hp2;conv=>whnf
   refine⟨by omega,?_⟩;conv=>whnf
   have hel:l[((p.1:Nat):Int).toNat]?.getD []=l[p.1]:=by simp[hi]
   rw[hel];generalize hdd:l[p.1]=d at hp2 ⊢;refine oD (yi0 t d) rfl rfl ?_;cases hr:kf t d with
   |false =>
    rw [hr,fx,fx] at hp2;rw[show k8 t false [] l=false from hp2.symm];conv=>whnf
    refine brT (by decide) ?_;conv=>whnf
    exact rfl
   |true =>
    rw [hr,l7] at hp2;conv=>whnf
    refine brF (by decide) ?_;conv=>whnf
    refine oD (qr9 t d) rfl rfl ?_;conv=>whnf
    have fin:∀ z:Bool,((decide (0<p.1) && (Op.bytesLess (qy t d) p.2 || qy t d == p.2))=z)->z=false->k8 t true (qy t d) (l.drop (p.1+1))=k8 t false [] l:=fun z h1 h2=>by rw [h2] at h1;rw [h1] at hp2;simpa using hp2
    have hw:IntKind.i64.wrap ((p.1:Int)+1)=((p.1+1:Nat):Int):=by rw[qa _ (by omega)];omega
    refine⟨fun hg=>?_,fun hg=>?_⟩
    ·have hg':0<p.1:=by simp at hg;omega
     conv=>whnf
     refine⟨fun hle=>?_,fun hle=>?_⟩
     ·have:(Op.bytesLess (qy t d) p.2 || qy t d == p.2)=true:=hle;rw [this] at hp2;rw [pn hg'] at hp2;rw[show k8 t false [] l=false from hp2.symm];conv=>whnf
      exact rfl
     ·conv=>whnf
      refine⟨(p.1+1,qy t d),[0],⟨hi,?_⟩,by show l.length - (p.1+1)<l.length - p.1;omega,?_⟩
      ·rw[pn (Nat.succ_pos _)];exact fin _ rfl (by rw[show(Op.bytesLess (qy t d) p.2 || qy t d == p.2)=false from hle,gu])
      conv=>whnf
      repeat'(first|exact ⟨⟩|exact rfl|apply And.intro)
      all_goals exact congrArg SV.d (congrArg (DV.int _) hw)
    ·have hg':p.1=0:=by simp at hg;omega
     conv=>whnf
     refine⟨(p.1+1,qy t d),[0],⟨hi,?_⟩,by show l.length - (p.1+1)<l.length - p.1;omega,?_⟩
     ·rw[pn (Nat.succ_pos _)];exact fin _ rfl (by rw[hg'];rfl)
     conv=>whnf
     repeat'(first|exact ⟨⟩|exact rfl|apply And.intro)
     all_goals exact congrArg SV.d (congrArg (DV.int _) hw)
  ·have hi:p.1=l.length:=by simp at hge;omega
   rw [hi,cy] at hp2;rw[<-hp2];conv=>whnf
   exact congrArg (DV.int _) rfl
 ·rw[if_neg hn];rw[bad (by simp[k7,hn])];conv=>whnf
  refine brT (by decide) ?_;conv=>whnf
def zg(a b:List UInt8):Bool:=decide (qb a) && (decide (qb b) && fold a == fold b)
theorem yq9(s:List UInt8):(fold s).length=s.length:=by simp[fold]
theorem jx0{s:List UInt8}(h:qb s):s.length<9223372036854775808:=by have:=h.2.1;omega
def okL(l:List UInt8):Prop:=1<=l.length/\l.length<=63
def lab(l:List UInt8):List UInt8:=UInt8.ofNat l.length :: l
def mk:List (List UInt8)->List UInt8
 |[]=>[0]
 |l :: ls=>lab l++mk ls
theorem qn3(s:List UInt8)(k j:Nat):bt (s.drop k) j=bt s (k+j):=by simp[bt]
theorem yj0(s:List UInt8)(k:Nat):more s k↔more (s.drop k) 0:=by
 unfold more;rw[qn3,du,o7];omega
theorem qz2:∀ (m:Nat) (s:List UInt8) (k:Nat),kr s m k=k+kr (s.drop k) m 0
 |0,s,k=>rfl
 |m+1,s,k=>by
  simp only[kr];by_cases h:more s k
  ·rw[if_pos h,if_pos ((yj0 s k).1 h),qz2 m s,qz2 m (s.drop k),qn3,f9,show k+0=k from rfl];have e:k+(0+1+bt s k)=k+1+bt s k:=by omega
   rw[e];omega
  ·rw[if_neg h,if_neg (fun e=>h ((yj0 s k).2 e))]
   rfl
theorem qx8{n:Nat}(h:n<256):(UInt8.ofNat n).toNat=n:=by
 rw[UInt8.toNat_ofNat'];exact rq h
theorem qb1(l t:List UInt8)(h:okL l):bt (lab l++t) 0=l.length:=by
 simp only[bt,lab,gw,bu,dz];exact qx8 (by have:=h.2;omega)
theorem kz(l:List UInt8):(lab l).length=1+l.length:=by simp[lab];omega
theorem qv3(ls:List (List UInt8)):0<(mk ls).length:=by cases ls <;> simp[mk,lab]
theorem qt1(l t:List UInt8):(lab l++t).drop (1+l.length)=t:=by
 rw[<-kz l,List.drop_left]
theorem yn0(l t:List UInt8):(lab l++t).take (1+l.length)=lab l:=by
 rw[<-kz l,List.take_left]
theorem yu8:∀ (m:Nat) (s:List UInt8),0<s.length->kr s m 0=s.length - 1->bt s (s.length - 1)=0->∃ ls,(∀ l ∈ ls,okL l)/\s=mk ls
 |m,s,h0,h1,h2=>by
  have leaf:s.length=1->∃ ls,(∀ l ∈ ls,okL l)/\s=mk ls:=fun hl=>by
   match s,hl with
   |[b],_ =>
    refine⟨[],(fun l h=>by cases h),?_⟩;have:b.toNat=0:=by simpa[bt] using h2
    rw[mk,UInt8.toNat_inj.1 (show b.toNat=(0:UInt8).toNat from this)]
  cases m with
  |zero=>exact leaf (by simp [kr] at h1;omega)
  |succ m =>
   simp only [kr] at h1;split at h1
   ·rename_i hm;obtain⟨a1,a2,a3,a4⟩:=hm;rw [qz2] at h1;have hb:1+bt s 0<s.length:=by omega
    obtain⟨ls,i1,i2⟩:=yu8 m (s.drop (0+1+bt s 0)) (by rw[o7];omega) (by rw[o7];omega) (by
     rw[qn3,o7,show 0+1+bt s 0+(s.length - (0+1+bt s 0) - 1)=s.length - 1 by omega];exact h2)
    refine⟨(s.drop 1).take (bt s 0) :: ls,fun l hl=>?_,?_⟩
    ·rcases pv.1 hl with rfl|hl
     ·have:((s.drop 1).take (bt s 0)).length=bt s 0:=by simp;omega
      unfold okL;omega
     ·exact i1 l hl
    ·rw[mk,<-i2];have hlen:((s.drop 1).take (bt s 0)).length=bt s 0:=by simp;omega
     unfold lab;rw[hlen];match s,a1 with
     |b :: r,_ =>
      have e:bt (b :: r) 0=b.toNat:=by simp[bt]
      rw[e];simp[show 0+1+b.toNat=b.toNat+1 by omega]
   ·exact leaf (by omega)
theorem xi6(ls:List (List UInt8))(h:∀ l ∈ ls,okL l):∀ m,(mk ls).length<=m->kr (mk ls) m 0=(mk ls).length - 1:=by
 induction ls with
 |nil =>
  intro m hm;cases m with
  |zero=>rfl
  |succ m =>
   show(if more [0] 0 then kr [0] m (0+1+bt [0] 0) else 0)=0;exact if_neg (by rintro ⟨_,h2,_⟩;exact h2 rfl)
 |cons l ls ih =>
  intro m hm;have hl:=h l (mz ..);have hb:=qb1 l (mk ls) hl;have hlen:(mk (l :: ls)).length=1+l.length+(mk ls).length:=by simp[mk,kz]
  have hp:=qv3 ls;cases m with
  |zero=>omega
  |succ m =>
   simp only[kr];show(if more (mk (l :: ls)) 0 then kr (mk (l :: ls)) m (0+1+bt (mk (l :: ls)) 0) else 0)=_;have hbm:bt (mk (l :: ls)) 0=l.length:=hb;rw[if_pos ⟨by omega,by rw[hbm];have:=hl.1;omega,by rw[hbm];exact hl.2,by rw[hbm];omega⟩,hbm,qz2,ox];have:(mk (l :: ls)).drop (1+l.length)=mk ls:=qt1 l (mk ls);rw[this,ih (fun x hx=>h x (m8 _ hx)) m (by omega)];omega
theorem xn4(ls:List (List UInt8)):bt (mk ls) ((mk ls).length - 1)=0:=by
 induction ls with
 |nil=>rfl
 |cons l ls ih =>
  have hlen:(mk (l :: ls)).length=1+l.length+(mk ls).length:=by simp[mk,kz]
  have hp:=qv3 ls;have e:(mk (l :: ls)).drop (1+l.length)=mk ls:=qt1 l (mk ls);have:=qn3 (mk (l :: ls)) (1+l.length) ((mk ls).length - 1);rw [e,ih] at this;rw[hlen,show 1+l.length+(mk ls).length - 1=1+l.length+((mk ls).length - 1) by omega];exact this.symm
theorem jk0(s:List UInt8):qb s↔s.length<=255/\∃ ls,(∀ l ∈ ls,okL l)/\s=mk ls:=by
 constructor
 ·rintro ⟨h1,h2,h3,h4⟩
  exact⟨h2,yu8 s.length s h1 h3 (by rw[<-h3];exact h4)⟩
 ·rintro ⟨h1,ls,h2,rfl⟩
  have:=xi6 ls h2 (mk ls).length (pr _);exact⟨qv3 ls,h1,this,by unfold qv4;rw[this];exact xn4 ls⟩
theorem js2:∀ {a b:List (List UInt8)},(∀ l ∈ a,okL l)->(∀ l ∈ b,okL l)->mk a=mk b->a=b
 |[],[],_,_,_=>rfl
 |[],l :: b,_,hb,h=>by
  have h1:=hb l (mz ..);have:=qb1 l (mk b) h1;rw [show lab l++mk b=mk (l :: b) from rfl,<-h] at this;have h2:=h1.1;have:(0:Nat)=l.length:=this;omega
 |l :: a,[],ha,_,h=>by
  have h1:=ha l (mz ..);have:=qb1 l (mk a) h1;rw [show lab l++mk a=mk (l :: a) from rfl,h] at this;have h2:=h1.1;have:(0:Nat)=l.length:=this;omega
 |l :: a,k :: b,ha,hb,h=>by
  have h1:=qb1 l (mk a) (ha l (mz ..));have h2:=qb1 k (mk b) (hb k (mz ..));have hlen:l.length=k.length:=by
   rw[<-h1,<-h2];show bt (mk (l :: a)) 0=bt (mk (k :: b)) 0;rw[h]
  have e1:lab l=lab k:=by
   have:=congrArg (List.take (1+l.length)) h;rw [show mk (l :: a)=lab l++mk a from rfl,yn0,hlen,show mk (k :: b)=lab k++mk b from rfl,yn0] at this;exact this
  have e2:mk a=mk b:=by
   have:=congrArg (List.drop (1+l.length)) h;rw [show mk (l :: a)=lab l++mk a from rfl,qt1,hlen,show mk (k :: b)=lab k++mk b from rfl,qt1] at this;exact this
  have e3:l=k:=(m5 e1).2;rw[e3,js2 (fun x hx=>ha x (m8 _ hx)) (fun x hx=>hb x (m8 _ hx)) e2]
def labs:List (List UInt8)->List UInt8
 |[]=>[]
 |l :: ls=>lab l++labs ls
theorem jj3(a b:List (List UInt8)):labs (a++b)=labs a++labs b:=by
 induction a with
 |nil=>rfl
 |cons l a ih=>simp[labs,ih]
theorem qu3(a:List (List UInt8)):labs a++[0]=mk a:=by
 induction a with
 |nil=>rfl
 |cons l a ih=>simp[labs,mk,<-ih]
theorem jm0(ls:List (List UInt8))(l:List UInt8):labs (ls++[l])=labs ls++lab l:=by
 rw[jj3];simp[labs]
theorem jj2:∀ (l:List (List UInt8)),l.length<=(labs l).length
 |[]=>pr _
 |x :: l=>by
  show l.length+1<=(lab x++labs l).length;rw[py,kz];have:=jj2 l;omega
def qn6:Nat->List UInt8->Option (List (List UInt8))
 |0,_=>none
 |m+1,r=>if r.length=0 then none else if bt r 0=0 then (if r.length=1 then some [] else none) else
  if bt r 0 > 63\/1+bt r 0 > r.length then none else (qn6 m (r.drop (1+bt r 0))).map (fun ls=>(r.drop 1).take (bt r 0) :: ls)
def qd7(s:List UInt8):Option (List (List UInt8)):=if s.length > 255 then none else qn6 (s.length+1) s
theorem ji2(l:List UInt8)(ls:List (List UInt8)):(mk (l :: ls)).length=1+l.length+(mk ls).length:=by simp[mk,kz]
theorem yg4:∀ (m:Nat) (r:List UInt8) (ls:List (List UInt8)),qn6 m r=some ls->(∀ l ∈ ls,okL l)/\r=mk ls
 |0,_,_,h=>by cases h
 |m+1,r,ls,h=>by
  unfold qn6 at h;split at h
  ·cases h
  ·rename_i h0;split at h
   ·rename_i h1;split at h
    ·rename_i h2;cases h;refine⟨fun l hl=>(by cases hl),?_⟩
     match r,h2 with
     |[b],_ =>
      have:b.toNat=0:=by simpa[bt] using h1
      rw[mk,UInt8.toNat_inj.1 (show b.toNat=(0:UInt8).toNat from this)]
    ·cases h
   ·rename_i h1;split at h
    ·cases h
    ·rename_i h2;obtain⟨ks,hk,rfl⟩:=fw.1 h;obtain⟨a1,a2⟩:=yg4 m _ ks hk;have hlen:((r.drop 1).take (bt r 0)).length=bt r 0:=by simp;omega
     refine⟨fun l hl=>?_,?_⟩
     ·rcases pv.1 hl with rfl|hl
      ·unfold okL;omega
      ·exact a1 l hl
     ·rw[mk,<-a2];unfold lab;rw[hlen];match r,h0 with
      |b :: r,_ =>
       have e:bt (b :: r) 0=b.toNat:=by simp[bt]
       rw[e];simp[show 1+b.toNat=b.toNat+1 by omega]
theorem yg3:∀ (ls:List (List UInt8)) (m:Nat),(∀ l ∈ ls,okL l)->(mk ls).length<=m->qn6 m (mk ls)=some ls
 |[],m,_,hm=>by
  cases m with
  |zero =>
   have:(mk []).length=1:=rfl;omega
  |succ m=>rfl
 |l :: ls,m,h,hm=>by
  have hl:=h l (mz ..);have hlen:=ji2 l ls;have hp:=qv3 ls;cases m with
  |zero=>omega
  |succ m =>
   have hb:bt (mk (l :: ls)) 0=l.length:=qb1 l (mk ls) hl;have h1:=hl.1;have h2:=hl.2;unfold qn6;rw[if_neg (by omega),hb,if_neg (by omega),if_neg (by omega)];have hd:(mk (l :: ls)).drop (1+l.length)=mk ls:=qt1 l (mk ls);rw[hd,yg3 ls m (fun x hx=>h x (m8 _ hx)) (by omega)];show some ((((mk (l :: ls)).drop 1).take l.length) :: ls)=_;have:((mk (l :: ls)).drop 1)=l++mk ls:=rfl;rw[this,List.take_left]
theorem jz6{s:List UInt8}{ls:List (List UInt8)}(h:qd7 s=some ls):s.length<=255/\(∀ l ∈ ls,okL l)/\s=mk ls:=by
 unfold qd7 at h;split at h
 ·cases h
 ·exact⟨by omega,yg4 _ _ _ h⟩
theorem zk3{ls:List (List UInt8)}(h:∀ l ∈ ls,okL l)(hl:(mk ls).length<=255):qd7 (mk ls)=some ls:=by
 unfold qd7;rw[if_neg (by omega)];exact yg3 ls _ h (by omega)
theorem jw1(s:List UInt8):qb s↔(qd7 s).isSome=true:=by
 rw[jk0];constructor
 ·rintro ⟨h1,ls,h2,rfl⟩
  rw[zk3 h2 h1];rfl
 ·intro h;obtain⟨ls,hls⟩:=s9.1 h;obtain⟨h1,h2,h3⟩:=jz6 hls;exact⟨h1,ls,h2,h3⟩
def labN(n:List UInt8):List (List UInt8):=(qd7 n).getD []
def fl(n:List UInt8):List (List UInt8):=(labN n).map fold
theorem z7{n:List UInt8}(h:qb n):n.length<=255/\(∀ l ∈ labN n,okL l)/\n=mk (labN n):=by
 obtain⟨ls,e⟩:=s9.1 ((jw1 n).1 h);have:=jz6 e;unfold labN;rw[e];exact this
theorem qy1(s:List UInt8):(fold s).length=s.length:=by simp[fold]
theorem xf6{l:List UInt8}(h:okL l):okL (fold l):=by unfold okL at *;rw [qy1];exact h
theorem zx8{k:Nat}(h:k<=63):low (UInt8.ofNat k)=UInt8.ofNat k:=by
 apply UInt8.toNat_inj.1;rw[qu1,qx8 (by omega)];rw[if_neg (by omega)]
theorem xi0{l:List UInt8}(h:okL l):fold (lab l)=lab (fold l):=by
 unfold lab;rw[qy1];show low (UInt8.ofNat l.length) :: fold l=_;rw[zx8 h.2]
theorem zk9(a b:List UInt8):fold (a++b)=fold a++fold b:=by unfold fold;rw[dw]
theorem jq8:∀ {ls:List (List UInt8)},(∀ l ∈ ls,okL l)->fold (mk ls)=mk (ls.map fold)
 |[],_=>rfl
 |l :: ls,h=>by
  show fold (lab l++mk ls)=lab (fold l)++mk (ls.map fold);rw[zk9,xi0 (h l (by simp)),jq8 (fun x hx=>h x (by simp[hx]))]
theorem qw5{n:List UInt8}(h:qb n):∀ l ∈ fl n,okL l:=fun l hl=>by
 obtain⟨x,hx,rfl⟩:=lz.1 hl;exact xf6 ((z7 h).2.1 x hx)
theorem qa6{n:List UInt8}(h:qb n):fold n=mk (fl n):=by
 obtain⟨_,h2,h3⟩:=z7 h;conv=>lhs;rw[h3]
 exact jq8 h2
def qj(ls:List (List UInt8))(i:Nat):Nat:=(labs (ls.take i)).length
theorem qq9{ls:List (List UInt8)}{i:Nat}{l:List UInt8}(h:ls[i]? = some l):qj ls (i+1)=qj ls i+1+l.length:=by
 unfold qj;rw[mp,h];show(labs (ls.take i++[l])).length=_;rw[jj3,py];show _+(lab l++[]).length=_;rw[m6,kz];omega
theorem jd6:∀ (a b:List (List UInt8)),mk (a++b)=labs a++mk b
 |[],_=>rfl
 |l :: a,b=>by
  show lab l++mk (a++b)=(lab l++labs a)++mk b;rw[jd6 a b,m9]
theorem jc0(ls:List (List UInt8))(i:Nat):(mk ls).drop (qj ls i)=mk (ls.drop i):=by
 have e:mk ls=labs (ls.take i)++mk (ls.drop i):=by rw[<-jd6,cz]
 unfold qj;conv=>lhs;rw[e]
 rw[List.drop_left]
theorem je6(ls:List (List UInt8))(i:Nat):qj ls i<(mk ls).length:=by
 have e:mk ls=labs (ls.take i)++mk (ls.drop i):=by rw[<-jd6,cz]
 rw[e,py];have:=qv3 (ls.drop i);unfold qj;omega
theorem yu4(ls:List (List UInt8))(i:Nat):qj ls i+(mk (ls.drop i)).length=(mk ls).length:=by
 have e:mk ls=labs (ls.take i)++mk (ls.drop i):=by rw[<-jd6,cz]
 conv=>rhs;rw[e]
 rw[py];rfl
theorem jf3{ls:List (List UInt8)}(h:∀ l ∈ ls,okL l){i:Nat}{l:List UInt8}(hi:ls[i]? = some l):bt (mk ls) (qj ls i)=l.length:=by
 have hd:=jc0 ls i;have hlt:=(pq.1 hi).1;have e:ls.drop i=l :: ls.drop (i+1):=by
  rw[l6 hlt,(pq.1 hi).2]
 have:=qn3 (mk ls) (qj ls i) 0;rw [du] at this;rw[<-this,hd,e];exact qb1 l (mk (ls.drop (i+1))) (h l (ov hi))
theorem jf4(ls:List (List UInt8)):bt (mk ls) (qj ls ls.length)=0:=by
 have hd:=jc0 ls ls.length;have:=qn3 (mk ls) (qj ls ls.length) 0;rw [du] at this;rw[<-this,hd,cy];rfl
theorem jq3(ls:List (List UInt8)):qj ls ls.length+1=(mk ls).length:=by
 have:=yu4 ls ls.length;rw [cy] at this;exact this
theorem jn5{ls:List (List UInt8)}{i j:Nat}(h:i<j)(hj:j<=ls.length):qj ls i<qj ls j:=by
 induction j with
 |zero=>omega
 |succ j ih =>
  have hs:ls[j]? = some ls[j]:=pp (by omega);have:=qq9 hs;rcases oo i j with hl|hl
  ·have:=ih hl (by omega);omega
  ·have:i=j:=by omega
   subst this;omega
def qt(n z:List UInt8):Bool:=decide (qb n) && (decide (qb z) && (fl z).isSuffixOf (fl n))
theorem withinN_iff{n z:List UInt8}:qt n z=true↔qb n/\qb z/\∃ j,j<=(labN n).length/\(fl n).drop j=fl z:=by
 unfold qt;simp only[p8,lx,r7];refine and_congr_right fun h1=>and_congr_right fun h2=>?_
 constructor
 ·intro h;have hl:=h.length_le;refine⟨(fl n).length - (fl z).length,by unfold fl;simp,?_⟩;exact(List.suffix_iff_eq_drop.1 h).symm
 ·rintro ⟨j,_,e⟩
  rw[<-e];exact List.drop_suffix j (fl n)
theorem yf4{n z:List UInt8}(hn:qb n)(hz:qb z){j:Nat}(hp:qj (labN n) j+z.length=n.length):(fold (n.drop (qj (labN n) j))=fold z)↔(fl n).drop j=fl z:=by
 obtain⟨_,h2,h3⟩:=z7 hn;have hd:n.drop (qj (labN n) j)=mk ((labN n).drop j):=by
  have:=jc0 (labN n) j;rw [<-h3] at this;exact this
 have h4:∀ l ∈ (labN n).drop j,okL l:=fun l hl=>h2 l (ar hl)
 rw[hd,jq8 h4,qa6 hz];have e:((labN n).drop j).map fold=(fl n).drop j:=by unfold fl;rw[List.map_drop]
 rw[e];refine⟨fun h=>js2 (fun l hl=>qw5 hn l (ar hl)) (qw5 hz) h,fun h=>by rw[h]⟩
theorem jj1:∀ {ls:List (List UInt8)},(mk (ls.map fold)).length=(mk ls).length
 |[]=>rfl
 |l :: ls=>by
  show(lab (fold l)++mk (ls.map fold)).length=(lab l++mk ls).length;rw[py,py,kz,kz,qy1,jj1]
theorem yb4{n z:List UInt8}(hn:qb n)(hz:qb z){j:Nat}(h:(fl n).drop j=fl z):qj (labN n) j+z.length=n.length:=by
 obtain⟨_,_,h3⟩:=z7 hn;obtain⟨_,_,h4⟩:=z7 hz;have e:(mk ((labN n).drop j)).length=z.length:=by
  have:mk (((labN n).drop j).map fold)=mk ((labN z).map fold):=by
   rw[List.map_drop];exact congrArg mk h
  have:=congrArg List.length this;rw [jj1,jj1,<-h4] at this;exact this
 rw[<-e];conv=>rhs;rw[h3]
 exact yu4 (labN n) j
theorem yp9{ls:List (List UInt8)}{i:Nat}{l:List UInt8}(hi:ls[i]? = some l):((mk ls).drop (qj ls i+1)).take l.length=l:=by
 have hd:=jc0 ls i;have hlt:=(pq.1 hi).1;have e:ls.drop i=l :: ls.drop (i+1):=by
  rw[l6 hlt,(pq.1 hi).2]
 rw[<-f9,hd,e];show((UInt8.ofNat l.length :: l++mk (ls.drop (i+1))).drop 1).take l.length=l;simp
theorem qy0{n:List UInt8}(h:qb n):qb (fold n):=by
 rw[qa6 h];refine(jk0 _).2 ⟨?_,fl n,qw5 h,rfl⟩;rw[<-qa6 h,qy1];exact(z7 h).1
theorem ja0{n:List UInt8}(h:qb n):labN (fold n)=fl n:=by
 obtain⟨_,h2,h3⟩:=z7 (qy0 h);have h3:=(qa6 h).symm.trans h3;exact(js2 (qw5 h) h2 h3).symm
def AnL:List SV->List SV->Prop
 |[],[]=>True
 |a :: l,b :: m=>(b = .any\/a=b)/\AnL l m
 |_,_=>False
theorem AnL.len:∀ {l m:List SV},AnL l m->l.length=m.length
 |[],[],_=>rfl
 |_ :: _,_ :: _,h=>congrArg (· + 1) (AnL.len h.2)
theorem AnL.at:∀ {l m:List SV},AnL l m->∀ (j:Nat) (s t:SV),l[j]? = some s->m[j]? = some t->t = .any\/s=t
 |[],[],_,_,_,_,ht,_=>by simp at ht
 |_ :: _,_ :: _,h,0,s,t,hs,ht=>by simp at hs ht;subst hs ht;exact h.1
 |_ :: l,_ :: m,h,j+1,s,t,hs,ht=>AnL.at (l:=l) (m:=m) h.2 j s t (by simpa using hs) (by simpa using ht)
theorem COk.anyA{P:Program}{f:FuncId}{args args':List SV}{ks:List KB}{R:SV->List KB->Prop}(h:COk P f args ks R)(hc:AnL args' args):COk P f args' ks R :=
 ⟨h.1,fun X w β fp vs hM hl hd=>h.2 X w β fp vs hM (by rw[<-hc.len,hl]) (fun j s u hs hu=>by
  have hj:j<args'.length:=by rw[hc.len];exact(pq.1 hs).1
  have hb:=hd j _ u (pp hj) hu;rcases hc.at j _ s (pp hj) hs with e|e
  ·subst e;exact .any u
  ·rw[<-e];exact hb)⟩
theorem jd{n:Nat}(z:Z):SubZ n z z:=by cases z <;> exact True.intro
def iV(x:Nat):SV:=.d (.int .i64 (x:Int))
instance (s:List UInt8):Decidable (qb s):=by unfold qb;infer_instance
theorem qi1(s:List UInt8)(a:Nat):sub s (a:Int) (s.length:Int)=s.drop a:=by
 unfold sub;rw[px,px,dn (by simp)]
def qo(n:List UInt8):Nat:=if qb n then (labN n).length else 0
theorem rZ2{p:Prop}(h:p:=by repeat'(first|exact ⟨⟩|exact rfl|exact jd _|exact .inr rfl|exact fun _ _=>rfl|exact noI|apply And.intro)):p:=h
theorem jp0(n:List UInt8):FnOk Tryz.prog 41 [.d (.str n)] (.d (.int .i64 (qo n:Nat))):=by
 refine qu (TT:=TT) (IN:=qe [(70,Tryz.f70,1),(106,Tryz.f106,2),(107,Tryz.f107,1),(139,Tryz.f139,2)]) qg (jh (jh (jh (jh qh Tryz.func139 (by kernel_rfl) (by kernel_rfl)) Tryz.func107 (by kernel_rfl) (by kernel_rfl)) Tryz.func106 (by kernel_rfl) (by kernel_rfl)) Tryz.func70 (by kernel_rfl) (by kernel_rfl)) mixed 1000 Tryz.func41 rfl (qd Tryz.func41 (by kernel_rfl) rfl) rfl 9 (by kernel_rfl) ?_;conv=>whnf
 refine oD (yq n) rfl rfl ?_;by_cases hn:qb n;case neg =>
  rw[if_neg hn,show qo n=0 from if_neg hn];conv=>whnf
  refine brT rfl ?_;conv=>whnf
  try exact rfl
 rw[if_pos hn,show qo n=(labN n).length from if_pos hn];conv=>whnf
 refine brF rfl ?_;conv=>whnf
 obtain⟨hn1,hn2,hn3⟩:=z7 hn;have hend:∀ i,qj (labN n) i<n.length:=fun i=>by have:=je6 (labN n) i;rw [<-hn3] at this;exact this
 have hbt:∀ i l,(labN n)[i]? = some l->bt n (qj (labN n) i)=l.length:=fun i l h=>by
  have:=jf3 hn2 h;rw [<-hn3] at this;exact this
 have hbe:bt n (qj (labN n) (labN n).length)=0:=by
  have:=jf4 (labN n);rw [<-hn3] at this;exact this
 have hll:=jq3 (labN n);rw [<-hn3] at hll;generalize labN n=ls at hn2 hn3 hend hbt hbe hll;have hcnt:∀ i,i<=ls.length->i<=qj ls i:=fun i=>by
  induction i with
  |zero=>intro _;exact pz _
  |succ i ih =>
   intro h;have:=ih (by omega);have:=jn5 (ls:=ls) (i:=i) (j:=i+1) (by omega) h;omega
 have hlc:=hcnt ls.length (pr _);refine .inv Nat (fun i=>i<=ls.length) (fun i=>[(3,iV (qj ls i))]) (fun i=>[(0,.cells 3 [iV i]),(4,.cells 3 [iV (qj ls i)])]) (fun i=>ls.length - i) ⟨0,[0,1,2,3,4,5,6],pz _,?_⟩ ?_
 ·conv=>whnf
  exact rZ2
 intro i hi;have hp:=hend i;conv=>whnf
 refine brT (pn (by omega)) ?_;conv=>whnf
 refine⟨by omega,?_⟩;conv=>whnf
 rw[yo,qa (bt n (qj ls i):Int) (by have:=qc2 n (qj ls i);omega)];rcases oo i ls.length with hlt|hge
 ·have hli:ls[i]? = some ls[i]:=pp hlt;have hb:=hbt i _ hli;have hok:=hn2 _ (d5 hlt);have hps:=qq9 hli;have hp2:=hend (i+1);rw[hb];generalize ls[i]=l at hli hb hok hps;obtain⟨ho1,ho2⟩:=hok;refine brF (by rw[mq];omega) ?_;conv=>whnf
  refine brF (po (by omega)) ?_;conv=>whnf
  have e1:IntKind.i64.wrap ((n.length:Int) - (qj ls i:Int))=((n.length - qj ls i:Nat):Int):=by rw[qa _ (by omega)];omega
  rw[e1];refine brF (po (by omega)) ?_;conv=>whnf
  have e2:IntKind.i64.wrap ((qj ls i:Int)+IntKind.i64.wrap (1+(l.length:Int)))=((qj ls (i+1):Nat):Int):=by rw[qa (1+(l.length:Int)) (by omega),qa _ (by omega)];omega
  rw[e2];have e3:IntKind.i64.wrap ((qj ls i:Int)+1)=((qj ls i+1:Nat):Int):=by rw[qa _ (by omega)];omega
  have e4:=w64s i (by omega);rw[e3];refine⟨by omega,?_⟩;conv=>whnf
  rw[e4];refine⟨i+1,[0,1,2,3,4,5,6],hlt,by omega,?_⟩;conv=>whnf
  exact rZ2
 ·have hil:i=ls.length:=by omega
  subst hil;rw[hbe];conv=>whnf
  refine brT rfl ?_;conv=>whnf
  try exact rfl
structure Zo where
 apex:List UInt8
 z:Bool
 rrs:List RR
instance:Inhabited Zo:=⟨⟨[],true,[]⟩⟩
def zb(apex:List UInt8)(r:RR):Bool:=r.cl == 1 && (r.ty != 41 && (r.ttl != 0 && (r.check && qt r.nm apex)))
def keyZ(r:RR):List UInt8 × Int × Int × List UInt8:=(fold r.nm,r.ty,r.cl,qy r.ty r.d)
def cntZ(p:RR->Bool)(l:List RR)(n:List UInt8):Nat:=(l.filter fun r=>fold r.nm == n && p r).length
def zv(r:RR):Bool:=r.ty == 6
def isNs(r:RR):Bool:=r.ty == 2
def vu(r:RR):Bool:=r.ty == 5
def j4(r:RR):Bool:=r.ty == 1 || r.ty == 28
def anyR(_:RR):Bool:=true
def upsF:Nat->List UInt8->List (List UInt8)
 |0,_=>[]
 |k+1,n=>n :: (if n=[0] then [] else upsF k (n.drop (1+bt n 0)))
def upsN(n:List UInt8):List (List UInt8):=if qb n then upsF n.length n else []
def xe(l:List RR)(name top:List UInt8):List (List UInt8)->Bool
 |[]=>true
 |u :: r=>if u=top then true else if u≠name/\0<cntZ isNs l u then cntZ anyR l name == cntZ j4 l name else xe l name top r
def qz(l:List RR)(top name:List UInt8):Bool :=
 if 0<cntZ vu l name/\1<cntZ anyR l name then false else if name=top then true
 else if 0<cntZ zv l name\/(0<cntZ isNs l name/\cntZ isNs l name+cntZ j4 l name<cntZ anyR l name) then false
 else xe l name top (upsN name)
def wp(z:Zo):Bool:=cntZ zv z.rrs (fold z.apex) == 1 && (cntZ isNs z.rrs (fold z.apex) != 0 && z.rrs.all fun r=>qz z.rrs (fold z.apex) (fold r.nm))
def qb5:List RR->Bool
 |[]=>true
 |r :: l=>(l.all fun x=>keyZ x != keyZ r) && qb5 l
def Zo.ok(z:Zo):Bool:=decide (qb z.apex) && (decide (z.rrs.length<=256) && (z.rrs.all (zb z.apex) && (qb5 z.rrs && wp z)))
def Zo.cutL(z:Zo):List (List UInt8):=(z.rrs.filter fun r=>isNs r && !zg r.nm z.apex).map (·.nm)
section
section
variable{K V:Type}[DecidableEq K]
def aget:List (K × V)->K->Option V
 |[],_=>none
 |e :: l,k=>if k=e.1 then some e.2 else aget l k
def aput:List (K × V)->K->V->List (K × V)
 |[],k,v=>[(k,v)]
 |e :: l,k,v=>if k=e.1 then (k,v) :: l else e :: aput l k v
theorem jc7(l:List (K × V))(k:K)(v:V)(k':K):aget (aput l k v) k'=if k'=k then some v else aget l k':=by
 induction l with
 |nil=>simp[aput,aget]
 |cons e l ih =>
  simp only[aput];split
  ·rename_i h;subst h;simp only[aget];split <;> simp_all
  ·rename_i h;simp only[aget,ih];split
   ·rename_i h1;rw[if_neg (fun e1:k'=k=>h (e1.symm.trans h1))]
   ·rfl
def aenc(ek:K->List DV)(ev:V->List SV)(l:List (K × V)):List (List DV × List SV):=l.map fun e=>(ek e.1,ev e.2)
theorem zy{ek:K->List DV}{ev:V->List SV}(hk:∀ a b,jg (ek a) (ek b)=decide (a=b))(l:List (K × V))(k:K):y6 (aenc ek ev l) (ek k)=(aget l k).map ev:=by
 induction l with
 |nil=>rfl
 |cons e l ih =>
  show(if jg (ek k) (ek e.1) then some (ev e.2) else y6 (aenc ek ev l) (ek k))=_;rw[hk,ih,aget];by_cases h:k=e.1
  ·simp[h]
  ·simp[h]
theorem qe3{ek:K->List DV}{ev:V->List SV}(hk:∀ a b,jg (ek a) (ek b)=decide (a=b))(l:List (K × V))(k:K)(v:V):putM (aenc ek ev l) (ek k) (ev v)=aenc ek ev (aput l k v):=by
 induction l with
 |nil=>rfl
 |cons e l ih =>
  show(if jg (ek k) (ek e.1) then _ else (ek e.1,ev e.2) :: putM (aenc ek ev l) (ek k) (ev v))=_;rw[hk,ih,aput];by_cases h:k=e.1
  ·simp[h,aenc]
  ·simp[h,aenc]
end
def strK(s:List UInt8):List DV:=[.str s]
theorem y8(a b:List UInt8):jg (strK a) (strK b)=decide (a=b):=by
 rw[ly];simp[strK,jg,dEq]
def xg(k:List UInt8 × Int × Int × List UInt8):List DV:=[.str k.1,.int .u16 k.2.1,.int .u16 k.2.2.1,.str k.2.2.2]
theorem yn5(a b:List UInt8 × Int × Int × List UInt8):jg (xg a) (xg b)=decide (a=b):=by
 rw[ly];obtain⟨a1,a2,a3,a4⟩:=a;obtain⟨b1,b2,b3,b4⟩:=b;simp[xg,jg,dEq,kEq]
structure Hd where
 all:Nat
 soa:Nat
 ns:Nat
 alias:Nat
 addr:Nat
deriving DecidableEq
def Hd.no:Hd:=⟨0,0,0,0,0⟩
def Hd.enc(h:Hd):List SV:=[.d (.int .i64 (h.all:Nat)),.d (.int .i64 (h.soa:Nat)),.d (.int .i64 (h.ns:Nat)),.d (.int .i64 (h.alias:Nat)),.d (.int .i64 (h.addr:Nat))]
def Hd.add(h:Hd)(r:RR):Hd:=⟨h.all+1,if r.ty=6 then h.soa+1 else h.soa,if r.ty=2 then h.ns+1 else h.ns,if r.ty=5 then h.alias+1 else h.alias,if r.ty=1\/r.ty=28 then h.addr+1 else h.addr⟩
def j5(l:List RR)(n:List UInt8):Hd:=⟨cntZ anyR l n,cntZ zv l n,cntZ isNs l n,cntZ vu l n,cntZ j4 l n⟩
def qc:List RR->List (List UInt8 × Hd)
 |l=>l.foldl (fun m r=>aput m (fold r.nm) (((aget m (fold r.nm)).getD Hd.no).add r)) []
theorem xj1(p:RR->Bool)(l:List RR)(r:RR)(n:List UInt8):cntZ p (l++[r]) n=cntZ p l n+(if fold r.nm=n/\p r=true then 1 else 0):=by
 unfold cntZ;rw[d8,py];congr 1;by_cases h:fold r.nm=n <;> cases hp:p r <;> simp[h,hp]
theorem uj(l:List RR)(r:RR):qc (l++[r])=aput (qc l) (fold r.nm) (((aget (qc l) (fold r.nm)).getD Hd.no).add r):=by
 unfold qc;rw[List.foldl_append];rfl
theorem zq3(l:List RR)(r:RR)(n:List UInt8):j5 (l++[r]) n=if n=fold r.nm then (j5 l n).add r else j5 l n:=by
 unfold j5 Hd.add;simp only[xj1];by_cases h:n=fold r.nm
 ·rw[if_pos h];have h':fold r.nm=n:=h.symm;simp only[h',true_and,anyR,zv,isNs,vu,j4,if_true,mw,cq];congr 1 <;> (split <;> rfl)
 ·rw[if_neg h];have h':¬ fold r.nm=n:=fun e=>h e.symm
  simp[h']
theorem qi5{α:Type}{P:List α->Prop}(h0:P [])(h1:∀ l a,P l->P (l++[a])):∀ l,P l:=fun l=>by
 rw[<-l.reverse_reverse];induction l.reverse with
 |nil=>exact h0
 |cons a m ih=>rw[List.reverse_cons];exact h1 _ _ ih
theorem qh9(l:List RR)(n:List UInt8):(aget (qc l) n).getD Hd.no=j5 l n:=by
 refine qi5 (P:=fun l=>(aget (qc l) n).getD Hd.no=j5 l n) rfl (fun l r ih=>?_) l
 ·rw[uj,jc7,zq3];by_cases h:n=fold r.nm
  ·rw[if_pos h,if_pos h,<-h,ih];rfl
  ·rw[if_neg h,if_neg h,ih]
theorem xk2{K V:Type}[DecidableEq K]{l:List (K × V)}{k:K}{v:V}(h:aget l k=some v):(k,v) ∈ l:=by
 induction l with
 |nil=>cases h
 |cons e l ih =>
  simp only [aget] at h;split at h
  ·rename_i e1;simp only [my] at h;subst e1 h;exact mz ..
  ·exact m8 _ (ih h)
def Keys{K V:Type}(l:List (K × V)):Prop:=l.Pairwise fun e e'=>e.1≠e'.1
theorem yp3{K V:Type}[DecidableEq K]{l:List (K × V)}(hk:Keys l){e:K × V}(h:e ∈ l):aget l e.1=some e.2:=by
 induction l with
 |nil=>cases h
 |cons x l ih =>
  obtain⟨h1,h2⟩:=fy.1 hk;simp only[aget];rcases pv.1 h with rfl|h
  ·rw[if_pos rfl]
  ·rw[if_neg (fun e1=>h1 e h e1.symm),ih h2 h]
theorem ys5{K V:Type}[DecidableEq K]{l:List (K × V)}{k:K}{v:V}{e:K × V}(h:e ∈ aput l k v):e=(k,v)\/e ∈ l:=by
 induction l with
 |nil=>exact .inl (by simpa[aput] using h)
 |cons x l ih =>
  simp only [aput] at h;split at h
  ·rcases pv.1 h with rfl|h
   ·exact .inl rfl
   ·exact .inr (m8 _ h)
  ·rcases pv.1 h with rfl|h
   ·exact .inr (mz ..)
   ·exact(ih h).imp id (m8 _)
theorem xb1{K V:Type}[DecidableEq K]{l:List (K × V)}(hk:Keys l)(k:K)(v:V):Keys (aput l k v):=by
 induction l with
 |nil=>exact List.pairwise_singleton _ _
 |cons x l ih =>
  obtain⟨h1,h2⟩:=fy.1 hk;simp only[aput];split
  ·rename_i e;subst e;exact fy.2 ⟨h1,h2⟩
  ·rename_i e;refine fy.2 ⟨fun y hy=>?_,ih h2⟩;rcases ys5 hy with rfl|hy
   ·exact fun e1=>e e1.symm
   ·exact h1 y hy
theorem jz3(l:List RR):Keys (qc l):=by
 refine qi5 (P:=fun l=>Keys (qc l)) List.Pairwise.nil (fun l r ih=>?_) l;rw[uj];exact xb1 ih _ _
theorem zp4{l:List RR}{e:List UInt8 × Hd}(h:e ∈ qc l):e.2=j5 l e.1:=by
 have:=qh9 l e.1;rw [yp3 (jz3 l) h] at this;exact this
theorem yi9{l:List RR}{e:List UInt8 × Hd}(h:e ∈ qc l):∃ r ∈ l,fold r.nm=e.1:=by
 revert e
 refine qi5 (P:=fun l=>∀ {e:List UInt8 × Hd},e ∈ qc l->∃ r ∈ l,fold r.nm=e.1) (fun h=>by cases h) (fun l r ih e h=>?_) l;rw [uj] at h;rcases ys5 h with rfl|h
 ·exact⟨r,by simp,rfl⟩
 ·obtain⟨x,hx,e1⟩:=ih h;exact⟨x,by simp[hx],e1⟩
theorem zp5{l:List RR}{r:RR}(h:r ∈ l):∃ e ∈ qc l,e.1=fold r.nm:=by
 revert r
 refine qi5 (P:=fun l=>∀ {r:RR},r ∈ l->∃ e ∈ qc l,e.1=fold r.nm) (fun h=>by cases h) (fun l x ih r h=>?_) l;have hget:∀ k,(aget (qc (l++[x])) k).isSome->∃ e ∈ qc (l++[x]),e.1=k:=fun k hk=>by
  obtain⟨v,hv⟩:=s9.1 hk;exact⟨(k,v),xk2 hv,rfl⟩
 refine hget _ ?_;rw[uj,jc7];split
 ·rfl
 ·rename_i hne;rcases o3.1 h with h|h
  ·obtain⟨e,he,e1⟩:=ih h;rw[<-e1,yp3 (jz3 l) he];rfl
  ·simp at h;subst h;exact absurd rfl hne
theorem zx3(l:List RR)(p:List UInt8->Bool):((qc l).all fun e=>p e.1)=l.all fun r=>p (fold r.nm):=by
 rw[ly,l8,l8];constructor
 ·intro h r hr;obtain⟨e,he,e1⟩:=zp5 hr;rw[<-e1];exact h e he
 ·intro h e he;obtain⟨r,hr,e1⟩:=yi9 he;rw[<-e1];exact h r hr
theorem ys4{K V:Type}[DecidableEq K]{l:List (K × V)}{k:K}(h:aget l k=none)(v:V):aput l k v=l++[(k,v)]:=by
 induction l with
 |nil=>rfl
 |cons x l ih =>
  simp only [aget] at h;split at h
  ·cases h
  ·rename_i hne;simp only[aput];rw[if_neg hne,ih h];rfl
def jt(l:List RR):List ((List UInt8 × Int × Int × List UInt8) × Nat):=l.map fun r=>(keyZ r,1)
theorem xd9(l:List RR)(k:List UInt8 × Int × Int × List UInt8):aget (jt l) k=if l.any (fun r=>keyZ r == k) then some 1 else none:=by
 induction l with
 |nil=>rfl
 |cons r l ih =>
  show(if k=keyZ r then some 1 else aget (jt l) k)=_;rw[ih,List.any_cons];by_cases h:k=keyZ r
  ·subst h;simp
  ·have h':(keyZ r == k)=false:=by simpa using fun e=>h e.symm
   rw[if_neg h,h',rt]
theorem zu8(l:List RR)(r:RR):jt (l++[r])=jt l++[(keyZ r,1)]:=by unfold jt;simp
theorem zw9(l:List RR)(r:RR):qb5 (l++[r])=(qb5 l && !l.any (fun x=>keyZ x == keyZ r)):=by
 induction l with
 |nil=>rfl
 |cons x l ih =>
  show(((l++[r]).all fun y=>keyZ y != keyZ x) && qb5 (l++[r]))=((l.all fun y=>keyZ y != keyZ x) && qb5 l && !((keyZ x == keyZ r) || l.any fun y=>keyZ y == keyZ r));rw[ih,bw,List.all_cons,List.all_nil,Bool.and_true];have e:(keyZ r != keyZ x) = !(keyZ x == keyZ r):=by
   rw[ly];simp only[bne_iff_ne,c6,mq];exact⟨fun h e=>h e.symm,fun h e=>h e.symm⟩
  rw[e];cases (l.all fun y=>keyZ y != keyZ x) <;> cases qb5 l <;> cases (keyZ x == keyZ r) <;> cases (l.any fun y=>keyZ y == keyZ r) <;> rfl
def xl(apex:List UInt8)(l:List RR):Bool:=l.all (zb apex) && qb5 l
theorem yb7(apex:List UInt8)(l:List RR)(r:RR):xl apex (l++[r])=(xl apex l && (zb apex r && !l.any (fun x=>keyZ x == keyZ r))):=by
 unfold xl;rw[zw9,bw,List.all_cons,List.all_nil,Bool.and_true];cases l.all (zb apex) <;> cases qb5 l <;> cases zb apex r <;> cases (l.any fun y=>keyZ y == keyZ r) <;> rfl
theorem zt5{apex:List UInt8}{l:List RR}{i:Nat}(h:xl apex (l.take i)=false):xl apex l=false:=by
 have hl:l=l.take i++l.drop i:=(cz i l).symm;cases e:xl apex l with
 |false=>rfl
 |true =>
  exfalso;have:∀ (m n:List RR),xl apex (m++n)=true->xl apex m=true:=by
   intro m n;refine qi5 (P:=fun n=>xl apex (m++n)=true->xl apex m=true) (fun h=>by rwa [m6] at h) (fun n r ih h=>?_) n;rw [<-m9,yb7,p8] at h;exact ih h.1
  rw [hl] at e;rw [this _ _ e] at h;cases h
theorem Zo.ok_eq(z:Zo):z.ok=(decide (qb z.apex) && (decide (z.rrs.length<=256) && (xl z.apex z.rrs && wp z))):=by
 unfold Zo.ok xl;rw[Bool.and_assoc (z.rrs.all (zb z.apex))]
end
theorem zn0{n z:List UInt8}(hn:qb n)(hz:qb z)(hl:z.length<=n.length)(b:Bool)(hb:b=true↔∃ j,j<=(labN n).length/\qj (labN n) j=n.length - z.length) :
 (b && (fold (n.drop (n.length - z.length)) == fold z))=qt n z:=by
 rw[ly,withinN_iff,p8,hb,mw];constructor
 ·rintro ⟨⟨j,hj,hp⟩,hf⟩
  refine⟨hn,hz,j,hj,?_⟩;exact(yf4 hn hz (j:=j) (by omega)).1 (by rw[hp];exact hf)
 ·rintro ⟨_,_,j,hj,hf⟩
  have hp:=yb4 hn hz hf;refine⟨⟨j,hj,by omega⟩,?_⟩;have:=(yf4 hn hz (j:=j) hp).2 hf
  rwa [show qj (labN n) j=n.length - z.length by omega] at this
theorem zh9{n z:List UInt8}(hl:n.length<z.length):qt n z=false:=by
 cases h:qt n z
 ·rfl
 ·obtain⟨hn,hz,j,_,hf⟩:=withinN_iff.1 h;have:=yb4 hn hz hf;omega
theorem qr5(n z:List UInt8):FnOk Tryz.prog 75 [.d (.str n),.d (.str z)] (.d (.bool (qt n z))):=by
 refine qu (TT:=TT) (IN:=qe [(107,Tryz.f107,1),(139,Tryz.f139,2)]) qg (jh (jh qh Tryz.func139 (by kernel_rfl) (by kernel_rfl)) Tryz.func107 (by kernel_rfl) (by kernel_rfl)) mixed 1000 Tryz.func75 rfl (qd Tryz.func75 (by kernel_rfl) rfl) rfl 50 (by kernel_rfl) ?_;conv=>whnf
 refine oD (yq n) rfl rfl ?_;by_cases hn:qb n;case neg =>
  rw[if_neg hn,show qt n z=false by unfold qt;rw[po hn];rfl];conv=>whnf
  repeat(first|(refine brT rfl ?_;conv=>whnf))
  try exact rfl
 rw[if_pos hn];conv=>whnf
 refine brF rfl ?_;conv=>whnf
 refine oD (yq z) rfl rfl ?_;by_cases hz:qb z;case neg =>
  rw[if_neg hz,show qt n z=false by unfold qt;rw[po hz,fx,gu]];conv=>whnf
  repeat(first|(refine brT rfl ?_;conv=>whnf))
  try exact rfl
 rw[if_pos hz];conv=>whnf
 refine brF rfl ?_;conv=>whnf
 refine⟨fun h1=>?_,fun h1=>?_⟩
 ·have h1:(z.length:Int) > n.length:=pu h1;rw[zh9 (by omega)];conv=>whnf
  try exact rfl
 have h1:¬ (z.length:Int) > n.length:=pw h1;obtain⟨hn1,hn2,hn3⟩:=z7 hn;have hz1:=hz.2.1;have hmw:IntKind.i64.wrap ((n.length:Int) - (z.length:Int))=((n.length - z.length:Nat):Int):=by rw[qa _ (by omega)];omega
 have hlaw:=zn0 hn hz (by omega);have hzero:(((n.length - z.length:Nat):Int) == 0)=decide (n.length - z.length=0):=by rw[ly];simp
 conv=>whnf
 rw[hmw,hzero];have hend:∀ i,qj (labN n) i<n.length:=fun i=>by have:=je6 (labN n) i;rw [<-hn3] at this;exact this
 have hbt:∀ i l,(labN n)[i]? = some l->bt n (qj (labN n) i)=l.length:=fun i l h=>by
  have:=jf3 hn2 h;rw [<-hn3] at this;exact this
 have hbe:bt n (qj (labN n) (labN n).length)=0:=by
  have:=jf4 (labN n);rw [<-hn3] at this;exact this
 generalize labN n=ls at hn2 hn3 hlaw hend hbt hbe;obtain⟨m,hm⟩:∃ m,n.length - z.length=m:=⟨_,rfl⟩;rw [hm] at hlaw ⊢;refine .inv Nat (fun i=>i<=ls.length/\∀ j,0<j->j<=i->qj ls j<m) (fun i=>[(3,iV (qj ls i))]) (fun _=>[]) (fun i=>ls.length - i) ⟨0,[0,1,2,3],⟨pz _,fun j h1 h2=>by omega⟩,?_⟩ ?_
 ·conv=>whnf
  exact rZ2
 intro i hi;obtain⟨hi1,hi2⟩:=hi;have hp:=hend i;conv=>whnf
 refine brT (pn (by omega)) ?_;conv=>whnf
 refine⟨by omega,?_⟩;conv=>whnf
 rw[yo,qa (bt n (qj ls i):Int) (by have:=qc2 n (qj ls i);omega)];rcases oo i ls.length with hlt|hge
 ·have hli:ls[i]? = some ls[i]:=pp hlt;have hb:=hbt i _ hli;have hok:=hn2 _ (d5 hlt);have hps:=qq9 hli;have hp2:=hend (i+1);rw[hb];generalize ls[i]=l at hli hb hok hps;obtain⟨ho1,ho2⟩:=hok;refine brF (by rw[mq];omega) ?_;conv=>whnf
  refine brF (po (by omega)) ?_;conv=>whnf
  have e1:IntKind.i64.wrap ((n.length:Int) - (qj ls i:Int))=((n.length - qj ls i:Nat):Int):=by rw[qa _ (by omega)];omega
  rw[e1];refine brF (po (by omega)) ?_;conv=>whnf
  have e2:IntKind.i64.wrap ((qj ls i:Int)+IntKind.i64.wrap (1+(l.length:Int)))=((qj ls (i+1):Nat):Int):=by rw[qa (1+(l.length:Int)) (by omega),qa _ (by omega)];omega
  rw[e2];refine⟨fun h2=>?_,fun h2=>?_⟩
  ·have h2:m<=qj ls (i+1):=by
    have h:((qj ls (i+1):Nat):Int) >= (m:Int):=pu h2;omega
   conv=>whnf
   refine⟨fun h3=>?_,fun h3=>?_⟩
   ·have h3:m=0:=pu h3;conv=>whnf
    rw[<-hlaw true ⟨fun _=>⟨0,pz _,h3.symm⟩,fun _=>rfl⟩];refine⟨by omega,?_⟩;conv=>whnf
    rw[qi1];refine oD (xc _ (by rw[o7];omega)) rfl rfl ?_;conv=>whnf
    refine oD (xc z (by omega)) rfl rfl ?_;conv=>whnf
    try exact rfl
   ·have h3:¬ m=0:=pw h3;conv=>whnf
    refine⟨fun h4=>?_,fun h4=>?_⟩
    ·have h4:qj ls (i+1)=m:=by simp at h4;omega
     conv=>whnf
     rw[<-hlaw true ⟨fun _=>⟨i+1,hlt,h4⟩,fun _=>rfl⟩];refine⟨by omega,?_⟩;conv=>whnf
     rw[qi1];refine oD (xc _ (by rw[o7];omega)) rfl rfl ?_;conv=>whnf
     refine oD (xc z (by omega)) rfl rfl ?_;conv=>whnf
     try exact rfl
    ·have h4:¬ qj ls (i+1)=m:=by simp at h4;omega
     have hno:¬ ∃ j,j<=ls.length/\qj ls j=m:=by
      rintro ⟨j,j1,j2⟩
      rcases ct j (i+1) with x|x|x
      ·rcases fq j with y|y
       ·subst y;exact h3 j2.symm
       ·have:=hi2 j y (by omega);omega
      ·subst x;exact h4 j2
      ·have:=jn5 x j1;omega
     rw[<-hlaw false ⟨fun h=>(by cases h),fun h=>absurd h hno⟩];conv=>whnf
     try exact rfl
  ·have h2:qj ls (i+1)<m:=by
    have h:¬ ((qj ls (i+1):Nat):Int) >= (m:Int):=pw h2;omega
   conv=>whnf
   refine⟨i+1,[0,1,2,3],⟨hlt,fun j k1 k2=>?_⟩,by omega,?_⟩
   ·rcases oo j (i+1) with x|x
    ·exact hi2 j k1 (by omega)
    ·rw[show j=i+1 by omega];exact h2
   conv=>whnf
   exact rZ2
 ·have hil:i=ls.length:=by omega
  subst hil;rw[hbe];conv=>whnf
  refine brT rfl ?_;conv=>whnf
  refine⟨fun h3=>?_,fun h3=>?_⟩
  ·have h3:m=0:=pu h3;conv=>whnf
   rw[<-hlaw true ⟨fun _=>⟨0,pz _,h3.symm⟩,fun _=>rfl⟩];refine⟨by omega,?_⟩;conv=>whnf
   rw[qi1];refine oD (xc _ (by rw[o7];omega)) rfl rfl ?_;conv=>whnf
   refine oD (xc z (by omega)) rfl rfl ?_;conv=>whnf
   try exact rfl
  ·have h3:¬ m=0:=pw h3;have hno:¬ ∃ j,j<=ls.length/\qj ls j=m:=by
    rintro ⟨j,j1,j2⟩
    rcases fq j with y|y
    ·subst y;exact h3 j2.symm
    ·have:=hi2 j y j1;omega
   rw[<-hlaw false ⟨fun h=>(by cases h),fun h=>absurd h hno⟩];conv=>whnf
   try exact rfl
section
def rot{α:Type}(p:Nat->α)(a m b:Nat):Nat->α:=fun x=>if a<=x/\x<a+(b - m) then p (x+(m - a)) else if a+(b - m)<=x/\x<b then p (x - (b - m)) else p x
def swp{α:Type}(p:Nat->α)(a b n:Nat):Nat->α:=fun x=>if a<=x/\x<a+n then p (x+(b - a)) else if b<=x/\x<b+n then p (x - (b - a)) else p x
theorem qm8{α:Type}(p:Nat->α)(a b:Nat)(h:a<=b):rot p a a b=p:=by
 funext x;unfold rot;(try dsimp only);repeat' split
 all_goals first|rfl|(exfalso;omega)|(congr 1;omega)
theorem jd2{α:Type}(p:Nat->α)(a b:Nat)(h:a<=b):rot p a b b=p:=by
 funext x;unfold rot;(try dsimp only);repeat' split
 all_goals first|rfl|(exfalso;omega)|(congr 1;omega)
theorem yn1{α:Type}(p:Nat->α)(a b:Nat):swp p a b 0=p:=by
 funext x;unfold swp;(try dsimp only);repeat' split
 all_goals first|rfl|(exfalso;omega)
theorem yn8{α:Type}(p:Nat->α)(m i j:Nat)(hi:j<i)(him:i<=m):rot (swp p (m - i) m j) (m - (i - j)) m (m+j)=rot p (m - i) m (m+j):=by
 funext x;unfold rot swp;try dsimp only
 repeat' split
 all_goals first|rfl|(exfalso;omega)|(congr 1;omega)
theorem yh2{α:Type}(p:Nat->α)(m i j:Nat)(hi:i<j)(him:i<=m):rot (swp p (m - i) (m+j - i) i) (m - i) m (m+(j - i))=rot p (m - i) m (m+j):=by
 funext x;unfold rot swp;try dsimp only
 repeat' split
 all_goals first|rfl|(exfalso;omega)|(congr 1;omega)
theorem yn7{α:Type}(p:Nat->α)(m i:Nat)(him:i<=m):swp p (m - i) m i=rot p (m - i) m (m+i):=by
 funext x;unfold rot swp;try dsimp only
 repeat' split
 all_goals first|rfl|(exfalso;omega)|(congr 1;omega)
theorem yu1{α:Type}(p:Nat->α)(a b n:Nat)(hb:a+n<b):swp (swp p a b n) (a+n) (b+n) 1=swp p a b (n+1):=by
 funext x;unfold swp;try dsimp only
 repeat' split
 all_goals first|rfl|(exfalso;omega)|(congr 1;omega)
theorem yx9{α:Type}(p:Nat->α)(a k:Nat)(h:a<=k):swp (rot p a (a+1) (k+1)) k (k+1) 1=rot p a (a+1) (k+2):=by
 funext x;unfold rot swp;try dsimp only
 repeat' split
 all_goals first|rfl|(exfalso;omega)|(congr 1;omega)
theorem jb2{α:Type}(p:Nat->α)(m k:Nat)(h:k+1<=m):swp (rot p (k+1) m (m+1)) k (k+1) 1=rot p k m (m+1):=by
 funext x;unfold rot swp;try dsimp only
 repeat' split
 all_goals first|rfl|(exfalso;omega)|(congr 1;omega)
structure Inj(n:Nat)(p:Nat->Nat):Prop where
 lt:∀ i,i<n->p i<n
 un:∀ i j,i<n->j<n->p i=p j->i=j
theorem Inj.surj:∀ {n:Nat} {p:Nat->Nat},Inj n p->∀ j,j<n->∃ i,i<n/\p i=j
 |0,_,_=>fun j h=>absurd h (by omega)
 |n+1,p,h=>fun j hj=>by
  have ih:=Inj.surj (n:=n) (p:=fun i=>if p i=n then p n else p i) ⟨fun i hi=>by
   have:=h.lt i (by omega);have:=h.lt n (by omega);show(if p i=n then p n else p i)<n;split
   ·rename_i e;rcases oo (p n) n with hl|hl
    ·exact hl
    ·have:=h.un i n (by omega) (by omega) (by omega);omega
   ·omega,fun i k hi hk e=>by
   have e:(if p i=n then p n else p i)=(if p k=n then p n else p k):=e;split at e <;> split at e
   ·exact h.un i k (by omega) (by omega) (by omega)
   ·have:=h.un n k (by omega) (by omega) e;omega
   ·have:=h.un i n (by omega) (by omega) e;omega
   ·exact h.un i k (by omega) (by omega) e⟩
  rcases oo j n with hl|hl
  ·obtain⟨i,hi,e⟩:=ih j hl;have e:(if p i=n then p n else p i)=j:=e;split at e
   ·exact⟨n,by omega,e⟩
   ·exact⟨i,by omega,e⟩
  ·have hj:j=n:=by omega
   subst hj;rcases oo (p j) j with hl|hl
   ·obtain⟨i,hi,e⟩:=ih (p j) hl;have e:(if p i=j then p j else p i)=p j:=e;split at e
    ·rename_i e2;exact⟨i,by omega,e2⟩
    ·have:=h.un i j (by omega) (by omega) e;omega
   ·have:=h.lt j (by omega);exact⟨j,by omega,by omega⟩
structure Same(p q:Nat->Nat)(a b:Nat):Prop where
 out:∀ i,¬ (a<=i/\i<b)->q i=p i
 fwd:∀ i,a<=i->i<b->∃ j,a<=j/\j<b/\q i=p j
 bwd:∀ i,a<=i->i<b->∃ j,a<=j/\j<b/\p i=q j
theorem Same.refl(p:Nat->Nat)(a b:Nat):Same p p a b:=⟨fun _ _=>rfl,fun i h1 h2=>⟨i,h1,h2,rfl⟩,fun i h1 h2=>⟨i,h1,h2,rfl⟩⟩
theorem Same.trans{p q r:Nat->Nat}{a b:Nat}(h:Same p q a b)(k:Same q r a b):Same p r a b :=
 ⟨fun i hi=>(k.out i hi).trans (h.out i hi),fun i h1 h2=>by
  obtain⟨j,a1,a2,a3⟩:=k.fwd i h1 h2;obtain⟨l,b1,b2,b3⟩:=h.fwd j a1 a2;exact⟨l,b1,b2,a3.trans b3⟩,fun i h1 h2=>by
  obtain⟨j,a1,a2,a3⟩:=h.bwd i h1 h2;obtain⟨l,b1,b2,b3⟩:=k.bwd j a1 a2;exact⟨l,b1,b2,a3.trans b3⟩⟩
theorem Same.wide{p q:Nat->Nat}{a b a' b':Nat}(h:Same p q a b)(ha:a'<=a)(hb:b<=b'):Same p q a' b' :=
 ⟨fun i hi=>h.out i (fun e=>hi (by omega)),fun i h1 h2=>by
  by_cases hi:a<=i/\i<b
  ·obtain⟨j,a1,a2,a3⟩:=h.fwd i hi.1 hi.2;exact⟨j,by omega,by omega,a3⟩
  ·exact⟨i,h1,h2,h.out i hi⟩,fun i h1 h2=>by
  by_cases hi:a<=i/\i<b
  ·obtain⟨j,a1,a2,a3⟩:=h.bwd i hi.1 hi.2;exact⟨j,by omega,by omega,a3⟩
  ·exact⟨i,h1,h2,(h.out i hi).symm⟩⟩
theorem jn3(p:Nat->Nat)(a m b:Nat)(h1:a<=m)(h2:m<=b):Same p (rot p a m b) a b:=by
 refine⟨fun i hi=>?_,fun i ha hb=>?_,fun i ha hb=>?_⟩
 ·unfold rot;repeat' split
  all_goals first|rfl|(exfalso;omega)
 ·unfold rot;split
  ·exact⟨i+(m - a),by omega,by omega,rfl⟩
  ·split
   ·exact⟨i - (b - m),by omega,by omega,rfl⟩
   ·omega
 ·by_cases hm:i<m
  ·refine⟨i+(b - m),by omega,by omega,?_⟩;unfold rot;rw[if_neg (by omega),if_pos (by omega)];congr 1;omega
  ·refine⟨i - (m - a),by omega,by omega,?_⟩;unfold rot;rw[if_pos (by omega)];congr 1;omega
theorem Inj.rot{n:Nat}{p:Nat->Nat}(h:Inj n p){a m b:Nat}(h1:a<=m)(h2:m<=b)(h3:b<=n):Inj n (rot p a m b):=by
 have key:∀ i,i<n->∃ j,j<n/\YtoefgnnkajhmiaaGreatDoor.rot p a m b i=p j/\((a<=i/\i<a+(b - m)/\j=i+(m - a))\/(a+(b - m)<=i/\i<b/\j=i - (b - m))\/(¬ (a<=i/\i<b)/\j=i)):=fun i hi=>by
  unfold YtoefgnnkajhmiaaGreatDoor.rot;split
  ·exact⟨_,by omega,rfl,by omega⟩
  ·split
   ·exact⟨_,by omega,rfl,by omega⟩
   ·exact⟨_,hi,rfl,by omega⟩
 refine⟨fun i hi=>?_,fun i j hi hj e=>?_⟩
 ·obtain⟨k,a1,a2,_⟩:=key i hi;rw[a2];exact h.lt k a1
 ·obtain⟨k,a1,a2,a3⟩:=key i hi;obtain⟨l,b1,b2,b3⟩:=key j hj;rw [a2,b2] at e;have:=h.un k l a1 b1 e;omega
section
variable(L:Nat->Nat->Prop)
def Rise(p:Nat->Nat)(a b:Nat):Prop:=∀ i j,a<=i->i<j->j<b->L (p i) (p j)
def Sep(p:Nat->Nat)(a m b:Nat):Prop:=∀ i j,a<=i->i<m->m<=j->j<b->p i<p j
structure Ord(n:Nat):Prop where
 trans:∀ i j k,i<n->j<n->k<n->L i j->L j k->L i k
 irr:∀ i,i<n->¬ L i i
 tot:∀ i j,i<n->j<n->i≠j->L i j\/L j i
variable{L}{n:Nat}{p:Nat->Nat}
theorem Rise.sub{a b a' b':Nat}(h:Rise L p a b)(ha:a<=a')(hb:b'<=b):Rise L p a' b':=fun i j h1 h2 h3=>h i j (by omega) h2 (by omega)
theorem Rise.congr{q:Nat->Nat}{a b:Nat}(h:Rise L p a b)(he:∀ i,a<=i->i<b->q i=p i):Rise L q a b:=fun i j h1 h2 h3=>by
 rw[he i h1 (by omega),he j (by omega) h3];exact h i j h1 h2 h3
structure Cut(p:Nat->Nat)(a m b s e:Nat):Prop where
 sa:a<=s
 sm:s<=m
 me:m<=e
 eb:e<=b
 lo:∀ i j,a<=i->i<s->e<=j->j<b->L (p i) (p j)
 hi:∀ i j,s<=i->i<m->m<=j->j<e->L (p j) (p i)
structure Merged(p q:Nat->Nat)(n a b:Nat):Prop where
 inj:Inj n q
 same:Same p q a b
 rise:Rise L q a b
theorem qz9{a m b s e mid:Nat}(h1:Rise L p a m)(h2:Rise L p m b)(hc:Cut (L:=L) p a m b s e)(hmid:mid=s+(e - m)){q r:Nat->Nat}(hq:Merged (L:=L) (rot p s m e) q n a mid)(hr:Merged (L:=L) q r n mid b):Merged (L:=L) p r n a b:=by
 have hsa:=hc.sa;have hsm:=hc.sm;have hme:=hc.me;have heb:=hc.eb;have hs:Same p (rot p s m e) a b:=(jn3 p s m e hsm hme).wide hsa heb;have hpq:Same p q a b:=hs.trans (hq.same.wide (pr _) (by omega));refine⟨hr.inj,hpq.trans (hr.same.wide (by omega) (pr _)),fun i j hi hij hj=>?_⟩
 -- what stands below mid,and what above
 have low:∀ i,a<=i->i<mid->∃ k,((a<=k/\k<s)\/(m<=k/\k<e))/\r i=p k:=fun i h3 h4=>by
  rw[hr.same.out i (by omega)];obtain⟨k,b1,b2,b3⟩:=hq.same.fwd i h3 h4;rw[b3];unfold rot;split
  ·exact⟨_,by omega,rfl⟩
  ·split
   ·omega
   ·exact⟨_,by omega,rfl⟩
 have high:∀ i,mid<=i->i<b->∃ k,((s<=k/\k<m)\/(e<=k/\k<b))/\r i=p k:=fun i h3 h4=>by
  obtain⟨k,b1,b2,b3⟩:=hr.same.fwd i h3 h4;rw[b3,hq.same.out k (by omega)];unfold rot;split
  ·omega
  ·split
   ·exact⟨_,by omega,rfl⟩
   ·exact⟨_,by omega,rfl⟩
 by_cases hjm:j<mid
 ·rw[hr.same.out i (by omega),hr.same.out j (by omega)];exact hq.rise i j hi hij hjm
 ·by_cases him:mid<=i
  ·exact hr.rise i j him hij hj
  ·obtain⟨k,a1,a2⟩:=low i hi (by omega);obtain⟨l,b1,b2⟩:=high j (by omega) hj;rw[a2,b2];rcases a1 with a1|a1 <;> rcases b1 with b1|b1
   ·exact h1 k l a1.1 (by omega) b1.2
   ·exact hc.lo k l a1.1 a1.2 b1.1 b1.2
   ·exact hc.hi l k b1.1 b1.2 a1.1 a1.2
   ·exact h2 k l a1.1 (by omega) b1.2
theorem xf9{a b i:Nat}(hp:Inj n p)(hbn:b<=n)(hai:a+1<=i)(hib:i<=b)(h2:Rise L p (a+1) b)(hlo:∀ j,a+1<=j->j<i->L (p j) (p a))(hhi:∀ j,i<=j->j<b->L (p a) (p j)):Merged (L:=L) p (rot p a (a+1) i) n a b:=by
 refine⟨hp.rot (by omega) hai (by omega),(jn3 p a (a+1) i (by omega) hai).wide (pr _) hib,fun x y hx hxy hy=>?_⟩;unfold rot
 repeat' split
 ·exact h2 _ _ (by omega) (by omega) (by omega)
 ·have e:y - (i - (a+1))=a:=by omega
  rw[e];exact hlo _ (by omega) (by omega)
 ·exact h2 _ _ (by omega) (by omega) (by omega)
 ·omega
 ·omega
 ·have e:x - (i - (a+1))=a:=by omega
  rw[e];exact hhi _ (by omega) (by omega)
 ·omega
 ·omega
 ·exact h2 _ _ (by omega) (by omega) (by omega)
theorem zp9{a m i:Nat}(hp:Inj n p)(hmn:m<n)(hai:a<=i)(him:i<=m)(h1:Rise L p a m)(hlo:∀ j,a<=j->j<i->L (p j) (p m))(hhi:∀ j,i<=j->j<m->L (p m) (p j)):Merged (L:=L) p (rot p i m (m+1)) n a (m+1):=by
 refine⟨hp.rot him (by omega) (by omega),(jn3 p i m (m+1) him (by omega)).wide hai (pr _),fun x y hx hxy hy=>?_⟩;unfold rot
 repeat' split
 ·omega
 ·have e:x+(m - i)=m:=by omega
  rw[e];exact hhi _ (by omega) (by omega)
 ·omega
 ·omega
 ·exact h1 _ _ (by omega) (by omega) (by omega)
 ·omega
 ·have e:y+(m - i)=m:=by omega
  rw[e];exact hlo _ (by omega) (by omega)
 ·exact h1 _ _ (by omega) (by omega) (by omega)
 ·exact h1 _ _ (by omega) (by omega) (by omega)
end
structure Weak(n:Nat)(lt:Nat->Nat->Bool):Prop where
 asym:∀ i j,i<n->j<n->lt i j=true->lt j i=false
 trans:∀ i j k,i<n->j<n->k<n->lt i j=true->lt j k=true->lt i k=true
 ntrans:∀ i j k,i<n->j<n->k<n->lt i j=false->lt j k=false->lt i k=false
def LL(lt:Nat->Nat->Bool)(i j:Nat):Prop:=lt i j=true\/(lt j i=false/\i<j)
theorem Weak.irr{n:Nat}{lt:Nat->Nat->Bool}(h:Weak n lt)(i:Nat)(hi:i<n):lt i i=false:=by
 cases e:lt i i
 ·rfl
 ·have:=h.asym i i hi hi e;rw [e] at this;cases this
theorem Weak.ord{n:Nat}{lt:Nat->Nat->Bool}(h:Weak n lt):Ord (LL lt) n:=by
 refine⟨fun i j k hi hj hk a b=>?_,fun i hi a=>?_,fun i j hi hj hne=>?_⟩
 ·rcases a with a|⟨a,a'⟩ <;> rcases b with b|⟨b,b'⟩
  ·exact .inl (h.trans i j k hi hj hk a b)
  ·left
   cases e:lt i k
   ·have:=h.ntrans i k j hi hk hj e b;rw [a] at this;cases this
   ·rfl
  ·left
   cases e:lt i k
   ·have:=h.ntrans j i k hj hi hk a e;rw [b] at this;cases this
   ·rfl
  ·exact .inr ⟨h.ntrans k j i hk hj hi b a,by omega⟩
 ·rcases a with a|⟨_,a⟩
  ·rw [h.irr i hi] at a;cases a
  ·omega
 ·cases e:lt i j
  ·cases e':lt j i
   ·rcases oo i j with hl|hl
    ·exact .inl (.inr ⟨e',hl⟩)
    ·exact .inr (.inr ⟨e,by omega⟩)
   ·exact .inr (.inl e')
  ·exact .inl (.inl e)
theorem yz4{L:Nat->Nat->Prop}{n a m b s e:Nat}{p:Nat->Nat}(hO:Ord L n)(hp:Inj n p)(hbn:b<=n)(h1:Rise L p a m)(h2:Rise L p m b)(sa:a<=s)(sm:s<=m)(me:m<=e)(eb:e<=b)
 (hlo:s=a\/e=b\/L (p (s - 1)) (p e)) (hhi:s=m\/e=m\/L (p (e - 1)) (p s)):Cut (L:=L) p a m b s e:=by
 refine⟨sa,sm,me,eb,fun i j hi his hj hjb=>?_,fun i j hi him hj hje=>?_⟩
 ·have hl:L (p (s - 1)) (p e):=by
   rcases hlo with h|h|h
   ·omega
   ·omega
   ·exact h
  have hx:L (p i) (p e):=by
   rcases oo i (s - 1) with h|h
   ·exact hO.trans _ _ _ (hp.lt i (by omega)) (hp.lt _ (by omega)) (hp.lt _ (by omega)) (h1 i (s - 1) hi h (by omega)) hl
   ·have:i=s - 1:=by omega
    rw[this];exact hl
  rcases oo e j with h|h
  ·exact hO.trans _ _ _ (hp.lt i (by omega)) (hp.lt _ (by omega)) (hp.lt _ (by omega)) hx (h2 e j me h hjb)
  ·have:j=e:=by omega
   rw[this];exact hx
 ·have hl:L (p (e - 1)) (p s):=by
   rcases hhi with h|h|h
   ·omega
   ·omega
   ·exact h
  have hx:L (p j) (p s):=by
   rcases oo j (e - 1) with h|h
   ·exact hO.trans _ _ _ (hp.lt j (by omega)) (hp.lt _ (by omega)) (hp.lt _ (by omega)) (h2 j (e - 1) hj h (by omega)) hl
   ·have:j=e - 1:=by omega
    rw[this];exact hl
  rcases oo s i with h|h
  ·exact hO.trans _ _ _ (hp.lt j (by omega)) (hp.lt _ (by omega)) (hp.lt _ (by omega)) hx (h1 s i sa h him)
  ·have:i=s:=by omega
   rw[this];exact hx
theorem za1{L:Nat->Nat->Prop}{n a b i:Nat}{p:Nat->Nat}(hO:Ord L n)(hp:Inj n p)(hbn:b<=n)(hai:a+1<=i)(hib:i<=b)(h2:Rise L p (a+1) b)(hlo:i=a+1\/L (p (i - 1)) (p a))(hhi:i=b\/L (p a) (p i)):Merged (L:=L) p (rot p a (a+1) i) n a b:=by
 refine xf9 hp hbn hai hib h2 (fun j h3 h4=>?_) (fun j h3 h4=>?_)
 ·have hl:L (p (i - 1)) (p a):=by
   rcases hlo with h|h
   ·omega
   ·exact h
  rcases oo j (i - 1) with h|h
  ·exact hO.trans _ _ _ (hp.lt _ (by omega)) (hp.lt _ (by omega)) (hp.lt _ (by omega)) (h2 j (i - 1) h3 h (by omega)) hl
  ·have:j=i - 1:=by omega
   rw[this];exact hl
 ·have hl:L (p a) (p i):=by
   rcases hhi with h|h
   ·omega
   ·exact h
  rcases oo i j with h|h
  ·exact hO.trans _ _ _ (hp.lt _ (by omega)) (hp.lt _ (by omega)) (hp.lt _ (by omega)) hl (h2 i j hai h h4)
  ·have:j=i:=by omega
   rw[this];exact hl
theorem jd9{L:Nat->Nat->Prop}{n a m i:Nat}{p:Nat->Nat}(hO:Ord L n)(hp:Inj n p)(hmn:m<n)(hai:a<=i)(him:i<=m)(h1:Rise L p a m)(hlo:i=a\/L (p (i - 1)) (p m))(hhi:i=m\/L (p m) (p i)):Merged (L:=L) p (rot p i m (m+1)) n a (m+1):=by
 refine zp9 hp hmn hai him h1 (fun j h3 h4=>?_) (fun j h3 h4=>?_)
 ·have hl:L (p (i - 1)) (p m):=by
   rcases hlo with h|h
   ·omega
   ·exact h
  rcases oo j (i - 1) with h|h
  ·exact hO.trans _ _ _ (hp.lt _ (by omega)) (hp.lt _ (by omega)) (hp.lt _ (by omega)) (h1 j (i - 1) h3 h (by omega)) hl
  ·have:j=i - 1:=by omega
   rw[this];exact hl
 ·have hl:L (p m) (p i):=by
   rcases hhi with h|h
   ·omega
   ·exact h
  rcases oo i j with h|h
  ·exact hO.trans _ _ _ (hp.lt _ (by omega)) (hp.lt _ (by omega)) (hp.lt _ (by omega)) hl (h1 i j hai h h4)
  ·have:j=i:=by omega
   rw[this];exact hl
theorem Sep.congr{q p:Nat->Nat}{a m b:Nat}(h:Sep p a m b)(he:∀ i,a<=i->i<b->q i=p i):Sep q a m b:=fun i j h1 h2 h3 h4=>by
 by_cases hx:i<b
 ·by_cases hy:a<=j
  ·rw[he i h1 hx,he j hy h4];exact h i j h1 h2 h3 h4
  ·omega
 ·omega
theorem qw1{α:Type}(p:Nat->α){a m b i:Nat}(h:a<=i)(h2:i<a+(b - m)):rot p a m b i=p (i+(m - a)):=by
 unfold rot;rw[if_pos ⟨h,h2⟩]
theorem jt4{α:Type}(p:Nat->α){a m b i:Nat}(h:a+(b - m)<=i)(h2:i<b):rot p a m b i=p (i - (b - m)):=by
 unfold rot;rw[if_neg (by omega),if_pos ⟨h,h2⟩]
theorem qf8{α:Type}(p:Nat->α){a m b i:Nat}(h0:a<=m)(h1:m<=b)(h:i<a\/b<=i):rot p a m b i=p i:=by
 unfold rot;rw[if_neg (by omega),if_neg (by omega)]
theorem yr3{L:Nat->Nat->Prop}{a m b s e mid:Nat}{p:Nat->Nat}(h1:Rise L p a m)(h2:Rise L p m b)(hs:Sep p a m b)(hc:Cut (L:=L) p a m b s e)(hmid:mid=s+(e - m)):Rise L (rot p s m e) a s/\Rise L (rot p s m e) s mid/\Sep (rot p s m e) a s mid:=by
 obtain⟨sa,sm,me,eb,_,_⟩:=hc;refine⟨fun i j hi hij hj=>?_,fun i j hi hij hj=>?_,fun i j hi hij hj hjb=>?_⟩
 ·rw[qf8 p sm me (by omega),qf8 p sm me (by omega)];exact h1 i j hi hij (by omega)
 ·rw[qw1 p hi (by omega),qw1 p (by omega) (by omega)];exact h2 _ _ (by omega) (by omega) (by omega)
 ·rw[qf8 p sm me (by omega),qw1 p hj (by omega)];exact hs _ _ hi (by omega) (by omega) (by omega)
theorem yl6{L:Nat->Nat->Prop}{a m b s e mid:Nat}{p:Nat->Nat}(h1:Rise L p a m)(h2:Rise L p m b)(hs:Sep p a m b)(hc:Cut (L:=L) p a m b s e)(hmid:mid=s+(e - m)):Rise L (rot p s m e) mid e/\Rise L (rot p s m e) e b/\Sep (rot p s m e) mid e b:=by
 obtain⟨sa,sm,me,eb,_,_⟩:=hc;refine⟨fun i j hi hij hj=>?_,fun i j hi hij hj=>?_,fun i j hi hij hj hjb=>?_⟩
 ·rw[jt4 p (by omega) (by omega),jt4 p (by omega) (by omega)];exact h1 _ _ (by omega) (by omega) (by omega)
 ·rw[qf8 p sm me (by omega),qf8 p sm me (by omega)];exact h2 _ _ (by omega) hij hj
 ·rw[jt4 p (by omega) (by omega),qf8 p sm me (by omega)];exact hs _ _ (by omega) (by omega) (by omega) (by omega)
theorem Merged.stay{L:Nat->Nat->Prop}{n a b:Nat}{q:Nat->Nat}(hi:Inj n q)(h:Rise L q a b):Merged (L:=L) q q n a b:=⟨hi,.refl _ _ _,h⟩
def Lc(k lo n:Nat)(p:Nat->Nat):Prop:=∀ i,lo<=i->i<n->p i / k=i / k
def Rs(L:Nat->Nat->Prop)(k lo hi:Nat)(p:Nat->Nat):Prop:=∀ i j,lo<=i->i<j->j<hi->i / k=j / k->L (p i) (p j)
theorem kj{k c i:Nat}(h1:c * k<=i)(h2:i<c * k+k):i / k=c:=by
 have hk:0<k:=by omega
 apply Nat.le_antisymm
 ·exact Nat.lt_succ_iff.1 (Nat.div_lt_of_lt_mul (by rw[c7];rw[c8];exact h2))
 ·exact(Nat.le_div_iff_mul_le hk).2 h1
theorem yw4(i k:Nat):i / (2 * k)=(i / k) / 2:=by rw[Nat.div_div_eq_div_mul,c7]
structure Mg(L:Nat->Nat->Prop)(k n c:Nat)(p:Nat->Nat):Prop where
 inj:Inj n p
 big:Lc (2 * k) 0 n p
 done:Rs L (2 * k) 0 (min (c * (2 * k)) n) p
 rest:Rs L k (c * (2 * k)) n p
 small:Lc k (c * (2 * k)) n p
theorem Mg.begin{L:Nat->Nat->Prop}{k n:Nat}{p:Nat->Nat}(h1:Inj n p)(h2:Lc k 0 n p)(h3:Rs L k 0 n p):Mg L k n 0 p :=
 ⟨h1,fun i hi hn=>by rw[yw4,yw4,h2 i hi hn],fun i j hi hij hj _=>by omega,fun i j hi=>h3 i j (by omega),fun i hi=>h2 i (by omega)⟩
theorem Mg.left{L:Nat->Nat->Prop}{k n c:Nat}{p:Nat->Nat}(h:Mg L k n c p)(hm:c * (2 * k)+k<=n):Rise L p (c * (2 * k)) (c * (2 * k)+k):=fun i j hi hij hj=>by
 have e:c * (2 * k)=(c * 2) * k:=by rw[Nat.mul_assoc]
 refine h.rest i j hi hij (by omega) ?_;rw[kj (c:=c * 2) (by omega) (by omega),kj (c:=c * 2) (by omega) (by omega)]
theorem Mg.right{L:Nat->Nat->Prop}{k n c b:Nat}{p:Nat->Nat}(h:Mg L k n c p)(hb:b<=n)(hb2:b<=c * (2 * k)+2 * k):Rise L p (c * (2 * k)+k) b:=fun i j hi hij hj=>by
 have e:c * (2 * k)=(c * 2) * k:=by rw[Nat.mul_assoc]
 have e2:(c * 2+1) * k=(c * 2) * k+k:=by rw[c8]
 refine h.rest i j (by omega) hij (by omega) ?_;rw[kj (c:=c * 2+1) (by omega) (by omega),kj (c:=c * 2+1) (by omega) (by omega)]
theorem Mg.sep{L:Nat->Nat->Prop}{k n c b:Nat}{p:Nat->Nat}(h:Mg L k n c p)(hb:b<=n)(hb2:b<=c * (2 * k)+2 * k):Sep p (c * (2 * k)) (c * (2 * k)+k) b:=fun i j hi him hj hjb=>by
 have hk:0<k:=by omega
 have e:c * (2 * k)=(c * 2) * k:=by rw[Nat.mul_assoc]
 have e2:(c * 2+1) * k=(c * 2) * k+k:=by rw[c8]
 have a1:=h.small i hi (by omega);have a2:=h.small j (by omega) (by omega);rw [kj (c:=c * 2) (i:=i) (by omega) (by omega)] at a1;rw [kj (c:=c * 2+1) (i:=j) (by omega) (by omega)] at a2;rcases oo (p i) (p j) with hl|hl
 ·exact hl
 ·have:=Nat.div_le_div_right (c:=k) hl;omega
theorem Mg.next{L:Nat->Nat->Prop}{k n c b:Nat}{p r:Nat->Nat}(hk:0<k)(h:Mg L k n c p)(hb:b<=n)(hb2:b<=c * (2 * k)+2 * k)(hb3:b=n\/b=c * (2 * k)+2 * k)(hab:c * (2 * k)<=b)(hr:Merged (L:=L) p r n (c * (2 * k)) b):Mg L k n (c+1) r:=by
 have e:(c+1) * (2 * k)=c * (2 * k)+2 * k:=by rw[c8]
 refine⟨hr.inj,fun i hi hin=>?_,fun i j hi hij hj hd=>?_,fun i j hi hij hj hd=>?_,fun i hi hin=>?_⟩
 ·by_cases hc:c * (2 * k)<=i/\i<b
  ·obtain⟨j,b1,b2,b3⟩:=hr.same.fwd i hc.1 hc.2;rw[b3,h.big j (by omega) (by omega),kj (c:=c) b1 (by omega),kj (c:=c) hc.1 (by omega)]
  ·rw[hr.same.out i hc];exact h.big i hi hin
 ·by_cases hc:c * (2 * k)<=i
  ·exact hr.rise i j hc hij (by omega)
  ·by_cases hjc:j<c * (2 * k)
   ·rw[hr.same.out i (by omega),hr.same.out j (by omega)];exact h.done i j hi hij (by omega) hd
   ·exfalso;rw [kj (c:=c) (i:=j) (by omega) (by omega)] at hd;have:=Nat.div_mul_le_self i (2 * k);rw [hd] at this;omega
 ·rw[hr.same.out i (by omega),hr.same.out j (by omega)];exact h.rest i j (by omega) hij hj hd
 ·rw[hr.same.out i (by omega)];exact h.small i (by omega) hin
theorem Mg.over{L:Nat->Nat->Prop}{k n c:Nat}{p:Nat->Nat}(hk:0<k)(h:Mg L k n c p)(hn:n<=c * (2 * k)+k):Lc (2 * k) 0 n p/\Rs L (2 * k) 0 n p:=by
 refine⟨h.big,fun i j hi hij hj hd=>?_⟩;have e:c * (2 * k)=(c * 2) * k:=by rw[Nat.mul_assoc]
 by_cases hjc:j<c * (2 * k)
 ·exact h.done i j hi hij (by omega) hd
 ·have hj2:=kj (k:=2 * k) (c:=c) (i:=j) (by omega) (by omega);by_cases hic:c * (2 * k)<=i
  ·refine h.rest i j hic hij hj ?_;rw[kj (c:=c * 2) (by omega) (by omega),kj (c:=c * 2) (by omega) (by omega)]
  ·exfalso;rw [hj2] at hd;have:=Nat.div_mul_le_self i (2 * k);rw [hd] at this;omega
structure Fst(L:Nat->Nat->Prop)(k n c:Nat)(p:Nat->Nat):Prop where
 inj:Inj n p
 loc:Lc k 0 n p
 done:Rs L k 0 (min (c * k) n) p
 rest:∀ i,c * k<=i->p i=i
theorem Fst.zero{L:Nat->Nat->Prop}(k n:Nat):Fst L k n 0 id:=⟨⟨fun i h=>h,fun i j _ _ h=>h⟩,fun i _ _=>rfl,fun i j hi hij hj _=>by omega,fun i _=>rfl⟩
theorem Fst.next{L:Nat->Nat->Prop}{k n c b:Nat}{p r:Nat->Nat}(h:Fst L k n c p)(hb:b<=n)(hb2:b<=c * k+k)(hb3:b=n\/b=c * k+k)(hr:Merged (L:=L) p r n (c * k) b):Fst L k n (c+1) r:=by
 have e:(c+1) * k=c * k+k:=by rw[c8]
 refine⟨hr.inj,fun i hi hin=>?_,fun i j hi hij hj hd=>?_,fun i hi=>?_⟩
 ·by_cases hc:c * k<=i/\i<b
  ·obtain⟨j,b1,b2,b3⟩:=hr.same.fwd i hc.1 hc.2;rw[b3,h.rest j b1,kj (c:=c) b1 (by omega),kj (c:=c) hc.1 (by omega)]
  ·rw[hr.same.out i hc];exact h.loc i hi hin
 ·by_cases hc:c * k<=i
  ·exact hr.rise i j hc hij (by omega)
  ·by_cases hjc:j<c * k
   ·rw[hr.same.out i (by omega),hr.same.out j (by omega)];exact h.done i j hi hij (by omega) hd
   ·exfalso;rw [kj (c:=c) (i:=j) (by omega) (by omega)] at hd;have:=Nat.div_mul_le_self i k;rw [hd] at this;omega
 ·rw[hr.same.out i (by omega)];exact h.rest i (by omega)
theorem Rs.all{L:Nat->Nat->Prop}{k n:Nat}{p:Nat->Nat}(h:Rs L k 0 n p)(hk:n<=k):Rise L p 0 n:=fun i j hi hij hj=>h i j hi hij hj (by rw[Nat.div_eq_of_lt (by omega),Nat.div_eq_of_lt (by omega)])
end
theorem yx6(a b:UInt8)(h1:¬ a<b)(h2:¬ b<a):a=b:=by
 rw [UInt8.lt_iff_toNat_lt] at h1 h2;exact UInt8.toNat_inj.1 (by omega)
theorem wu:∀ a:List UInt8,Op.bytesLess a a=false
 |[]=>rfl
 |a :: l=>by
  have:¬ a<a:=by rw[UInt8.lt_iff_toNat_lt];omega
  simp[Op.bytesLess,this,wu l]
theorem qi8:∀ a b c:List UInt8,Op.bytesLess a b=true->Op.bytesLess b c=true->Op.bytesLess a c=true
 |_,_,[]=>fun _ h=>by simp [Op.bytesLess] at h
 |_,[],_ :: _=>fun h _=>by simp [Op.bytesLess] at h
 |[],_ :: _,_ :: _=>fun _ _=>rfl
 |a :: l,b :: m,c :: n=>fun h k=>by
  have ih:=qi8 l m n;simp only [Op.bytesLess,cq,p8,lx,mw] at h k ⊢;rcases h with h|⟨rfl,h⟩ <;> rcases k with k|⟨rfl,k⟩
  ·left;rw [UInt8.lt_iff_toNat_lt] at *;omega
  ·exact .inl h
  ·exact .inl k
  ·exact .inr ⟨rfl,ih h k⟩
theorem qu6(a b:List UInt8)(h:Op.bytesLess a b=true):Op.bytesLess b a=false:=by
 cases e:Op.bytesLess b a
 ·rfl
 ·have:=qi8 a b a h e;rw [wu] at this;cases this
theorem qf4:∀ a b:List UInt8,Op.bytesLess a b=false->Op.bytesLess b a=false->a=b
 |[],[]=>fun _ _=>rfl
 |[],_ :: _=>fun h _=>by simp [Op.bytesLess] at h
 |_ :: _,[]=>fun _ h=>by simp [Op.bytesLess] at h
 |a :: l,b :: m=>fun h k=>by
  have ih:=qf4 l m;simp only [Op.bytesLess,au,rz,decide_eq_false_iff_not,mq] at h k;have e:a=b:=yx6 a b h.1 k.1;subst e;rw[ih (h.2.resolve_left (fun h=>h rfl)) (k.2.resolve_left (fun h=>h rfl))]
theorem jm7(a b c:List UInt8)(h:Op.bytesLess a b=false)(k:Op.bytesLess b c=false):Op.bytesLess a c=false:=by
 cases e:Op.bytesLess a c
 ·rfl
 ·cases e2:Op.bytesLess b a
  ·rw [qf4 a b h e2] at e;rw [e] at k;cases k
  ·rw [qi8 b a c e2 e] at k;cases k
theorem js7:∀ a b:List UInt8,Lib.compareBytes a b=if Op.bytesLess a b then -1 else if Op.bytesLess b a then 1 else 0
 |[],[]=>rfl
 |[],_ :: _=>rfl
 |_ :: _,[]=>rfl
 |a :: l,b :: m=>by
  have ih:=js7 l m;unfold Lib.compareBytes;by_cases h1:a<b
  ·simp[Op.bytesLess,h1]
  ·by_cases h2:b<a
   ·have:¬ a=b:=fun e=>by rw [UInt8.lt_iff_toNat_lt,e] at h2;omega
    simp[Op.bytesLess,h1,h2,this]
   ·have e:=yx6 a b h1 h2;subst e;simp[Op.bytesLess,h1,ih]
theorem qj4(a b:List UInt8):(Lib.compareBytes a b<0)↔Op.bytesLess a b=true:=by
 rw[js7];cases h:Op.bytesLess a b
 ·cases h2:Op.bytesLess b a <;> simp
 ·simp
theorem qu5(a b:List UInt8):(Lib.compareBytes a b=0)↔a=b:=by
 rw[js7];constructor
 ·intro h;cases h1:Op.bytesLess a b
  ·cases h2:Op.bytesLess b a
   ·exact qf4 a b h1 h2
   ·rw [h1,h2] at h;simp at h
  ·rw [h1] at h;simp at h
 ·rintro rfl;rw[wu];rfl
def ltF(F:Nat->List UInt8)(i j:Nat):Bool:=Op.bytesLess (F i) (F j)
theorem xg1(n:Nat)(F:Nat->List UInt8):Weak n (ltF F) :=
 ⟨fun _ _ _ _ h=>qu6 _ _ h,fun _ _ _ _ _ _ h k=>qi8 _ _ _ h k,fun _ _ _ _ _ _ h k=>jm7 _ _ _ h k⟩
structure Firsts(F:List UInt8->List UInt8)(xs D:List (List UInt8)):Prop where
 rise:D.Pairwise (fun a b=>Op.bytesLess (F a) (F b)=true)
 mem:∀ x,x ∈ D↔∃ i:Nat,xs[i]? = some x/\∀ (j:Nat) (y:List UInt8),j<i->xs[j]? = some y->F y≠F x
theorem yh5(F:List UInt8->List UInt8):∀ (A B:List (List UInt8)),A.Pairwise (fun a b=>Op.bytesLess (F a) (F b)=true)->B.Pairwise (fun a b=>Op.bytesLess (F a) (F b)=true)->(∀ x,x ∈ A↔x ∈ B)->A=B
 |[],[]=>fun _ _ _=>rfl
 |[],b :: B=>fun _ _ h=>by have:=(h b).2 (by simp);simp at this
 |a :: A,[]=>fun _ _ h=>by have:=(h a).1 (by simp);simp at this
 |a :: A,b :: B=>fun hA hB h=>by
  obtain⟨a1,a2⟩:=fy.1 hA;obtain⟨b1,b2⟩:=fy.1 hB;have e:a=b:=by
   rcases pv.1 ((h a).1 (by simp)) with e|e
   ·exact e
   ·rcases pv.1 ((h b).2 (by simp)) with e'|e'
    ·exact e'.symm
    ·have:=qu6 _ _ (b1 a e);rw [a1 b e'] at this;cases this
  subst e;have:A=B:=yh5 F A B a2 b2 fun x=>by
   constructor
   ·intro hx;rcases pv.1 ((h x).1 (m8 _ hx)) with e|e
    ·subst e;have:=a1 x hx;rw [wu] at this;cases this
    ·exact e
   ·intro hx;rcases pv.1 ((h x).2 (m8 _ hx)) with e|e
    ·subst e;have:=b1 x hx;rw [wu] at this;cases this
    ·exact e
  rw[this]
theorem Firsts.uniq{F:List UInt8->List UInt8}{xs A B:List (List UInt8)}(h:Firsts F xs A)(k:Firsts F xs B):A=B :=
 yh5 F A B h.rise k.rise fun x=>(h.mem x).trans (k.mem x).symm
theorem Firsts.cover{F:List UInt8->List UInt8}{xs D:List (List UInt8)}(h:Firsts F xs D):∀ (i:Nat) (y:List UInt8),xs[i]? = some y->∃ a ∈ D,F a=F y:=by
 intro i;induction i using Nat.strongRecOn with
 |_ i ih =>
  intro y hy;by_cases hx:∃ j z,j<i/\xs[j]? = some z/\F z=F y
  ·obtain⟨j,z,hj,hz,e⟩:=hx;obtain⟨a,ha,e2⟩:=ih j hj z hz;exact⟨a,ha,e2.trans e⟩
  ·exact⟨y,(h.mem y).2 ⟨i,hy,fun j z hj hz e=>hx ⟨j,z,hj,hz,e⟩⟩,rfl⟩
theorem Firsts.from{F:List UInt8->List UInt8}{xs D:List (List UInt8)}(h:Firsts F xs D){a:List UInt8}(ha:a ∈ D):∃ i:Nat,xs[i]? = some a:=by
 obtain⟨i,hi,_⟩:=(h.mem a).1 ha;exact⟨i,hi⟩
theorem Firsts.skip{F:List UInt8->List UInt8}{xs D:List (List UInt8)}(h:Firsts F xs D){x a:List UInt8}(ha:a ∈ D)(e:F a=F x):Firsts F (xs++[x]) D:=by
 refine⟨h.rise,fun z=>(h.mem z).trans ⟨fun⟨i,hi,hf⟩=>?_,fun⟨i,hi,hf⟩=>?_⟩⟩
 ·have hil:=(pq.1 hi).1;refine⟨i,by rw[ot hil];exact hi,fun j y hj hy=>hf j y hj ?_⟩
  rwa [ot (by omega)] at hy
 ·rcases oo i xs.length with hl|hl
  ·rw [ot hl] at hi;exact⟨i,hi,fun j y hj hy=>hf j y hj (by rw[ot (by omega)];exact hy)⟩
  ·exfalso;obtain⟨q,hq⟩:=h.from ha;have hql:=(pq.1 hq).1;have hx:z=x:=by
    rw [o5 hl] at hi;have:i - xs.length=0:=by
     rcases fq (i - xs.length) with h|h
     ·exact h
     ·rw [gp (by simp;omega)] at hi;cases hi
    rw [this] at hi;exact(p7 hi).symm
   refine hf q a (by omega) (by rw[ot hql];exact hq) (by rw[hx];exact e)
theorem Firsts.put{F:List UInt8->List UInt8}{xs A B:List (List UInt8)}(h:Firsts F xs (A++B)){x:List UInt8}(hA:∀ a ∈ A,Op.bytesLess (F a) (F x)=true)(hB:∀ b ∈ B,Op.bytesLess (F x) (F b)=true):Firsts F (xs++[x]) (A++x :: B):=by
 have hr:=List.pairwise_append.1 h.rise;have hno:∀ i y,xs[i]? = some y->F y≠F x:=fun i y hy e=>by
  obtain⟨a,ha,e2⟩:=h.cover i y hy;rcases o3.1 ha with ha|ha
  ·have:=hA a ha;rw [e2,e,wu] at this;cases this
  ·have:=hB a ha;rw [e2,e,wu] at this;cases this
 refine⟨?_,fun z=>?_⟩
 ·refine List.pairwise_append.2 ⟨hr.1,fy.2 ⟨hB,hr.2.1⟩,fun a ha b hb=>?_⟩;rcases pv.1 hb with rfl|hb
  ·exact hA a ha
  ·exact hr.2.2 a ha b hb
 ·have:z ∈ A++x :: B↔z ∈ A++B\/z=x:=by
   simp only[o3,pv];constructor
   ·rintro (h|h|h)
    ·exact .inl (.inl h)
    ·exact .inr h
    ·exact .inl (.inr h)
   ·rintro ((h|h)|h)
    ·exact .inl h
    ·exact .inr (.inr h)
    ·exact .inr (.inl h)
  rw[this,h.mem z];constructor
  ·rintro (⟨i,hi,hf⟩|rfl)
   ·have hil:=(pq.1 hi).1;refine⟨i,by rw[ot hil];exact hi,fun j y hj hy=>hf j y hj ?_⟩
    rwa [ot (by omega)] at hy
   ·refine⟨xs.length,by simp,fun j y hj hy=>hno j y ?_⟩
    rwa [ot hj] at hy
  ·rintro ⟨i,hi,hf⟩
   rcases oo i xs.length with hl|hl
   ·left
    rw [ot hl] at hi;exact⟨i,hi,fun j y hj hy=>hf j y hj (by rw[ot (by omega)];exact hy)⟩
   ·right
    rw [o5 hl] at hi;have:i - xs.length=0:=by
     rcases fq (i - xs.length) with h|h
     ·exact h
     ·rw [gp (by simp;omega)] at hi;cases hi
    rw [this] at hi;exact(p7 hi).symm
theorem Firsts.len{F:List UInt8->List UInt8}{xs D:List (List UInt8)}(h:Firsts F xs D)(hx:xs≠[]):0<D.length:=by
 cases xs with
 |nil=>exact absurd rfl hx
 |cons x l =>
  obtain⟨a,ha,_⟩:=h.cover 0 x rfl;exact List.length_pos_of_mem ha
def insF(F:List UInt8->List UInt8):List (List UInt8)->List UInt8->List (List UInt8)
 |[],x=>[x]
 |d :: D,x=>if Op.bytesLess (F d) (F x) then d :: insF F D x else if F d=F x then d :: D else x :: d :: D
theorem yd6(F:List UInt8->List UInt8):∀ (D:List (List UInt8)) (x:List UInt8),D.Pairwise (fun a b=>Op.bytesLess (F a) (F b)=true) ->
 (insF F D x=D/\∃ a ∈ D,F a=F x)\/∃ A B,D=A++B/\insF F D x=A++x :: B/\(∀ a ∈ A,Op.bytesLess (F a) (F x)=true)/\∀ b ∈ B,Op.bytesLess (F x) (F b)=true
 |[],x=>fun _=>.inr ⟨[],[],rfl,rfl,fun _ h=>(by cases h),fun _ h=>(by cases h)⟩
 |d :: D,x=>fun h=>by
  obtain⟨h1,h2⟩:=fy.1 h;unfold insF;cases e:Op.bytesLess (F d) (F x)
  ·by_cases e2:F d=F x
   ·left
    rw[if_neg (by simp),if_pos e2];exact⟨rfl,d,by simp,e2⟩
   ·right
    rw[if_neg (by simp),if_neg e2];have e3:Op.bytesLess (F x) (F d)=true:=by
     cases e4:Op.bytesLess (F x) (F d)
     ·exact absurd (qf4 _ _ e e4) e2
     ·rfl
    refine⟨[],d :: D,rfl,rfl,fun _ h=>by(cases h),fun b hb=>?_⟩;rcases pv.1 hb with rfl|hb
    ·exact e3
    ·exact qi8 _ _ _ e3 (h1 b hb)
  ·rw[if_pos rfl];rcases yd6 F D x h2 with⟨h3,a,ha,h4⟩|⟨A,B,h3,h4,h5,h6⟩
   ·left
    rw[h3];exact⟨rfl,a,by simp[ha],h4⟩
   ·right
    refine⟨d :: A,B,by rw[h3];rfl,by rw[h4];rfl,fun a ha=>?_,h6⟩;rcases pv.1 ha with rfl|ha
    ·exact e
    ·exact h5 a ha
theorem Firsts.ins{F:List UInt8->List UInt8}{xs D:List (List UInt8)}(h:Firsts F xs D)(x:List UInt8):Firsts F (xs++[x]) (insF F D x):=by
 rcases yd6 F D x h.rise with⟨h3,a,ha,h4⟩|⟨A,B,h3,h4,h5,h6⟩
 ·rw[h3];exact h.skip ha h4
 ·rw[h4];exact Firsts.put (h3 ▸ h) h5 h6
def qs9(F:List UInt8->List UInt8)(xs:List (List UInt8)):List (List UInt8):=xs.foldl (insF F) []
theorem ya0(F:List UInt8->List UInt8):∀ (ys xs D:List (List UInt8)),Firsts F xs D->Firsts F (xs++ys) (ys.foldl (insF F) D)
 |[],xs,D=>fun h=>by rw[m6];exact h
 |y :: ys,xs,D=>fun h=>by
  have:=ya0 F ys (xs++[y]) (insF F D y) (h.ins y);rw [m9] at this;exact this
theorem yk7(F:List UInt8->List UInt8)(xs:List (List UInt8)):Firsts F xs (qs9 F xs):=by
 have:=ya0 F xs [] [] ⟨.nil,fun x=>⟨fun h=>(by cases h),fun ⟨i,hi,_⟩=>(by simp at hi)⟩⟩;exact this
def kept(F:Nat->List UInt8)(p:Nat->Nat):Nat->List Nat
 |0=>[]
 |n+1=>if n=0\/F (p n)≠F (p (n - 1)) then kept F p n++[p n] else kept F p n
theorem yv3(F:Nat->List UInt8)(p:Nat->Nat):∀ n,(kept F p n).length<=n
 |0=>pr _
 |n+1=>by
  have:=yv3 F p n;unfold kept;split
  ·simp;omega
  ·omega
theorem yq0(F:Nat->List UInt8)(p:Nat->Nat):∀ n,0<n->0<(kept F p n).length
 |0=>fun h=>absurd h (by omega)
 |1=>fun _=>by simp[kept]
 |n+2=>fun _=>by
  have:=yq0 F p (n+1) (by omega);unfold kept;split
  ·simp
  ·exact this
theorem ja2{n:Nat}{F:Nat->List UInt8}{p:Nat->Nat}(hp:Inj n p)(hr:Rise (LL (ltF F)) p 0 n):∀ m,m<=n ->
 (kept F p m).Pairwise (fun a b=>Op.bytesLess (F a) (F b)=true)/\(∀ a ∈ kept F p m,∃ i,i<m/\a=p i/\∀ j,j<n->F j=F a->a<=j)/\(∀ i,i<m->∃ a ∈ kept F p m,F a=F (p i))
 |0=>fun _=>⟨.nil,fun _ h=>(by cases h),fun i h=>absurd h (by omega)⟩
 |m+1=>fun hm=>by
  obtain⟨h1,h2,h3⟩:=ja2 hp hr m (by omega);have surj:∀ j,j<n->∃ i,i<n/\p i=j:=Inj.surj hp;unfold kept;split
  ·rename_i hne;have hne2:∀ i,i<m->Op.bytesLess (F (p i)) (F (p m))=true:=fun i hi=>by
    have hne:F (p m)≠F (p (m - 1)):=hne.resolve_left (by omega);have e1:Op.bytesLess (F (p (m - 1))) (F (p m))=true:=by
     rcases hr (m - 1) m (by omega) (by omega) (by omega) with h|⟨h,_⟩
     ·exact h
     ·cases e:Op.bytesLess (F (p (m - 1))) (F (p m))
      ·exact absurd (qf4 _ _ h e) hne
      ·rfl
    rcases oo i (m - 1) with hl|hl
    ·rcases hr i (m - 1) (by omega) hl (by omega) with h|⟨h,_⟩
     ·exact qi8 _ _ _ h e1
     ·cases e:Op.bytesLess (F (p i)) (F (p m))
      ·have:=jm7 _ _ _ h e;rw [e1] at this;cases this
      ·rfl
    ·have:i=m - 1:=by omega
     rw[this];exact e1
   refine⟨List.pairwise_append.2 ⟨h1,by simp,fun a ha b hb=>?_⟩,fun a ha=>?_,fun i hi=>?_⟩
   ·simp only [lv] at hb;subst hb;obtain⟨i,hi,rfl,_⟩:=h2 a ha;exact hne2 i hi
   ·rcases o3.1 ha with ha|ha
    ·obtain⟨i,hi,e⟩:=h2 a ha;exact⟨i,by omega,e⟩
    ·simp only [lv] at ha;subst ha;refine⟨m,by omega,rfl,fun j hj he=>?_⟩;obtain⟨i,hi,rfl⟩:=surj j hj;rcases ct i m with h|h|h
     ·have:=hne2 i h;rw [he,wu] at this;cases this
     ·rw[h];exact pr _
     ·rcases hr m i (by omega) h hi with h'|⟨_,h'⟩
      ·unfold ltF at h';rw [he,wu] at h';cases h'
      ·omega
   ·rcases oo i m with h|h
    ·obtain⟨a,ha,e⟩:=h3 i h;exact⟨a,aw _ ha,e⟩
    ·have:i=m:=by omega
     exact⟨p m,by simp,by rw[this]⟩
  ·rename_i hne;refine⟨h1,fun a ha=>?_,fun i hi=>?_⟩
   ·obtain⟨i,hi,e⟩:=h2 a ha;exact⟨i,by omega,e⟩
   ·rcases oo i m with h|h
    ·exact h3 i h
    ·have hm0:¬ m=0:=fun e=>hne (.inl e)
     have he:F (p m)=F (p (m - 1)):=Classical.byContradiction fun e=>hne (.inr e)
     have:i=m:=by omega
     rw[this,he];exact h3 (m - 1) (by omega)
theorem zk4{F:List UInt8->List UInt8}{xs:List (List UInt8)}{p:Nat->Nat}(hp:Inj xs.length p)(hr:Rise (LL (ltF fun i=>F (xs[i]?.getD []))) p 0 xs.length):Firsts F xs ((kept (fun i=>F (xs[i]?.getD [])) p xs.length).map fun i=>xs[i]?.getD []):=by
 obtain⟨h1,h2,h3⟩:=ja2 hp hr xs.length (pr _);refine⟨?_,fun x=>?_⟩
 ·rw[List.pairwise_map];exact h1
 ·rw[lz];constructor
  ·rintro ⟨a,ha,rfl⟩
   obtain⟨i,hi,rfl,hmin⟩:=h2 a ha;have hlt:=hp.lt i hi;refine⟨p i,by rw[pp hlt];rfl,fun j y hj hy e=>?_⟩;have:=hmin j (by omega) (by rw[hy];exact e);omega
  ·rintro ⟨i,hi,hf⟩
   have hil:i<xs.length:=(pq.1 hi).1;obtain⟨k,hk,e⟩:=Inj.surj hp i hil;obtain⟨a,ha,e2⟩:=h3 k hk;obtain⟨q,hq,e3,hmin⟩:=h2 a ha;have h4:=hmin i hil (by rw[e2,e]);refine⟨a,ha,?_⟩;rcases oo a i with h|h
   ·have hal:a<xs.length:=by omega
    exfalso;refine hf a (xs[a]?.getD []) h (by rw[pp hal];rfl) ?_;rw[e2,e,hi];rfl
   ·have:a=i:=by omega
    rw[this,hi];rfl
def cel(x:Nat):List DV:=[.int .i64 (x:Int)]
def rowP(n:Nat)(z:Z)(p:Nat->Nat):KB:=.row 3 1 n z (fun i=>cel (p i))
theorem qs2(q:Nat->Nat)(j y:Nat):oneF j 0 (cel y) (fun i=>cel (q i))=fun i=>cel (upd q j y i):=by
 funext i;unfold oneF upd;split
 ·rfl
 ·rfl
theorem yt7{α:Type}(q:Nat->α)(j k:Nat)(h:j<k):upd (upd q j (q k)) k (q j)=swp q j k 1:=by
 funext x;unfold upd swp;(try dsimp only);repeat' split
 all_goals first|rfl|(exfalso;omega)|(congr 1;omega)
theorem yo1(q:Nat->Nat)(j k:Nat)(h:j<k):oneF k 0 (cel (q j)) (oneF j 0 (cel (q k)) (fun x=>cel (q x)))=fun x=>cel (swp q j k 1 x):=by
 rw[qs2,qs2,yt7 q j k h]
theorem yi1(q:Nat->Nat)(j k:Nat)(h:j<k):oneF j 0 (cel (q k)) (oneF k 0 (cel (q j)) (fun x=>cel (q x)))=fun x=>cel (swp q j k 1 x):=by
 rw[qs2,qs2,<-yt7 q j k h];funext x;unfold upd;repeat' split
 all_goals first|rfl|omega|(congr 1;omega)
theorem rZ3{p:Prop}(h:p:=by repeat'(first|exact⟨rfl,rfl⟩|(refine⟨⟨by omega,by omega⟩,?_⟩;conv=>whnf)|exact ⟨⟩|apply And.intro|(conv=>whnf))):p:=h
theorem jp8(n:Nat)(hn:n<1152921504606846976)(z:Z)(p:Nat->Nat)(a b m:Nat)(ha:a+m<=n)(hb:b+m<=n)(hab:a+m<=b):COk Tryz.prog 216 [.all 0,iV a,iV b,iV m,.any] [rowP n z p] (fun s k=>s = .tup []/\k=[rowP n z (swp p a b m)]):=by
 refine jn (TT:=TT) (IN:=qe []) qg qh mixed 1000 Tryz.func216 rfl (qd Tryz.func216 (by kernel_rfl) rfl) 33 (by kernel_rfl) ?_;conv=>whnf
 refine .inv Nat (fun i=>i<=m) (fun i=>[(10,iV i)]) (fun i=>[(0,rowP n z (swp p a b i))]) (fun i=>m - i) ⟨0,[0],by omega,?_⟩ ?_
 ·conv=>whnf
  rw[yn1];exact rZ2
 intro i hi;conv=>whnf
 refine⟨fun h1=>?_,fun h1=>?_⟩
 ·have h1:i<m:=by
   have h:(i:Int)<m:=pu h1;omega
  have e1:IntKind.i64.wrap ((a:Int)+(i:Int))=((a+i:Nat):Int):=by rw[qa _ (by omega)];omega
  have e2:IntKind.i64.wrap ((b:Int)+(i:Int))=((b+i:Nat):Int):=by rw[qa _ (by omega)];omega
  conv=>whnf
  refine⟨?_,?_,?_,?_⟩;rotate_left 2
  ·conv=>whnf
   rw[e1,e2];exact rZ3
  ·conv=>whnf
   refine⟨i+1,[0],by omega,by show m - (i+1)<m - i;omega,?_⟩;have e3:=w64s i (by omega);rw[e3];conv=>whnf
   repeat'(first|exact ⟨⟩|exact rfl|exact jd _|exact .inr rfl|exact fun _ _=>rfl|exact noI|apply And.intro)
   intro x hx;rw[e1];exact(congrFun (yo1 (swp p a b i) (a+i) (b+i) (by omega)) x).trans (congrArg (fun f=>cel (f x)) (yu1 p a b i (by omega)))
 ·have h1:i=m:=by
   have h:¬ ((i:Int)<m):=pw h1;omega
  subst h1;conv=>whnf
  refine⟨[0],_,_,rfl,rfl,?_,?_,rfl,rfl⟩
  ·exact rfl
  ·conv=>whnf
   exact rZ2
theorem zv0(n:Nat)(hn:n<1152921504606846976)(z:Z)(p:Nat->Nat)(a m b:Nat)(ha:a<m)(hb:m<b)(hbn:b<=n):COk Tryz.prog 212 [.all 0,iV a,iV m,iV b,.any] [rowP n z p] (fun s k=>s = .tup []/\k=[rowP n z (rot p a m b)]):=by
 refine jn (TT:=TT) (IN:=qe []) qg qh mixed 1000 Tryz.func212 rfl (qd Tryz.func212 (by kernel_rfl) rfl) 53 (by kernel_rfl) ?_;have e1:IntKind.i64.wrap ((m:Int) - (a:Int))=((m - a:Nat):Int):=by rw[qa _ (by omega)];omega
 have e2:IntKind.i64.wrap ((b:Int) - (m:Int))=((b - m:Nat):Int):=by rw[qa _ (by omega)];omega
 conv=>whnf
 rw[e1,e2];refine .inv (Nat × Nat × (Nat->Nat)) (fun s=>0<s.1/\0<s.2.1/\s.1<=m - a/\s.2.1<=b - m/\rot s.2.2 (m - s.1) m (m+s.2.1)=rot p a m b) (fun s=>[(10,iV s.1),(11,iV s.2.1)]) (fun s=>[(0,rowP n z s.2.2)]) (fun s=>s.1+s.2.1) ⟨(m - a,b - m,p),[0],show 0<m - a/\0<b - m/\m - a<=m - a/\b - m<=b - m/\rot p (m - (m - a)) m (m+(b - m))=rot p a m b from⟨by omega,by omega,by omega,by omega,?_⟩,?_⟩ ?_
 ·rw[show m - (m - a)=a by omega,show m+(b - m)=b by omega]
 ·conv=>whnf
  exact rZ2
 intro s hs;obtain⟨i,j,q⟩:=s;obtain⟨h0,h00,him,hjb,hq⟩:=hs;dsimp only at h0 h00 him hjb hq;conv=>whnf
 refine⟨fun h1=>?_,fun h1=>?_⟩
 ·have h1:¬ i=j:=fun e=>by subst e;simp at h1
  conv=>whnf
  refine⟨fun h2=>?_,fun h2=>?_⟩
  ·have h2:j<i:=by
    have h:(i:Int) > j:=pu h2;omega
   have e3:IntKind.i64.wrap ((m:Int) - (i:Int))=((m - i:Nat):Int):=by rw[qa _ (by omega)];omega
   conv=>whnf
   rw[e3];refine .rel _ (jp8 n hn z q (m - i) m j (by omega) (by omega) (by omega)) (fun r ks' hR=>?_);obtain⟨rfl,rfl⟩:=hR;have e4:IntKind.i64.wrap ((i:Int) - (j:Int))=((i - j:Nat):Int):=by rw[qa _ (by omega)];omega
   conv=>whnf
   rw[e4];refine⟨(i - j,j,swp q (m - i) m j),[0],(show 0<i - j/\0<j/\i - j<=m - a/\j<=b - m/\rot (swp q (m - i) m j) (m - (i - j)) m (m+j)=rot p a m b from⟨by omega,by omega,by omega,by omega,(yn8 q m i j h2 (by omega)).trans hq⟩),by show i - j+j<i+j;omega,?_⟩;conv=>whnf
   exact rZ2
  ·have h2:i<j:=by
    have h:¬ ((i:Int) > j):=pw h2;omega
   have e3:IntKind.i64.wrap ((m:Int) - (i:Int))=((m - i:Nat):Int):=by rw[qa _ (by omega)];omega
   have e5:IntKind.i64.wrap (IntKind.i64.wrap ((m:Int)+(j:Int)) - (i:Int))=((m+j - i:Nat):Int):=by rw[qa ((m:Int)+j) (by omega),qa _ (by omega)];omega
   conv=>whnf
   rw[e3,e5];refine .rel _ (jp8 n hn z q (m - i) (m+j - i) i (by omega) (by omega) (by omega)) (fun r ks' hR=>?_);obtain⟨rfl,rfl⟩:=hR;have e4:IntKind.i64.wrap ((j:Int) - (i:Int))=((j - i:Nat):Int):=by rw[qa _ (by omega)];omega
   conv=>whnf
   rw[e4];refine⟨(i,j - i,swp q (m - i) (m+j - i) i),[0],(show 0<i/\0<j - i/\i<=m - a/\j - i<=b - m/\rot (swp q (m - i) (m+j - i) i) (m - i) m (m+(j - i))=rot p a m b from⟨by omega,by omega,by omega,by omega,(yh2 q m i j h2 (by omega)).trans hq⟩),by show i+(j - i)<i+j;omega,?_⟩;conv=>whnf
   exact rZ2
 ·have h1:i=j:=by simp at h1;omega
  subst h1;have e3:IntKind.i64.wrap ((m:Int) - (i:Int))=((m - i:Nat):Int):=by rw[qa _ (by omega)];omega
  conv=>whnf
  rw[e3];refine .rel _ (jp8 n hn z q (m - i) m i (by omega) (by omega) (by omega)) (fun r ks' hR=>?_);obtain⟨rfl,rfl⟩:=hR;rw[yn7 q m i (by omega),hq];conv=>whnf
  refine⟨[0],_,_,rfl,rfl,?_,?_,rfl,rfl⟩
  ·exact rfl
  ·conv=>whnf
   exact rZ2
def upN(n:List UInt8):List UInt8:=n.drop (1+bt n 0)
def qw(n:List UInt8):List UInt8 × Int:=if qb n then (if n=[0] then ([],3) else (upN n,0)) else ([],2)
theorem wl{n:List UInt8}(h:qb n)(hn:n≠[0]):1+bt n 0<=n.length/\bt n 0<=63:=by
 obtain⟨h1,h2,h3⟩:=z7 h;cases hl:labN n with
 |nil=>rw [hl] at h3;exact absurd h3 hn
 |cons l ls =>
  rw [hl] at h2 h3;have hok:=h2 l (by simp);have hb:bt n 0=l.length:=by rw[h3];exact qb1 l (mk ls) hok
  rw[hb];have:=hok.2;refine⟨?_,this⟩;conv=>rhs;rw[h3]
  show _<=(lab l++mk ls).length;rw[py,kz];omega
theorem rZ4{p:Prop}(h:p:=by repeat'(first|exact ⟨⟩|exact rfl|exact .inr rfl|exact .inl rfl|exact fun _ _=>rfl|exact noI|apply And.intro)):p:=h
theorem w7(n:List UInt8):FnOk Tryz.prog 198 [.d (.str n)] (.tup [.d (.str (qw n).1),.d (.int .i64 (qw n).2)]):=by
 refine qu (TT:=TT) (IN:=qe []) qg qh mixed 1000 Tryz.func198 rfl (qd Tryz.func198 (by kernel_rfl) rfl) rfl 14 (by kernel_rfl) ?_;conv=>whnf
 refine oD (yq n) rfl rfl ?_;by_cases hn:qb n
 ·rw[if_pos hn];conv=>whnf
  refine brF rfl ?_;conv=>whnf
  refine⟨fun h1=>?_,fun h1=>?_⟩
  ·have h1:n=[0]:=by simpa using h1
   rw[show qw n=([],3) by unfold qw;rw[if_pos hn,if_pos h1]];conv=>whnf
   exact rZ4
  ·have h1:n≠[0]:=by simpa using h1
   rw[show qw n=(upN n,0) by unfold qw;rw[if_pos hn,if_neg h1]];obtain⟨k1,k2⟩:=wl hn h1;have hpos:=hn.1;have e1:IntKind.i64.wrap (1+IntKind.i64.wrap (jc n 0))=((1+bt n 0:Nat):Int):=by
    have:=yo n 0;rw [show ((0:Nat):Int)=0 from rfl] at this;rw[this,qa (bt n 0:Int) (by omega),qa _ (by omega)];omega
   conv=>whnf
   refine⟨by omega,?_⟩;conv=>whnf
   rw[e1];refine⟨by omega,?_⟩;conv=>whnf
   rw[qi1];exact rZ4
 ·rw[if_neg hn];rw[show qw n=([],2) by unfold qw;rw[if_neg hn]];conv=>whnf
  refine brT rfl ?_;conv=>whnf
  exact rZ4
theorem w9{n:List UInt8}(h:qb n)(hn:n≠[0]):qb (upN n):=by
 obtain⟨h1,h2,h3⟩:=z7 h;cases hl:labN n with
 |nil=>rw [hl] at h3;exact absurd h3 hn
 |cons l ls =>
  rw [hl] at h2 h3;have hok:=h2 l (by simp);have hb:bt n 0=l.length:=by rw[h3];exact qb1 l (mk ls) hok
  have hu:upN n=mk ls:=by
   unfold upN;rw[hb,h3];show(UInt8.ofNat l.length :: (l++mk ls)).drop (1+l.length)=_;rw[Nat.add_comm,List.drop_succ_cons,List.drop_left]
  rw[hu];refine(jk0 _).2 ⟨?_,ls,fun x hx=>h2 x (by simp[hx]),rfl⟩;rw [h3] at h1;have:(mk (l :: ls)).length=(lab l).length+(mk ls).length:=by
   show(lab l++mk ls).length=_;rw[py]
  omega
theorem COk.frameX{P:Program}{f:FuncId}{as0:List SV}{ks0:List KB}{R0:SV->List KB->Prop}(h:COk P f as0 ks0 R0)(is:List Nat){al:List SV}{ks:List KB}
 (hok:okN (lenB ks) is=true) (ha:mapL (sig is (lenB ks)) as0=al) (hk:qc0 ks is=mapB (sig is (lenB ks)) ks0):COk P f al ks (fun s k=>∃ s0 k0,R0 s0 k0/\s=mapV (sig is (lenB ks)) s0/\k=qf9 ks is (mapB (sig is (lenB ks)) k0)) :=
 COk.frame h is hok ha hk (fun s0 k0 h=>⟨s0,k0,h,rfl,rfl⟩)
theorem jc8{K V:Type}{ek:K->List DV}{ev:V->List SV}{σ:Nat->Nat}(hv:∀ v,mapL σ (ev v)=ev v):∀ l:List (K × V),mapM σ (aenc ek ev l)=aenc ek ev l
 |[]=>rfl
 |e :: l=>by
  show(ek e.1,mapL σ (ev e.2)) :: mapM σ (aenc ek ev l)=(ek e.1,ev e.2) :: aenc ek ev l;rw[hv,jc8 hv l]
theorem qm4{K V:Type}{ek:K->List DV}{ev:V->List SV}{ρ:List Nat}(hv:∀ v,renL ρ (ev v)=ev v):∀ l:List (K × V),renM ρ (aenc ek ev l)=aenc ek ev l
 |[]=>rfl
 |e :: l=>by
  show(ek e.1,renL ρ (ev e.2)) :: renM ρ (aenc ek ev l)=(ek e.1,ev e.2) :: aenc ek ev l;rw[hv,qm4 hv l]
def intV(n:Nat):List SV:=[.d (.int .i64 (n:Nat))]
def xu9(z:Zo)(i:Nat):KB:=.cells 128 [.d (.str z.apex),.d (rrsD z.z z.rrs),.map i,.map (i+1)]
def vi(S:List ((List UInt8 × Int × Int × List UInt8) × Nat)):KB:=.map [.str,.int .u16,.int .u16,.str] true false (aenc xg intV S)
def we(N:List (List UInt8 × Hd))(st:MS):KB:=.mapx [.str] false true (aenc strK Hd.enc N) st
def lookK(z:Zo)(S:List ((List UInt8 × Int × Int × List UInt8) × Nat))(N:List (List UInt8 × Hd))(st:MS):List KB:=[xu9 z 1,vi S,we N st]
theorem yn4{ρ:List Nat}(S:List ((List UInt8 × Int × Int × List UInt8) × Nat)):renM ρ (aenc xg intV S)=aenc xg intV S:=qm4 (fun _=>rfl) S
theorem qs3{ρ:List Nat}(N:List (List UInt8 × Hd)):renM ρ (aenc strK Hd.enc N)=aenc strK Hd.enc N:=qm4 (fun _=>rfl) N
theorem jn4{σ:Nat->Nat}(S:List ((List UInt8 × Int × Int × List UInt8) × Nat)):mapM σ (aenc xg intV S)=aenc xg intV S:=jc8 (fun _=>rfl) S
theorem jn9{σ:Nat->Nat}(N:List (List UInt8 × Hd)):mapM σ (aenc strK Hd.enc N)=aenc strK Hd.enc N:=jc8 (fun _=>rfl) N
theorem zx4(N:List (List UInt8 × Hd))(st:MS)(ρ:List Nat):SubK (renK ρ (we N st)) (we N st):=by
 cases st
 ·exact⟨⟨rfl,rfl,rfl⟩,qs3 N⟩
 ·exact⟨⟨⟨rfl,rfl,rfl⟩,qs3 N⟩,rfl⟩
 ·exact⟨⟨⟨rfl,rfl,rfl⟩,qs3 N⟩,rfl⟩
theorem ux(p:RR->Bool)(l:List RR)(n:List UInt8):cntZ p l n<=l.length:=d9 _ _
theorem rZ5{p:Prop}(h:p:=by repeat'(first|exact ⟨⟩|exact rfl|exact jd _|exact .inr rfl|exact fun _ _=>rfl|exact noI|apply And.intro|exact yn4 _|exact qs3 _|exact zx4 _ _ _)):p:=h
theorem xo5(z:Zo)(S:List ((List UInt8 × Int × Int × List UInt8) × Nat))(l:List RR)(hl:l.length<=300)(st:MS)(name top:List UInt8)(hn:qb name) :
 COk Tryz.prog 141 [.ptr 0 0,.d (.str name),.d (.str top),.agg (j5 l name).enc] (lookK z S (qc l) st) (fun s k=>s = .d (.bool (qz l top name))/\k=lookK z S (qc l) st):=by
 refine jn (TT:=TT) (IN:=qe [(176,Tryz.f176,1),(197,Tryz.f197,2)]) qg (jh (jh qh Tryz.func197 (by kernel_rfl) (by kernel_rfl)) Tryz.func176 (by kernel_rfl) (by kernel_rfl)) mixed 1000 Tryz.func141 rfl (qd Tryz.func141 (by kernel_rfl) rfl) 59 (by kernel_rfl) ?_;have b1:=ux anyR l name;have b2:=ux zv l name;have b3:=ux isNs l name;have b4:=ux vu l name;have b5:=ux j4 l name;conv=>whnf
 refine⟨fun h1=>?_,fun h1=>?_⟩
 ·have h1:0<cntZ vu l name:=by
   have h:((cntZ vu l name:Nat):Int) > 0:=pu h1;omega
  conv=>whnf
  refine⟨fun h2=>?_,fun h2=>?_⟩
  ·have h2:1<cntZ anyR l name:=by
    have h:((cntZ anyR l name:Nat):Int) > 1:=pu h2;omega
   have hf:qz l top name=false:=by unfold qz;rw[if_pos ⟨h1,h2⟩]
   conv=>whnf
   rw[hf];refine⟨[0,1,2],_,lookK z S (qc l) st,rfl,rfl,?_,?_,rfl,rfl⟩
   ·exact rfl
   ·conv=>whnf
    exact rZ5
  ·have h2:¬ 1<cntZ anyR l name:=by
    have h:¬ ((cntZ anyR l name:Nat):Int) > 1:=pw h2;omega
   have hA:¬ (0<cntZ vu l name/\1<cntZ anyR l name):=fun h=>h2 h.2
   conv=>whnf
   refine⟨fun h3=>?_,fun h3=>?_⟩
   ·have h3:name=top:=by simpa using h3
    have hf:qz l top name=true:=by unfold qz;rw[if_neg hA,if_pos h3]
    conv=>whnf
    rw[hf];refine⟨[0,1,2],_,lookK z S (qc l) st,rfl,rfl,?_,?_,rfl,rfl⟩
    ·exact rfl
    ·conv=>whnf
     exact rZ5
   ·have h3:name≠top:=by simpa using h3
    conv=>whnf
    refine⟨fun h4=>?_,fun h4=>?_⟩
    ·have h4:0<cntZ zv l name:=by
      have h:((cntZ zv l name:Nat):Int) > 0:=pu h4;omega
     have hf:qz l top name=false:=by unfold qz;rw[if_neg hA,if_neg h3,if_pos (.inl h4)]
     conv=>whnf
     rw[hf];refine⟨[0,1,2],_,lookK z S (qc l) st,rfl,rfl,?_,?_,rfl,rfl⟩
     ·exact rfl
     ·conv=>whnf
      exact rZ5
    ·have h4:¬ 0<cntZ zv l name:=by
      have h:¬ ((cntZ zv l name:Nat):Int) > 0:=pw h4;omega
     conv=>whnf
     refine⟨fun h5=>?_,fun h5=>?_⟩
     ·have h5:0<cntZ isNs l name:=by
       have h:((cntZ isNs l name:Nat):Int) > 0:=pu h5;omega
      have hw:IntKind.i64.wrap (((j5 l name).ns:Nat)+((j5 l name).addr:Nat):Int)=((cntZ isNs l name+cntZ j4 l name:Nat):Int):=by
       show IntKind.i64.wrap (((cntZ isNs l name:Nat):Int)+((cntZ j4 l name:Nat):Int))=_;rw[qa _ (by omega)];omega
      conv=>whnf
      rw[hw];refine⟨fun h6=>?_,fun h6=>?_⟩
      ·have h6:cntZ isNs l name+cntZ j4 l name<cntZ anyR l name:=by
        have h:((cntZ anyR l name:Nat):Int) > ((cntZ isNs l name+cntZ j4 l name:Nat):Int):=pu h6;omega
       have hf:qz l top name=false:=by unfold qz;rw[if_neg hA,if_neg h3,if_pos (.inr ⟨h5,h6⟩)]
       conv=>whnf
       rw[hf];refine⟨[0,1,2],_,lookK z S (qc l) st,rfl,rfl,?_,?_,rfl,rfl⟩
       ·exact rfl
       ·conv=>whnf
        exact rZ5
      ·have h6:¬ cntZ isNs l name+cntZ j4 l name<cntZ anyR l name:=by
        have h:¬ ((cntZ anyR l name:Nat):Int) > ((cntZ isNs l name+cntZ j4 l name:Nat):Int):=pw h6;omega
       have hf:qz l top name=xe l name top (upsN name):=by unfold qz;rw[if_neg hA,if_neg h3,if_neg (fun h=>h.elim h4 (fun h=>h6 h.2))]
       conv=>whnf
       refine oD (yq name) rfl rfl ?_;rw[if_pos hn];conv=>whnf
       refine brF rfl ?_;conv=>whnf
       refine .inv (List UInt8 × Nat) (fun s=>qb s.1/\s.1.length<=s.2/\xe l name top (upsF s.2 s.1)=qz l top name) (fun s=>[(3,.d (.str s.1))]) (fun s=>[]) (fun s=>s.2) ⟨(name,name.length),[0,1,2,3,4,5,6,7,8,9],⟨hn,pr _,by rw[hf];unfold upsN;rw[if_pos hn]⟩,?_⟩ ?_
       ·conv=>whnf
        exact rZ5
       clear hf;intro s hs;obtain⟨g1,g2,g3⟩:=hs;conv=>whnf
       generalize s.1=n at g1 g2 g3 ⊢;generalize s.2=k at g2 g3 ⊢;obtain⟨k,rfl⟩:∃ k',k=k'+1:=⟨k - 1,by have:=g1.1;omega⟩;have hc:xe l name top (upsF (k+1) n)=if n=top then true else if n≠name/\0<cntZ isNs l n then cntZ anyR l name == cntZ j4 l name else xe l name top (if n=[0] then [] else upsF k (n.drop (1+bt n 0))):=rfl;refine⟨fun g4=>?_,fun g4=>?_⟩
       ·have g4:n=top:=by simpa using g4
        have hf:qz l top name=true:=by rw[<-g3,hc,if_pos g4]
        conv=>whnf
        rw[hf];refine⟨[0,1,2],_,lookK z S (qc l) st,rfl,rfl,?_,?_,rfl,rfl⟩
        ·exact rfl
        ·conv=>whnf
         exact rZ5
       ·have g4:n≠top:=by simpa using g4
        rw [if_neg g4] at hc;conv=>whnf
        refine⟨fun g5=>?_,fun g5=>?_⟩
        ·have g5:n≠name:=by simpa using g5
         conv=>whnf
         have hg:=qh9 l n;cases ha:aget (qc l) n with
         |none =>
          rw [ha] at hg;have hns:cntZ isNs l n=0:=(congrArg Hd.ns hg).symm;rw [if_neg (fun h=>by rw [hns] at h;exact absurd h.2 (c9 0))] at hc;refine ⟨none,by have:=zy (ev:=Hd.enc) y8 (qc l) n;rw [ha] at this;exact this,?_⟩;conv=>whnf
          refine brF rfl ?_;conv=>whnf
          refine oD (w7 n) rfl rfl ?_;by_cases hz:n=[0]
          ·have hp:qw n=([],3):=by unfold qw;rw[if_pos g1,if_pos hz]
           have hf:qz l top name=true:=by rw[<-g3,hc,if_pos hz];rfl
           rw[hp];conv=>whnf
           refine brT rfl ?_;conv=>whnf
           rw[hf];refine⟨[0,1,2],_,lookK z S (qc l) st,rfl,rfl,?_,?_,rfl,rfl⟩
           ·exact rfl
           ·conv=>whnf
            exact rZ5
          ·have hp:qw n=(upN n,0):=by unfold qw;rw[if_pos g1,if_neg hz]
           rw [if_neg hz] at hc;rw[hp];conv=>whnf
           refine brF rfl ?_;conv=>whnf
           refine⟨(upN n,k),[0,1,2,3,4,5,6,7,8,9],⟨w9 g1 hz,?_,?_⟩,l5 k,?_⟩
           ·have:=wl g1 hz;show(upN n).length<=k;unfold upN;rw[o7];omega
           ·exact(by rw[<-g3,hc];rfl)
           ·conv=>whnf
            exact rZ5
         |some h0 =>
          rw [ha] at hg;have hns:h0.ns=cntZ isNs l n:=congrArg Hd.ns hg;refine ⟨some h0.enc,by have:=zy (ev:=Hd.enc) y8 (qc l) n;rw [ha] at this;exact this,?_⟩;conv=>whnf
          refine⟨fun g6=>?_,fun g6=>?_⟩
          ·have g6:0<cntZ isNs l n:=by
            have h:((h0.ns:Nat):Int) > 0:=pu g6;omega
           have hf:qz l top name=((((j5 l name).all:Nat):Int) == (((j5 l name).addr:Nat):Int)):=by
            rw[<-g3,hc,if_pos ⟨g5,g6⟩,ly,mw,mw];show(cntZ anyR l name=cntZ j4 l name)↔((cntZ anyR l name:Nat):Int)=((cntZ j4 l name:Nat):Int);omega
           conv=>whnf
           rw[hf];refine⟨[0,1,2],_,lookK z S (qc l) st,rfl,rfl,?_,?_,rfl,rfl⟩
           ·exact rfl
           ·conv=>whnf
            exact rZ5
          ·have g6:¬ 0<cntZ isNs l n:=by
            have h:¬ ((h0.ns:Nat):Int) > 0:=pw g6;omega
           rw [if_neg (fun h=>g6 h.2)] at hc;conv=>whnf
           refine oD (w7 n) rfl rfl ?_;by_cases hz:n=[0]
           ·have hp:qw n=([],3):=by unfold qw;rw[if_pos g1,if_pos hz]
            have hf:qz l top name=true:=by rw[<-g3,hc,if_pos hz];rfl
            rw[hp];conv=>whnf
            refine brT rfl ?_;conv=>whnf
            rw[hf];refine⟨[0,1,2],_,lookK z S (qc l) st,rfl,rfl,?_,?_,rfl,rfl⟩
            ·exact rfl
            ·conv=>whnf
             exact rZ5
           ·have hp:qw n=(upN n,0):=by unfold qw;rw[if_pos g1,if_neg hz]
            rw [if_neg hz] at hc;rw[hp];conv=>whnf
            refine brF rfl ?_;conv=>whnf
            refine⟨(upN n,k),[0,1,2,3,4,5,6,7,8,9],⟨w9 g1 hz,?_,?_⟩,l5 k,?_⟩
            ·have:=wl g1 hz;show(upN n).length<=k;unfold upN;rw[o7];omega
            ·exact(by rw[<-g3,hc];rfl)
            ·conv=>whnf
             exact rZ5
        ·have g5:n=name:=by simpa using g5
         rw [if_neg (fun h=>h.1 g5)] at hc;conv=>whnf
         refine oD (w7 n) rfl rfl ?_;by_cases hz:n=[0]
         ·have hp:qw n=([],3):=by unfold qw;rw[if_pos g1,if_pos hz]
          have hf:qz l top name=true:=by rw[<-g3,hc,if_pos hz];rfl
          rw[hp];conv=>whnf
          refine brT rfl ?_;conv=>whnf
          rw[hf];refine⟨[0,1,2],_,lookK z S (qc l) st,rfl,rfl,?_,?_,rfl,rfl⟩
          ·exact rfl
          ·conv=>whnf
           exact rZ5
         ·have hp:qw n=(upN n,0):=by unfold qw;rw[if_pos g1,if_neg hz]
          rw [if_neg hz] at hc;rw[hp];conv=>whnf
          refine brF rfl ?_;conv=>whnf
          refine⟨(upN n,k),[0,1,2,3,4,5,6,7,8,9],⟨w9 g1 hz,?_,?_⟩,l5 k,?_⟩
          ·have:=wl g1 hz;show(upN n).length<=k;unfold upN;rw[o7];omega
          ·exact(by rw[<-g3,hc];rfl)
          ·conv=>whnf
           exact rZ5
     ·have h5:¬ 0<cntZ isNs l name:=by
       have h:¬ ((cntZ isNs l name:Nat):Int) > 0:=pw h5;omega
      have hf:qz l top name=xe l name top (upsN name):=by unfold qz;rw[if_neg hA,if_neg h3,if_neg (fun h=>h.elim h4 (fun h=>h5 h.1))]
      conv=>whnf
      refine oD (yq name) rfl rfl ?_;rw[if_pos hn];conv=>whnf
      refine brF rfl ?_;conv=>whnf
      refine .inv (List UInt8 × Nat) (fun s=>qb s.1/\s.1.length<=s.2/\xe l name top (upsF s.2 s.1)=qz l top name) (fun s=>[(3,.d (.str s.1))]) (fun s=>[]) (fun s=>s.2) ⟨(name,name.length),[0,1,2,3,4,5,6,7,8,9],⟨hn,pr _,by rw[hf];unfold upsN;rw[if_pos hn]⟩,?_⟩ ?_
      ·conv=>whnf
       exact rZ5
      clear hf;intro s hs;obtain⟨g1,g2,g3⟩:=hs;conv=>whnf
      generalize s.1=n at g1 g2 g3 ⊢;generalize s.2=k at g2 g3 ⊢;obtain⟨k,rfl⟩:∃ k',k=k'+1:=⟨k - 1,by have:=g1.1;omega⟩;have hc:xe l name top (upsF (k+1) n)=if n=top then true else if n≠name/\0<cntZ isNs l n then cntZ anyR l name == cntZ j4 l name else xe l name top (if n=[0] then [] else upsF k (n.drop (1+bt n 0))):=rfl;refine⟨fun g4=>?_,fun g4=>?_⟩
      ·have g4:n=top:=by simpa using g4
       have hf:qz l top name=true:=by rw[<-g3,hc,if_pos g4]
       conv=>whnf
       rw[hf];refine⟨[0,1,2],_,lookK z S (qc l) st,rfl,rfl,?_,?_,rfl,rfl⟩
       ·exact rfl
       ·conv=>whnf
        exact rZ5
      ·have g4:n≠top:=by simpa using g4
       rw [if_neg g4] at hc;conv=>whnf
       refine⟨fun g5=>?_,fun g5=>?_⟩
       ·have g5:n≠name:=by simpa using g5
        conv=>whnf
        have hg:=qh9 l n;cases ha:aget (qc l) n with
        |none =>
         rw [ha] at hg;have hns:cntZ isNs l n=0:=(congrArg Hd.ns hg).symm;rw [if_neg (fun h=>by rw [hns] at h;exact absurd h.2 (c9 0))] at hc;refine ⟨none,by have:=zy (ev:=Hd.enc) y8 (qc l) n;rw [ha] at this;exact this,?_⟩;conv=>whnf
         refine brF rfl ?_;conv=>whnf
         refine oD (w7 n) rfl rfl ?_;by_cases hz:n=[0]
         ·have hp:qw n=([],3):=by unfold qw;rw[if_pos g1,if_pos hz]
          have hf:qz l top name=true:=by rw[<-g3,hc,if_pos hz];rfl
          rw[hp];conv=>whnf
          refine brT rfl ?_;conv=>whnf
          rw[hf];refine⟨[0,1,2],_,lookK z S (qc l) st,rfl,rfl,?_,?_,rfl,rfl⟩
          ·exact rfl
          ·conv=>whnf
           exact rZ5
         ·have hp:qw n=(upN n,0):=by unfold qw;rw[if_pos g1,if_neg hz]
          rw [if_neg hz] at hc;rw[hp];conv=>whnf
          refine brF rfl ?_;conv=>whnf
          refine⟨(upN n,k),[0,1,2,3,4,5,6,7,8,9],⟨w9 g1 hz,?_,?_⟩,l5 k,?_⟩
          ·have:=wl g1 hz;show(upN n).length<=k;unfold upN;rw[o7];omega
          ·exact(by rw[<-g3,hc];rfl)
          ·conv=>whnf
           exact rZ5
        |some h0 =>
         rw [ha] at hg;have hns:h0.ns=cntZ isNs l n:=congrArg Hd.ns hg;refine ⟨some h0.enc,by have:=zy (ev:=Hd.enc) y8 (qc l) n;rw [ha] at this;exact this,?_⟩;conv=>whnf
         refine⟨fun g6=>?_,fun g6=>?_⟩
         ·have g6:0<cntZ isNs l n:=by
           have h:((h0.ns:Nat):Int) > 0:=pu g6;omega
          have hf:qz l top name=((((j5 l name).all:Nat):Int) == (((j5 l name).addr:Nat):Int)):=by
           rw[<-g3,hc,if_pos ⟨g5,g6⟩,ly,mw,mw];show(cntZ anyR l name=cntZ j4 l name)↔((cntZ anyR l name:Nat):Int)=((cntZ j4 l name:Nat):Int);omega
          conv=>whnf
          rw[hf];refine⟨[0,1,2],_,lookK z S (qc l) st,rfl,rfl,?_,?_,rfl,rfl⟩
          ·exact rfl
          ·conv=>whnf
           exact rZ5
         ·have g6:¬ 0<cntZ isNs l n:=by
           have h:¬ ((h0.ns:Nat):Int) > 0:=pw g6;omega
          rw [if_neg (fun h=>g6 h.2)] at hc;conv=>whnf
          refine oD (w7 n) rfl rfl ?_;by_cases hz:n=[0]
          ·have hp:qw n=([],3):=by unfold qw;rw[if_pos g1,if_pos hz]
           have hf:qz l top name=true:=by rw[<-g3,hc,if_pos hz];rfl
           rw[hp];conv=>whnf
           refine brT rfl ?_;conv=>whnf
           rw[hf];refine⟨[0,1,2],_,lookK z S (qc l) st,rfl,rfl,?_,?_,rfl,rfl⟩
           ·exact rfl
           ·conv=>whnf
            exact rZ5
          ·have hp:qw n=(upN n,0):=by unfold qw;rw[if_pos g1,if_neg hz]
           rw [if_neg hz] at hc;rw[hp];conv=>whnf
           refine brF rfl ?_;conv=>whnf
           refine⟨(upN n,k),[0,1,2,3,4,5,6,7,8,9],⟨w9 g1 hz,?_,?_⟩,l5 k,?_⟩
           ·have:=wl g1 hz;show(upN n).length<=k;unfold upN;rw[o7];omega
           ·exact(by rw[<-g3,hc];rfl)
           ·conv=>whnf
            exact rZ5
       ·have g5:n=name:=by simpa using g5
        rw [if_neg (fun h=>h.1 g5)] at hc;conv=>whnf
        refine oD (w7 n) rfl rfl ?_;by_cases hz:n=[0]
        ·have hp:qw n=([],3):=by unfold qw;rw[if_pos g1,if_pos hz]
         have hf:qz l top name=true:=by rw[<-g3,hc,if_pos hz];rfl
         rw[hp];conv=>whnf
         refine brT rfl ?_;conv=>whnf
         rw[hf];refine⟨[0,1,2],_,lookK z S (qc l) st,rfl,rfl,?_,?_,rfl,rfl⟩
         ·exact rfl
         ·conv=>whnf
          exact rZ5
        ·have hp:qw n=(upN n,0):=by unfold qw;rw[if_pos g1,if_neg hz]
         rw [if_neg hz] at hc;rw[hp];conv=>whnf
         refine brF rfl ?_;conv=>whnf
         refine⟨(upN n,k),[0,1,2,3,4,5,6,7,8,9],⟨w9 g1 hz,?_,?_⟩,l5 k,?_⟩
         ·have:=wl g1 hz;show(upN n).length<=k;unfold upN;rw[o7];omega
         ·exact(by rw[<-g3,hc];rfl)
         ·conv=>whnf
          exact rZ5
 ·have h1:¬ 0<cntZ vu l name:=by
   have h:¬ ((cntZ vu l name:Nat):Int) > 0:=pw h1;omega
  have hA:¬ (0<cntZ vu l name/\1<cntZ anyR l name):=fun h=>h1 h.1
  conv=>whnf
  refine⟨fun h3=>?_,fun h3=>?_⟩
  ·have h3:name=top:=by simpa using h3
   have hf:qz l top name=true:=by unfold qz;rw[if_neg hA,if_pos h3]
   conv=>whnf
   rw[hf];refine⟨[0,1,2],_,lookK z S (qc l) st,rfl,rfl,?_,?_,rfl,rfl⟩
   ·exact rfl
   ·conv=>whnf
    exact rZ5
  ·have h3:name≠top:=by simpa using h3
   conv=>whnf
   refine⟨fun h4=>?_,fun h4=>?_⟩
   ·have h4:0<cntZ zv l name:=by
     have h:((cntZ zv l name:Nat):Int) > 0:=pu h4;omega
    have hf:qz l top name=false:=by unfold qz;rw[if_neg hA,if_neg h3,if_pos (.inl h4)]
    conv=>whnf
    rw[hf];refine⟨[0,1,2],_,lookK z S (qc l) st,rfl,rfl,?_,?_,rfl,rfl⟩
    ·exact rfl
    ·conv=>whnf
     exact rZ5
   ·have h4:¬ 0<cntZ zv l name:=by
     have h:¬ ((cntZ zv l name:Nat):Int) > 0:=pw h4;omega
    conv=>whnf
    refine⟨fun h5=>?_,fun h5=>?_⟩
    ·have h5:0<cntZ isNs l name:=by
      have h:((cntZ isNs l name:Nat):Int) > 0:=pu h5;omega
     have hw:IntKind.i64.wrap (((j5 l name).ns:Nat)+((j5 l name).addr:Nat):Int)=((cntZ isNs l name+cntZ j4 l name:Nat):Int):=by
      show IntKind.i64.wrap (((cntZ isNs l name:Nat):Int)+((cntZ j4 l name:Nat):Int))=_;rw[qa _ (by omega)];omega
     conv=>whnf
     rw[hw];refine⟨fun h6=>?_,fun h6=>?_⟩
     ·have h6:cntZ isNs l name+cntZ j4 l name<cntZ anyR l name:=by
       have h:((cntZ anyR l name:Nat):Int) > ((cntZ isNs l name+cntZ j4 l name:Nat):Int):=pu h6;omega
      have hf:qz l top name=false:=by unfold qz;rw[if_neg hA,if_neg h3,if_pos (.inr ⟨h5,h6⟩)]
      conv=>whnf
      rw[hf];refine⟨[0,1,2],_,lookK z S (qc l) st,rfl,rfl,?_,?_,rfl,rfl⟩
      ·exact rfl
      ·conv=>whnf
       exact rZ5
     ·have h6:¬ cntZ isNs l name+cntZ j4 l name<cntZ anyR l name:=by
       have h:¬ ((cntZ anyR l name:Nat):Int) > ((cntZ isNs l name+cntZ j4 l name:Nat):Int):=pw h6;omega
      have hf:qz l top name=xe l name top (upsN name):=by unfold qz;rw[if_neg hA,if_neg h3,if_neg (fun h=>h.elim h4 (fun h=>h6 h.2))]
      conv=>whnf
      refine oD (yq name) rfl rfl ?_;rw[if_pos hn];conv=>whnf
      refine brF rfl ?_;conv=>whnf
      refine .inv (List UInt8 × Nat) (fun s=>qb s.1/\s.1.length<=s.2/\xe l name top (upsF s.2 s.1)=qz l top name) (fun s=>[(3,.d (.str s.1))]) (fun s=>[]) (fun s=>s.2) ⟨(name,name.length),[0,1,2,3,4,5,6,7,8,9],⟨hn,pr _,by rw[hf];unfold upsN;rw[if_pos hn]⟩,?_⟩ ?_
      ·conv=>whnf
       exact rZ5
      clear hf;intro s hs;obtain⟨g1,g2,g3⟩:=hs;conv=>whnf
      generalize s.1=n at g1 g2 g3 ⊢;generalize s.2=k at g2 g3 ⊢;obtain⟨k,rfl⟩:∃ k',k=k'+1:=⟨k - 1,by have:=g1.1;omega⟩;have hc:xe l name top (upsF (k+1) n)=if n=top then true else if n≠name/\0<cntZ isNs l n then cntZ anyR l name == cntZ j4 l name else xe l name top (if n=[0] then [] else upsF k (n.drop (1+bt n 0))):=rfl;refine⟨fun g4=>?_,fun g4=>?_⟩
      ·have g4:n=top:=by simpa using g4
       have hf:qz l top name=true:=by rw[<-g3,hc,if_pos g4]
       conv=>whnf
       rw[hf];refine⟨[0,1,2],_,lookK z S (qc l) st,rfl,rfl,?_,?_,rfl,rfl⟩
       ·exact rfl
       ·conv=>whnf
        exact rZ5
      ·have g4:n≠top:=by simpa using g4
       rw [if_neg g4] at hc;conv=>whnf
       refine⟨fun g5=>?_,fun g5=>?_⟩
       ·have g5:n≠name:=by simpa using g5
        conv=>whnf
        have hg:=qh9 l n;cases ha:aget (qc l) n with
        |none =>
         rw [ha] at hg;have hns:cntZ isNs l n=0:=(congrArg Hd.ns hg).symm;rw [if_neg (fun h=>by rw [hns] at h;exact absurd h.2 (c9 0))] at hc;refine ⟨none,by have:=zy (ev:=Hd.enc) y8 (qc l) n;rw [ha] at this;exact this,?_⟩;conv=>whnf
         refine brF rfl ?_;conv=>whnf
         refine oD (w7 n) rfl rfl ?_;by_cases hz:n=[0]
         ·have hp:qw n=([],3):=by unfold qw;rw[if_pos g1,if_pos hz]
          have hf:qz l top name=true:=by rw[<-g3,hc,if_pos hz];rfl
          rw[hp];conv=>whnf
          refine brT rfl ?_;conv=>whnf
          rw[hf];refine⟨[0,1,2],_,lookK z S (qc l) st,rfl,rfl,?_,?_,rfl,rfl⟩
          ·exact rfl
          ·conv=>whnf
           exact rZ5
         ·have hp:qw n=(upN n,0):=by unfold qw;rw[if_pos g1,if_neg hz]
          rw [if_neg hz] at hc;rw[hp];conv=>whnf
          refine brF rfl ?_;conv=>whnf
          refine⟨(upN n,k),[0,1,2,3,4,5,6,7,8,9],⟨w9 g1 hz,?_,?_⟩,l5 k,?_⟩
          ·have:=wl g1 hz;show(upN n).length<=k;unfold upN;rw[o7];omega
          ·exact(by rw[<-g3,hc];rfl)
          ·conv=>whnf
           exact rZ5
        |some h0 =>
         rw [ha] at hg;have hns:h0.ns=cntZ isNs l n:=congrArg Hd.ns hg;refine ⟨some h0.enc,by have:=zy (ev:=Hd.enc) y8 (qc l) n;rw [ha] at this;exact this,?_⟩;conv=>whnf
         refine⟨fun g6=>?_,fun g6=>?_⟩
         ·have g6:0<cntZ isNs l n:=by
           have h:((h0.ns:Nat):Int) > 0:=pu g6;omega
          have hf:qz l top name=((((j5 l name).all:Nat):Int) == (((j5 l name).addr:Nat):Int)):=by
           rw[<-g3,hc,if_pos ⟨g5,g6⟩,ly,mw,mw];show(cntZ anyR l name=cntZ j4 l name)↔((cntZ anyR l name:Nat):Int)=((cntZ j4 l name:Nat):Int);omega
          conv=>whnf
          rw[hf];refine⟨[0,1,2],_,lookK z S (qc l) st,rfl,rfl,?_,?_,rfl,rfl⟩
          ·exact rfl
          ·conv=>whnf
           exact rZ5
         ·have g6:¬ 0<cntZ isNs l n:=by
           have h:¬ ((h0.ns:Nat):Int) > 0:=pw g6;omega
          rw [if_neg (fun h=>g6 h.2)] at hc;conv=>whnf
          refine oD (w7 n) rfl rfl ?_;by_cases hz:n=[0]
          ·have hp:qw n=([],3):=by unfold qw;rw[if_pos g1,if_pos hz]
           have hf:qz l top name=true:=by rw[<-g3,hc,if_pos hz];rfl
           rw[hp];conv=>whnf
           refine brT rfl ?_;conv=>whnf
           rw[hf];refine⟨[0,1,2],_,lookK z S (qc l) st,rfl,rfl,?_,?_,rfl,rfl⟩
           ·exact rfl
           ·conv=>whnf
            exact rZ5
          ·have hp:qw n=(upN n,0):=by unfold qw;rw[if_pos g1,if_neg hz]
           rw [if_neg hz] at hc;rw[hp];conv=>whnf
           refine brF rfl ?_;conv=>whnf
           refine⟨(upN n,k),[0,1,2,3,4,5,6,7,8,9],⟨w9 g1 hz,?_,?_⟩,l5 k,?_⟩
           ·have:=wl g1 hz;show(upN n).length<=k;unfold upN;rw[o7];omega
           ·exact(by rw[<-g3,hc];rfl)
           ·conv=>whnf
            exact rZ5
       ·have g5:n=name:=by simpa using g5
        rw [if_neg (fun h=>h.1 g5)] at hc;conv=>whnf
        refine oD (w7 n) rfl rfl ?_;by_cases hz:n=[0]
        ·have hp:qw n=([],3):=by unfold qw;rw[if_pos g1,if_pos hz]
         have hf:qz l top name=true:=by rw[<-g3,hc,if_pos hz];rfl
         rw[hp];conv=>whnf
         refine brT rfl ?_;conv=>whnf
         rw[hf];refine⟨[0,1,2],_,lookK z S (qc l) st,rfl,rfl,?_,?_,rfl,rfl⟩
         ·exact rfl
         ·conv=>whnf
          exact rZ5
        ·have hp:qw n=(upN n,0):=by unfold qw;rw[if_pos g1,if_neg hz]
         rw [if_neg hz] at hc;rw[hp];conv=>whnf
         refine brF rfl ?_;conv=>whnf
         refine⟨(upN n,k),[0,1,2,3,4,5,6,7,8,9],⟨w9 g1 hz,?_,?_⟩,l5 k,?_⟩
         ·have:=wl g1 hz;show(upN n).length<=k;unfold upN;rw[o7];omega
         ·exact(by rw[<-g3,hc];rfl)
         ·conv=>whnf
          exact rZ5
    ·have h5:¬ 0<cntZ isNs l name:=by
      have h:¬ ((cntZ isNs l name:Nat):Int) > 0:=pw h5;omega
     have hf:qz l top name=xe l name top (upsN name):=by unfold qz;rw[if_neg hA,if_neg h3,if_neg (fun h=>h.elim h4 (fun h=>h5 h.1))]
     conv=>whnf
     refine oD (yq name) rfl rfl ?_;rw[if_pos hn];conv=>whnf
     refine brF rfl ?_;conv=>whnf
     refine .inv (List UInt8 × Nat) (fun s=>qb s.1/\s.1.length<=s.2/\xe l name top (upsF s.2 s.1)=qz l top name) (fun s=>[(3,.d (.str s.1))]) (fun s=>[]) (fun s=>s.2) ⟨(name,name.length),[0,1,2,3,4,5,6,7,8,9],⟨hn,pr _,by rw[hf];unfold upsN;rw[if_pos hn]⟩,?_⟩ ?_
     ·conv=>whnf
      exact rZ5
     clear hf;intro s hs;obtain⟨g1,g2,g3⟩:=hs;conv=>whnf
     generalize s.1=n at g1 g2 g3 ⊢;generalize s.2=k at g2 g3 ⊢;obtain⟨k,rfl⟩:∃ k',k=k'+1:=⟨k - 1,by have:=g1.1;omega⟩;have hc:xe l name top (upsF (k+1) n)=if n=top then true else if n≠name/\0<cntZ isNs l n then cntZ anyR l name == cntZ j4 l name else xe l name top (if n=[0] then [] else upsF k (n.drop (1+bt n 0))):=rfl;refine⟨fun g4=>?_,fun g4=>?_⟩
     ·have g4:n=top:=by simpa using g4
      have hf:qz l top name=true:=by rw[<-g3,hc,if_pos g4]
      conv=>whnf
      rw[hf];refine⟨[0,1,2],_,lookK z S (qc l) st,rfl,rfl,?_,?_,rfl,rfl⟩
      ·exact rfl
      ·conv=>whnf
       exact rZ5
     ·have g4:n≠top:=by simpa using g4
      rw [if_neg g4] at hc;conv=>whnf
      refine⟨fun g5=>?_,fun g5=>?_⟩
      ·have g5:n≠name:=by simpa using g5
       conv=>whnf
       have hg:=qh9 l n;cases ha:aget (qc l) n with
       |none =>
        rw [ha] at hg;have hns:cntZ isNs l n=0:=(congrArg Hd.ns hg).symm;rw [if_neg (fun h=>by rw [hns] at h;exact absurd h.2 (c9 0))] at hc;refine ⟨none,by have:=zy (ev:=Hd.enc) y8 (qc l) n;rw [ha] at this;exact this,?_⟩;conv=>whnf
        refine brF rfl ?_;conv=>whnf
        refine oD (w7 n) rfl rfl ?_;by_cases hz:n=[0]
        ·have hp:qw n=([],3):=by unfold qw;rw[if_pos g1,if_pos hz]
         have hf:qz l top name=true:=by rw[<-g3,hc,if_pos hz];rfl
         rw[hp];conv=>whnf
         refine brT rfl ?_;conv=>whnf
         rw[hf];refine⟨[0,1,2],_,lookK z S (qc l) st,rfl,rfl,?_,?_,rfl,rfl⟩
         ·exact rfl
         ·conv=>whnf
          exact rZ5
        ·have hp:qw n=(upN n,0):=by unfold qw;rw[if_pos g1,if_neg hz]
         rw [if_neg hz] at hc;rw[hp];conv=>whnf
         refine brF rfl ?_;conv=>whnf
         refine⟨(upN n,k),[0,1,2,3,4,5,6,7,8,9],⟨w9 g1 hz,?_,?_⟩,l5 k,?_⟩
         ·have:=wl g1 hz;show(upN n).length<=k;unfold upN;rw[o7];omega
         ·exact(by rw[<-g3,hc];rfl)
         ·conv=>whnf
          exact rZ5
       |some h0 =>
        rw [ha] at hg;have hns:h0.ns=cntZ isNs l n:=congrArg Hd.ns hg;refine ⟨some h0.enc,by have:=zy (ev:=Hd.enc) y8 (qc l) n;rw [ha] at this;exact this,?_⟩;conv=>whnf
        refine⟨fun g6=>?_,fun g6=>?_⟩
        ·have g6:0<cntZ isNs l n:=by
          have h:((h0.ns:Nat):Int) > 0:=pu g6;omega
         have hf:qz l top name=((((j5 l name).all:Nat):Int) == (((j5 l name).addr:Nat):Int)):=by
          rw[<-g3,hc,if_pos ⟨g5,g6⟩,ly,mw,mw];show(cntZ anyR l name=cntZ j4 l name)↔((cntZ anyR l name:Nat):Int)=((cntZ j4 l name:Nat):Int);omega
         conv=>whnf
         rw[hf];refine⟨[0,1,2],_,lookK z S (qc l) st,rfl,rfl,?_,?_,rfl,rfl⟩
         ·exact rfl
         ·conv=>whnf
          exact rZ5
        ·have g6:¬ 0<cntZ isNs l n:=by
          have h:¬ ((h0.ns:Nat):Int) > 0:=pw g6;omega
         rw [if_neg (fun h=>g6 h.2)] at hc;conv=>whnf
         refine oD (w7 n) rfl rfl ?_;by_cases hz:n=[0]
         ·have hp:qw n=([],3):=by unfold qw;rw[if_pos g1,if_pos hz]
          have hf:qz l top name=true:=by rw[<-g3,hc,if_pos hz];rfl
          rw[hp];conv=>whnf
          refine brT rfl ?_;conv=>whnf
          rw[hf];refine⟨[0,1,2],_,lookK z S (qc l) st,rfl,rfl,?_,?_,rfl,rfl⟩
          ·exact rfl
          ·conv=>whnf
           exact rZ5
         ·have hp:qw n=(upN n,0):=by unfold qw;rw[if_pos g1,if_neg hz]
          rw [if_neg hz] at hc;rw[hp];conv=>whnf
          refine brF rfl ?_;conv=>whnf
          refine⟨(upN n,k),[0,1,2,3,4,5,6,7,8,9],⟨w9 g1 hz,?_,?_⟩,l5 k,?_⟩
          ·have:=wl g1 hz;show(upN n).length<=k;unfold upN;rw[o7];omega
          ·exact(by rw[<-g3,hc];rfl)
          ·conv=>whnf
           exact rZ5
      ·have g5:n=name:=by simpa using g5
       rw [if_neg (fun h=>h.1 g5)] at hc;conv=>whnf
       refine oD (w7 n) rfl rfl ?_;by_cases hz:n=[0]
       ·have hp:qw n=([],3):=by unfold qw;rw[if_pos g1,if_pos hz]
        have hf:qz l top name=true:=by rw[<-g3,hc,if_pos hz];rfl
        rw[hp];conv=>whnf
        refine brT rfl ?_;conv=>whnf
        rw[hf];refine⟨[0,1,2],_,lookK z S (qc l) st,rfl,rfl,?_,?_,rfl,rfl⟩
        ·exact rfl
        ·conv=>whnf
         exact rZ5
       ·have hp:qw n=(upN n,0):=by unfold qw;rw[if_pos g1,if_neg hz]
        rw [if_neg hz] at hc;rw[hp];conv=>whnf
        refine brF rfl ?_;conv=>whnf
        refine⟨(upN n,k),[0,1,2,3,4,5,6,7,8,9],⟨w9 g1 hz,?_,?_⟩,l5 k,?_⟩
        ·have:=wl g1 hz;show(upN n).length<=k;unfold upN;rw[o7];omega
        ·exact(by rw[<-g3,hc];rfl)
        ·conv=>whnf
         exact rZ5
def xy(z:Zo)(l:List RR)(r:RR):Bool:=zb z.apex r && !l.any fun x=>keyZ x == keyZ r
theorem yo7:∀ {l:List (List DV × List SV)} {key:List DV} (z:List SV),y6 l key=none->opnM l key z=(l++[(key,z)],z,l.length)
 |[],_,_,_=>rfl
 |(k,v) :: l,key,z,h=>by
  unfold y6 at h;split at h
  ·cases h
  ·rename_i hk;unfold opnM;rw[if_neg hk,yo7 z h];rfl
theorem yk9{key:List DV}{v:List SV}(hk:jg key key=true):∀ {l:List (List DV × List SV)},y6 l key=none->y6 (l++[(key,v)]) key=some v
 |[],_=>by
  show(if jg key key then some v else y6 [] key)=some v;rw[if_pos hk]
 |(k,u) :: l,h=>by
  unfold y6 at h;split at h
  ·cases h
  ·rename_i hn;show(if jg key k then some u else y6 (l++[(key,v)]) key)=some v;rw[if_neg hn];exact yk9 hk h
theorem zb1{zero:List SV}{o:Option Hd}{F:SV->Prop}(hz:zero=Hd.no.enc)(hF:Eng.lookK false true zero (some (o.getD Hd.no).enc) F):Eng.lookK false true zero (o.map Hd.enc) F:=by
 cases o with
 |none=>subst hz;exact hF
 |some h=>exact hF
theorem yo2(k:List DV)(v v':List SV):∀ l:List (List DV × List SV),putQ (l++[(k,v)]) l.length v'=l++[(k,v')]
 |[]=>rfl
 |p :: l=>by
  show p :: putQ (l++[(k,v)]) l.length v'=_;rw[yo2 k v v' l];rfl
theorem xl3(z:Zo)(l:List RR)(hl:l.length<=300)(r:RR)(hr:r.nm.length<=100000) :
 COk Tryz.prog 109 [.ptr 0 0,.agg (r.enc.map .d)] (lookK z (jt l) (qc l) .free) (fun s k=>s = .d (.bool (xy z l r))/\k=if xy z l r then lookK z (jt (l++[r])) (qc (l++[r])) .free else lookK z (jt l) (qc l) .free):=by
 refine jn (TT:=TT) (IN:=qe []) qg qh mixed 1000 Tryz.func109 rfl (qd Tryz.func109 (by kernel_rfl) rfl) 106 (by kernel_rfl) ?_;conv=>whnf
 refine⟨fun h1=>?_,fun h1=>?_⟩
 ·have hb:xy z l r=false:=by unfold xy zb;rw[show(r.cl == 1)=false by simpa using h1];rfl
  conv=>whnf
  rw[hb];refine⟨[0,1,2],_,lookK z (jt l) (qc l) .free,rfl,rfl,?_,?_,rfl,rfl⟩
  ·exact rfl
  ·conv=>whnf
   exact rZ5
 have h1:(r.cl == 1)=true:=by simpa using h1
 conv=>whnf
 refine⟨fun h2=>?_,fun h2=>?_⟩
 ·have hb:xy z l r=false:=by unfold xy zb;rw[h1,show(r.ty != 41)=false by simpa using h2];rfl
  conv=>whnf
  rw[hb];refine⟨[0,1,2],_,lookK z (jt l) (qc l) .free,rfl,rfl,?_,?_,rfl,rfl⟩
  ·exact rfl
  ·conv=>whnf
   exact rZ5
 have h2:(r.ty != 41)=true:=by simpa using h2
 conv=>whnf
 refine⟨fun h3=>?_,fun h3=>?_⟩
 ·have hb:xy z l r=false:=by unfold xy zb;rw[h1,h2,show(r.ttl != 0)=false by simpa using h3];rfl
  conv=>whnf
  rw[hb];refine⟨[0,1,2],_,lookK z (jt l) (qc l) .free,rfl,rfl,?_,?_,rfl,rfl⟩
  ·exact rfl
  ·conv=>whnf
   exact rZ5
 have h3:(r.ttl != 0)=true:=by simpa using h3
 conv=>whnf
 refine .data _ (ji9 r) rfl rfl ?_;cases h4:r.check with
 |false =>
  have hb:xy z l r=false:=by unfold xy zb;rw[h1,h2,h3,h4];rfl
  conv=>whnf
  refine brT rfl ?_;conv=>whnf
  rw[hb];refine⟨[0,1,2],_,lookK z (jt l) (qc l) .free,rfl,rfl,?_,?_,rfl,rfl⟩
  ·exact rfl
  ·conv=>whnf
   exact rZ5
 |true =>
  conv=>whnf
  refine brF rfl ?_;conv=>whnf
  refine .data _ (qr5 _ _) rfl rfl ?_;cases h5:qt r.nm z.apex with
  |false =>
   have hb:xy z l r=false:=by unfold xy zb;rw[h1,h2,h3,h4,h5];rfl
   conv=>whnf
   refine brT rfl ?_;conv=>whnf
   rw[hb];refine⟨[0,1,2],_,lookK z (jt l) (qc l) .free,rfl,rfl,?_,?_,rfl,rfl⟩
   ·exact rfl
   ·conv=>whnf
    exact rZ5
  |true =>
   have hb:xy z l r = !l.any fun x=>keyZ x == keyZ r:=by unfold xy zb;rw[h1,h2,h3,h4,h5];rfl
   conv=>whnf
   refine brF rfl ?_;conv=>whnf
   refine oD (xc r.nm (by omega)) rfl rfl ?_;conv=>whnf
   refine .data _ (qr9 r.ty r.d) rfl rfl ?_;conv=>whnf
   have hfs:y6 (aenc xg intV (jt l)) [.str (fold r.nm),.int .u16 r.ty,.int .u16 r.cl,.str (qy r.ty r.d)]=(aget (jt l) (keyZ r)).map intV:=zy yn5 (jt l) (keyZ r);rw [xd9] at hfs;cases h6:l.any fun x=>keyZ x == keyZ r with
   |true =>
    rw [h6] at hfs hb;refine⟨_,hfs,?_⟩;conv=>whnf
    refine brT rfl ?_;conv=>whnf
    rw[hb];refine⟨[0,1,2],_,lookK z (jt l) (qc l) .free,rfl,rfl,?_,?_,rfl,rfl⟩
    ·exact rfl
    ·conv=>whnf
     exact rZ5
   |false =>
    rw [h6] at hfs hb;refine⟨_,hfs,?_⟩;conv=>whnf
    refine brF rfl ?_;conv=>whnf
    have hop:=yo7 [SV.d (.int .i64 0)] hfs;have hfs2:y6 (aenc xg intV (jt l)++[(xg (keyZ r),[SV.d (.int .i64 0)])]) [.str (fold r.nm),.int .u16 r.ty,.int .u16 r.cl,.str (qy r.ty r.d)]=some [SV.d (.int .i64 0)]:=yk9 ((yn5 (keyZ r) (keyZ r)).trans (pn rfl)) hfs;have hss:putQ (aenc xg intV (jt l)++[(xg (keyZ r),[SV.d (.int .i64 0)])]) (aenc xg intV (jt l)).length [SV.d (.int .i64 1)]=aenc xg intV (jt (l++[r])):=by
     rw[yo2,zu8];unfold aenc;rw[dw];rfl
    apply Exists.intro;refine⟨?_,?_⟩
    ·conv=>whnf
     repeat'(first|exact ⟨⟩|exact⟨rfl,rfl⟩|refine⟨_,hfs,?_⟩|refine⟨_,hfs2,?_⟩|refine⟨_,_,_,hop,?_⟩|intro s|refine⟨rfl,_,hss,?_⟩|apply And.intro|(conv=>whnf))
    conv=>whnf
    rw[hb];have hfn:y6 (aenc strK Hd.enc (qc l)) [.str (fold r.nm)]=(aget (qc l) (fold r.nm)).map Hd.enc:=zy y8 (qc l) (fold r.nm);have hg:=qh9 l (fold r.nm);have b1:=ux anyR l (fold r.nm);have b2:=ux zv l (fold r.nm);have b3:=ux isNs l (fold r.nm);have b4:=ux vu l (fold r.nm);have b5:=ux j4 l (fold r.nm);have hh:(aget (qc l) (fold r.nm)).getD Hd.no=j5 l (fold r.nm):=hg;refine⟨_,hfn,?_⟩;refine zb1 rfl ?_;rw[hh];have hg:j5 l (fold r.nm)=j5 l (fold r.nm):=rfl;generalize hgen:j5 l (fold r.nm)=h at hh ⊢;clear hg;have hg:h=j5 l (fold r.nm):=hgen.symm;have c1:h.all<=300:=by rw[hg];exact l9 b1 hl
    have c2:h.soa<=300:=by rw[hg];exact l9 b2 hl
    have c3:h.ns<=300:=by rw[hg];exact l9 b3 hl
    have c4:h.alias<=300:=by rw[hg];exact l9 b4 hl
    have c5:h.addr<=300:=by rw[hg];exact l9 b5 hl
    have e0:IntKind.i64.wrap ((h.all:Int)+1)=((h.all+1:Nat):Int):=by rw[qa _ (by omega)];omega
    have e1:IntKind.i64.wrap ((h.soa:Int)+1)=((h.soa+1:Nat):Int):=by rw[qa _ (by omega)];omega
    have e2:IntKind.i64.wrap ((h.ns:Int)+1)=((h.ns+1:Nat):Int):=by rw[qa _ (by omega)];omega
    have e3:IntKind.i64.wrap ((h.alias:Int)+1)=((h.alias+1:Nat):Int):=by rw[qa _ (by omega)];omega
    have e4:IntKind.i64.wrap ((h.addr:Int)+1)=((h.addr+1:Nat):Int):=by rw[qa _ (by omega)];omega
    conv=>whnf
    rw[e0];refine⟨fun k1=>?_,fun k1=>?_⟩
    ·have k1:r.ty=6:=by simpa using k1
     have hadd:h.add r=⟨h.all+1,h.soa+1,h.ns,h.alias,h.addr⟩:=by unfold Hd.add;rw[k1];rfl
     conv=>whnf
     rw[e1];have hput:putM (aenc strK Hd.enc (qc l)) [.str (fold r.nm)] (h.add r).enc=aenc strK Hd.enc (qc (l++[r])):=by
      have:=qe3 (ev:=Hd.enc) y8 (qc l) (fold r.nm) (h.add r);rw[uj,hh];exact this
     rw [hadd] at hput;refine⟨_,hput,?_⟩;conv=>whnf
     refine⟨[0,1,2],_,lookK z (jt (l++[r])) (qc (l++[r])) .free,rfl,rfl,?_,?_,rfl,rfl⟩
     ·exact rfl
     ·conv=>whnf
      exact rZ5
    have k1:r.ty≠6:=by simpa using k1
    conv=>whnf
    refine⟨fun k2=>?_,fun k2=>?_⟩
    ·have k2:r.ty=2:=by simpa using k2
     have hadd:h.add r=⟨h.all+1,h.soa,h.ns+1,h.alias,h.addr⟩:=by unfold Hd.add;rw[k2];rfl
     conv=>whnf
     rw[e2];have hput:putM (aenc strK Hd.enc (qc l)) [.str (fold r.nm)] (h.add r).enc=aenc strK Hd.enc (qc (l++[r])):=by
      have:=qe3 (ev:=Hd.enc) y8 (qc l) (fold r.nm) (h.add r);rw[uj,hh];exact this
     rw [hadd] at hput;refine⟨_,hput,?_⟩;conv=>whnf
     refine⟨[0,1,2],_,lookK z (jt (l++[r])) (qc (l++[r])) .free,rfl,rfl,?_,?_,rfl,rfl⟩
     ·exact rfl
     ·conv=>whnf
      exact rZ5
    have k2:r.ty≠2:=by simpa using k2
    conv=>whnf
    refine⟨fun k3=>?_,fun k3=>?_⟩
    ·have k3:r.ty=5:=by simpa using k3
     have hadd:h.add r=⟨h.all+1,h.soa,h.ns,h.alias+1,h.addr⟩:=by unfold Hd.add;rw[k3];rfl
     conv=>whnf
     rw[e3];have hput:putM (aenc strK Hd.enc (qc l)) [.str (fold r.nm)] (h.add r).enc=aenc strK Hd.enc (qc (l++[r])):=by
      have:=qe3 (ev:=Hd.enc) y8 (qc l) (fold r.nm) (h.add r);rw[uj,hh];exact this
     rw [hadd] at hput;refine⟨_,hput,?_⟩;conv=>whnf
     refine⟨[0,1,2],_,lookK z (jt (l++[r])) (qc (l++[r])) .free,rfl,rfl,?_,?_,rfl,rfl⟩
     ·exact rfl
     ·conv=>whnf
      exact rZ5
    have k3:r.ty≠5:=by simpa using k3
    conv=>whnf
    refine⟨fun k4=>?_,fun k4=>?_⟩
    ·have k4':=k4;have k4:r.ty=1:=by simpa using k4
     have hadd:h.add r=⟨h.all+1,h.soa,h.ns,h.alias,h.addr+1⟩:=by unfold Hd.add;rw[k4];rfl
     conv=>whnf
     refine brT k4' ?_;conv=>whnf
     rw[e4];have hput:putM (aenc strK Hd.enc (qc l)) [.str (fold r.nm)] (h.add r).enc=aenc strK Hd.enc (qc (l++[r])):=by
      have:=qe3 (ev:=Hd.enc) y8 (qc l) (fold r.nm) (h.add r);rw[uj,hh];exact this
     rw [hadd] at hput;refine⟨_,hput,?_⟩;conv=>whnf
     refine⟨[0,1,2],_,lookK z (jt (l++[r])) (qc (l++[r])) .free,rfl,rfl,?_,?_,rfl,rfl⟩
     ·exact rfl
     ·conv=>whnf
      exact rZ5
    have k4:r.ty≠1:=by simpa using k4
    conv=>whnf
    refine⟨fun k5=>?_,fun k5=>?_⟩
    ·have k5:r.ty=28:=by simpa using k5
     have hadd:h.add r=⟨h.all+1,h.soa,h.ns,h.alias,h.addr+1⟩:=by unfold Hd.add;rw[k5];rfl
     conv=>whnf
     rw[e4];have hput:putM (aenc strK Hd.enc (qc l)) [.str (fold r.nm)] (h.add r).enc=aenc strK Hd.enc (qc (l++[r])):=by
      have:=qe3 (ev:=Hd.enc) y8 (qc l) (fold r.nm) (h.add r);rw[uj,hh];exact this
     rw [hadd] at hput;refine⟨_,hput,?_⟩;conv=>whnf
     refine⟨[0,1,2],_,lookK z (jt (l++[r])) (qc (l++[r])) .free,rfl,rfl,?_,?_,rfl,rfl⟩
     ·exact rfl
     ·conv=>whnf
      exact rZ5
    have k5:r.ty≠28:=by simpa using k5
    have hadd:h.add r=⟨h.all+1,h.soa,h.ns,h.alias,h.addr⟩:=by unfold Hd.add;rw[if_neg k1,if_neg k2,if_neg k3,if_neg (fun h=>h.elim k4 k5)]
    conv=>whnf
    have hput:putM (aenc strK Hd.enc (qc l)) [.str (fold r.nm)] (h.add r).enc=aenc strK Hd.enc (qc (l++[r])):=by
     have:=qe3 (ev:=Hd.enc) y8 (qc l) (fold r.nm) (h.add r);rw[uj,hh];exact this
    rw [hadd] at hput;refine⟨_,hput,?_⟩;conv=>whnf
    refine⟨[0,1,2],_,lookK z (jt (l++[r])) (qc (l++[r])) .free,rfl,rfl,?_,?_,rfl,rfl⟩
    ·exact rfl
    ·conv=>whnf
     exact rZ5
theorem zu0{z:Zo}(h1:cntZ zv z.rrs (fold z.apex)=1)(h2:cntZ isNs z.rrs (fold z.apex)≠0):wp z=(qc z.rrs).all fun e=>qz z.rrs (fold z.apex) e.1:=by
 unfold wp;rw[h1,zx3 z.rrs (fun n=>qz z.rrs (fold z.apex) n)];have:(cntZ isNs z.rrs (fold z.apex) != 0)=true:=by simpa using h2
 rw[this];rfl
instance:Inhabited Hd:=⟨Hd.no⟩
theorem yj4(z:Zo)(S:List ((List UInt8 × Int × Int × List UInt8) × Nat))(N:List (List UInt8 × Hd))(st:MS){σ:Nat->Nat}(h1:σ 1=1)(h2:σ 2=2):mapB σ (lookK z S N st)=lookK z S N st:=by
 show[KB.cells _ [_,_,SV.map (σ 1),SV.map (σ 2)],KB.mapx _ _ _ (mapM _ (aenc xg intV S)) _,KB.mapx _ _ _ (mapM _ (aenc strK Hd.enc N)) _]=_;rw[h1,h2,jn4,jn9];rfl
theorem xd4(z:Zo)(S:List ((List UInt8 × Int × Int × List UInt8) × Nat))(hl:z.rrs.length<=300)(hn:∀ r ∈ z.rrs,qb r.nm)(ha:z.apex.length<=100000) :
 COk Tryz.prog 110 [.ptr 0 0] (lookK z S (qc z.rrs) .free) (fun s k=>s = .d (.bool (wp z))/\k=lookK z S (qc z.rrs) .free):=by
 refine jn (TT:=TT) (IN:=qe []) qg qh mixed 1000 Tryz.func110 rfl (qd Tryz.func110 (by kernel_rfl) rfl) 42 (by kernel_rfl) ?_;conv=>whnf
 refine oD (xc z.apex (by omega)) rfl rfl ?_;conv=>whnf
 have hfn:y6 (aenc strK Hd.enc (qc z.rrs)) [.str (fold z.apex)]=(aget (qc z.rrs) (fold z.apex)).map Hd.enc:=zy y8 (qc z.rrs) (fold z.apex);have hg:=qh9 z.rrs (fold z.apex);refine⟨_,hfn,?_⟩;refine zb1 rfl ?_;rw[hg];conv=>whnf
 refine⟨fun h1=>?_,fun h1=>?_⟩
 ·have hb:wp z=false:=by
   have h1:((cntZ zv z.rrs (fold z.apex):Nat):Int)≠1:=(show(((j5 z.rrs (fold z.apex)).soa:Nat):Int)≠1 by simpa using h1);unfold wp;rw[show(cntZ zv z.rrs (fold z.apex) == 1)=false by rw[mq];omega]
   rfl
  conv=>whnf
  rw[hb];refine⟨[0,1,2],_,lookK z S (qc z.rrs) .free,rfl,rfl,?_,?_,rfl,rfl⟩
  ·exact rfl
  ·conv=>whnf
   exact rZ5
 have h1:cntZ zv z.rrs (fold z.apex)=1:=by
  have h2:(((j5 z.rrs (fold z.apex)).soa:Nat):Int)=1:=by simpa using h1
  have h3:((cntZ zv z.rrs (fold z.apex):Nat):Int)=1:=h2;omega
 conv=>whnf
 refine⟨fun h2=>?_,fun h2=>?_⟩
 ·have hb:wp z=false:=by
   have h2:(((j5 z.rrs (fold z.apex)).ns:Nat):Int)=0:=by simpa using h2
   have h3:((cntZ isNs z.rrs (fold z.apex):Nat):Int)=0:=h2;unfold wp;rw[show(cntZ isNs z.rrs (fold z.apex) != 0)=false by rw[bne_eq_false_iff_eq];omega];rw[fx,gu]
  conv=>whnf
  rw[hb];refine⟨[0,1,2],_,lookK z S (qc z.rrs) .free,rfl,rfl,?_,?_,rfl,rfl⟩
  ·exact rfl
  ·conv=>whnf
   exact rZ5
 have h2:cntZ isNs z.rrs (fold z.apex)≠0:=by
  have h2:¬ (((j5 z.rrs (fold z.apex)).ns:Nat):Int)=0:=by simpa using h2
  have h3:¬ ((cntZ isNs z.rrs (fold z.apex):Nat):Int)=0:=h2;omega
 have hlaw:=zu0 h1 h2;conv=>whnf
 intro bs c rem hbl hrem;conv=>whnf
 refine .inv (List Nat × Nat) (fun s=>s.1.Nodup/\(∀ q ∈ s.1,q<(qc z.rrs).length)/\∀ q,q<(qc z.rrs).length->q ∉ s.1->qz z.rrs (fold z.apex) ((qc z.rrs).getD q default).1=true) (fun s=>[]) (fun s=>[(4,.iter 2 bs c s.1 s.2)]) (fun s=>s.1.length) ⟨(rem,bs.length),[0,1,2,3,4],?_,?_⟩ ?_
 ·have hL:(aenc strK Hd.enc (qc z.rrs)).length=(qc z.rrs).length:=mn ..;refine⟨?_,fun q hq=>?_,fun q hq hn=>?_⟩
  ·rw[<-hrem];exact List.nodup_range
  ·rw [<-hrem,hL] at hq;exact lr.1 hq
  ·exact absurd (by rw[<-hrem,hL];exact lr.2 hq) hn
 ·conv=>whnf
  exact rZ5
 intro s hs;conv=>whnf
 obtain⟨s1,s2,s3⟩:=hs;generalize s.1=R at s1 s2 s3 ⊢;generalize s.2=lst;refine⟨⟨rfl,rfl⟩,fun q hq=>?_,fun h0=>?_⟩
 ·have hql:=s2 q hq;have hqe:(qc z.rrs)[q]? = some (qc z.rrs)[q]:=pp hql;have hgd:(qc z.rrs).getD q default=(qc z.rrs)[q]:=by rw[gr,hqe];rfl
  have hmem:=d5 hql;generalize (qc z.rrs)[q]=e at hqe hgd hmem;have hae:(aenc strK Hd.enc (qc z.rrs))[q]? = some (strK e.1,e.2.enc):=by unfold aenc;rw[o4,hqe];rfl
  have he2:=zp4 hmem;obtain⟨r,hr,hre⟩:=yi9 hmem;have hen:qb e.1:=by rw[<-hre];exact qy0 (hn r hr)
  refine⟨_,_,hae,?_⟩;conv=>whnf
  intro R' hR';conv=>whnf
  refine⟨⟨rfl,rfl⟩,_,_,hae,?_⟩;conv=>whnf
  rw[he2];refine .rel _ (COk.frameX (xo5 z S z.rrs hl (.born bs c) e.1 (fold z.apex) hen) [0,1,2] rfl rfl (yj4 z S (qc z.rrs) (.born bs c) rfl rfl).symm) (fun x ks' hR=>?_);obtain⟨s0,k0,⟨rfl,rfl⟩,rfl,rfl⟩:=hR;rw[yj4 z S (qc z.rrs) (.born bs c) rfl rfl];cases hfit:qz z.rrs (fold z.apex) e.1 with
  |false =>
   have hb:wp z=false:=by
    rw[hlaw,ax];exact⟨e,hmem,by rw[hfit];decide⟩
   conv=>whnf
   refine brT rfl ?_;conv=>whnf
   rw[hb];refine⟨[0,1,2],_,lookK z S (qc z.rrs) .free,rfl,rfl,?_,?_,rfl,rfl⟩
   ·exact rfl
   ·conv=>whnf
    exact rZ5
  |true =>
   conv=>whnf
   refine brF rfl ?_;conv=>whnf
   refine⟨(R',q),[0,1,2,3,4],⟨?_,?_,?_⟩,?_,?_⟩
   ·rw[<-hR'];exact s1.erase q
   ·intro q' hq';rw [<-hR'] at hq';exact s2 q' (List.mem_of_mem_erase hq')
   ·intro q' hq' hn';by_cases hqq:q'=q
    ·subst hqq;rw[hgd];exact hfit
    ·exact s3 q' hq' (fun hm=>hn' (by rw[<-hR'];exact(List.mem_erase_of_ne hqq).2 hm))
   ·rw[<-hR'];show(R.erase q).length<R.length;rw[List.length_erase_of_mem hq];have:=List.length_pos_of_mem hq;omega
   ·conv=>whnf
    exact rZ5
 ·have hb:wp z=true:=by
   rw[hlaw,l8];intro e he;obtain⟨q,hq,rfl⟩:=o9.1 he;have:=s3 q hq (by rw[h0];simp);rw [gr,pp hq] at this;exact this
  conv=>whnf
  rw[hb];refine⟨[0,1,2],_,lookK z S (qc z.rrs) .free,rfl,rfl,?_,?_,rfl,rfl⟩
  ·exact rfl
  ·conv=>whnf
   exact rZ5
theorem DenTo.tup[Dr]{l m:List SV}(h:DenToL l m):DenTo (.tup l) (.tup m):=fun w M β v hd=>by
 cases hd with
 |tup _ vs h1 h2 =>
  refine .tup _ vs (by rw[<-h.len];exact h1) (fun j t u ht hu=>?_);have hj:j<l.length:=by rw[h.len];exact(pq.1 ht).1
  exact h.at j _ t (pp hj) ht _ _ _ _ (h2 j _ u (pp hj) hu)
theorem COk.resD[Dr]{P:Program}{f:FuncId}{args:List SV}{ks:List KB}{R R':SV->List KB->Prop}(h:COk P f args ks R)(hR:∀ s k,R s k->∃ s',DenTo s s'/\R' s' k):COk P f args ks R' :=
 ⟨h.1,fun X w β fp vs hM hl hd=>(h.2 X w β fp vs hM hl hd).mono (fun e w' h=>by
  obtain⟨r,s,ks',β',fp',h1,h2,h3,h4⟩:=h;obtain⟨s',hs,hR'⟩:=hR s ks' h2;exact⟨r,s',ks',β',fp',h1,hR',h3,hs _ _ _ _ h4⟩)⟩
structure Fo where
 zz:Bool
 zones:List Zo
 hz:Bool
 hosts:List (Int × Bool × List Int)
def j8(zs:List Zo)(n:List UInt8):Option Nat:=zs.findIdx? fun z=>fold z.apex == n
def vf(name:List UInt8):List (List UInt8)->Option (List UInt8)
 |[]=>none
 |c :: l=>if qt name c then (match vf name l with
  |none=>some (fold c)
  |some b=>if qo c<=qo b then some (fold c) else some b) else vf name l
def Zo.cut(z:Zo)(name:List UInt8):Option (List UInt8):=vf name z.cutL
theorem vp{n c:List UInt8}(h:qt n c=true):qb n/\qb c:=by
 unfold qt at h;simp only [p8,lx] at h;exact⟨h.1,h.2.1⟩
theorem uk{c:List UInt8}(hc:qb c):qo (fold c)=qo c:=by
 unfold qo;rw[if_pos hc,if_pos (qy0 hc),ja0 hc];unfold fl;rw[mn]
theorem qx7{name:List UInt8}:∀ {l:List (List UInt8)} {b:List UInt8},vf name l=some b->(∃ c ∈ l,fold c=b/\qt name c=true)/\∀ c ∈ l,qt name c=true->qo b<=qo c
 |[],b,h=>by cases h
 |c :: l,b,h=>by
  unfold vf at h;split at h
  ·rename_i hw;cases hl:vf name l with
   |none =>
    rw [hl] at h;simp only [my] at h;subst h;have hno:∀ x ∈ l,qt name x=false:=fun x hx=>by
     cases hxw:qt name x
     ·rfl
     ·exfalso;have:∀ m:List (List UInt8),vf name m=none->∀ x ∈ m,qt name x=false:=by
       intro m;induction m with
       |nil=>intro _ x hx;cases hx
       |cons y m ih =>
        intro hm x hx;unfold vf at hm;split at hm
        ·split at hm
         ·cases hm
         ·split at hm <;> cases hm
        ·rename_i hy;rcases pv.1 hx with rfl|hx
         ·simpa using hy
         ·exact ih hm x hx
      rw [this l hl x hx] at hxw;cases hxw
    refine⟨⟨c,mz ..,rfl,hw⟩,fun x hx hxw=>?_⟩;rcases pv.1 hx with rfl|hx
    ·rw[uk (vp hw).2];exact pr _
    ·rw [hno x hx] at hxw;cases hxw
   |some b' =>
    rw [hl] at h;obtain⟨⟨c',hc',e',w'⟩,hmin⟩:=qx7 hl;simp only at h;split at h
    ·rename_i hle;simp only [my] at h;subst h;refine⟨⟨c,mz ..,rfl,hw⟩,fun x hx hxw=>?_⟩;rw[uk (vp hw).2];rcases pv.1 hx with rfl|hx
     ·exact pr _
     ·exact l9 hle (hmin x hx hxw)
    ·rename_i hle;simp only [my] at h;subst h;refine⟨⟨c',m8 _ hc',e',w'⟩,fun x hx hxw=>?_⟩;rcases pv.1 hx with rfl|hx
     ·omega
     ·exact hmin x hx hxw
  ·rename_i hw;obtain⟨⟨c',hc',e',w'⟩,hmin⟩:=qx7 h;refine⟨⟨c',m8 _ hc',e',w'⟩,fun x hx hxw=>?_⟩;rcases pv.1 hx with rfl|hx
   ·exact absurd hxw hw
   ·exact hmin x hx hxw
def yz(zs:List Zo)(name:List UInt8):Nat->Nat->Option Nat
 |0,_=>none
 |k+1,at_=>match zs[at_]? with
  |none=>none
  |some z=>match z.cut name with
   |none=>some at_
   |some c=>match j8 zs c with
    |none=>none
    |some next=>yz zs name k next
theorem zq7{a b:List UInt8}(ha:qb a)(hb:qb b)(h:fold a=fold b):fl a=fl b:=by
 rw[<-ja0 ha,<-ja0 hb,h]
theorem qx0{n a b:List UInt8}(ha:qb a)(h:fold a=fold b)(hw:qt n b=true):qt n a=true:=by
 have hb:=(vp hw).2;unfold qt at hw ⊢;rw[zq7 ha hb h,pn ha];rwa [pn hb] at hw
theorem jh9{n z:List UInt8}(h:qt n z=true):qo z<=qo n:=by
 obtain⟨hn,hz⟩:=vp h;unfold qt at h;simp only [p8,r7] at h;have hl:=h.2.2.length_le;unfold fl at hl;rw [mn,mn] at hl;unfold qo;rw[if_pos hn,if_pos hz];exact hl
theorem jv5{n z:List UInt8}(h:qt n z=true)(hs:zg n z=false):qo z<qo n:=by
 obtain⟨hn,hz⟩:=vp h;have hle:=jh9 h;apply Classical.byContradiction;intro hc;unfold qt at h;simp only [p8,r7] at h;have hlen:(fl z).length=(fl n).length:=by
  unfold qo at hle hc;rw [if_pos hn,if_pos hz] at hle hc;unfold fl;rw[mn,mn];omega
 have e:=h.2.2.eq_of_length hlen;have:zg n z=true:=by
  unfold zg;rw[pn hn,pn hz,l7,l7,mw,qa6 hn,qa6 hz,e]
 rw [this] at hs;cases hs
theorem Zo.ok_name{z:Zo}(h:z.ok=true):qb z.apex:=by
 unfold Zo.ok at h;simp only [p8,lx] at h;exact h.1
theorem Zo.ok_take{z:Zo}(h:z.ok=true){r:RR}(hr:r ∈ z.rrs):zb z.apex r=true:=by
 unfold Zo.ok at h;simp only [p8,l8] at h;exact h.2.2.1 r hr
theorem Zo.cut_spec{z:Zo}(hz:z.ok=true){name b:List UInt8}(h:z.cut name=some b):∃ c,fold c=b/\qt name c=true/\qt c z.apex=true/\zg c z.apex=false:=by
 obtain⟨⟨c,hc,e,hw⟩,_⟩:=qx7 h;unfold Zo.cutL at hc;obtain⟨r,hr,rfl⟩:=lz.1 hc;obtain⟨hr,hp⟩:=cn.1 hr;have ht:=z.ok_take hz hr;unfold zb at ht;simp only [p8] at ht hp;exact⟨r.nm,e,hw,ht.2.2.2.2,by simpa using hp.2⟩
theorem qk7{zs:List Zo}{b:List UInt8}{i:Nat}(h:j8 zs b=some i):∃ z,zs[i]? = some z/\fold z.apex=b:=by
 unfold j8 at h;obtain⟨hi,h1,_⟩:=List.findIdx?_eq_some_iff_getElem.1 h;exact⟨zs[i],pp hi,by simpa using h1⟩
theorem yl4{zs:List Zo}(hz:∀ z ∈ zs,z.ok=true){name:List UInt8}:∀ (k at_:Nat) (z:Zo),zs[at_]? = some z->qt name z.apex=true->qo name<k+qo z.apex ->
 yz zs name (k+1) at_=yz zs name k at_/\∀ at',yz zs name k at_=some at'->∃ z',zs[at']? = some z'/\qt name z'.apex=true/\z'.cut name=none
 |0,at_,z,h,hw,hc=>by
  have:=jh9 hw;omega
 |k+1,at_,z,h,hw,hc=>by
  have hzm:=hz z (ov h);have e1:∀ j,yz zs name (j+1) at_=match z.cut name with
   |none=>some at_
   |some c=>match j8 zs c with
    |none=>none
    |some next=>yz zs name j next:=fun j=>by
   show(match zs[at_]? with|none=>none|some z=>_)=_;rw[h]
  rw[e1 (k+1),e1 k];cases hcut:z.cut name with
  |none=>exact ⟨rfl,fun at' e=>by simp only [my] at e;subst e;exact ⟨z,h,hw,hcut⟩⟩
  |some c =>
   simp only;cases hp:j8 zs c with
   |none=>exact⟨rfl,fun at' e=>by cases e⟩
   |some next =>
    simp only;obtain⟨y,hy,ey⟩:=qk7 hp;obtain⟨c',ec,w1,w2,w3⟩:=z.cut_spec hzm hcut;have hyn:=Zo.ok_name (hz y (ov hy));have hyc:fold y.apex=fold c':=by rw[ey,ec]
    have wy:=qx0 hyn hyc w1;have hlt:=jv5 w2 w3;have hcc:qo y.apex=qo c':=by
     rw[<-uk hyn,<-uk (vp w1).2,hyc]
    exact yl4 hz k next y hy wy (by omega)
def Zo.V(z:Zo):SV:=.agg [.d (.str z.apex),.d (rrsD z.z z.rrs)]
theorem zt3(z:Zo){i:Nat}{r:RR}(h:z.rrs[i]? = some r):xl z.apex (z.rrs.take (i+1))=(xl z.apex (z.rrs.take i) && xy z (z.rrs.take i) r):=by
 rw[mp,h];exact yb7 _ _ _
theorem qd2(z:Zo)(S:List ((List UInt8 × Int × Int × List UInt8) × Nat))(N:List (List UInt8 × Hd))(st:MS)(σ:Nat->Nat):mapB σ (lookK z S N st)=[.cells 128 [.d (.str z.apex),.d (rrsD z.z z.rrs),.map (σ 1),.map (σ 2)],vi S,we N st]:=by
 show[KB.cells _ [_,_,SV.map (σ 1),SV.map (σ 2)],KB.mapx _ _ _ (mapM _ (aenc xg intV S)) _,KB.mapx _ _ _ (mapM _ (aenc strK Hd.enc N)) _]=_;rw[jn4,jn9];rfl
theorem xl8(z:Zo)(hz:∀ r ∈ z.rrs,r.nm.length<=100000/\r.d.length<=100000) :
 COk Tryz.prog 73 [z.V] [] (fun s k=>∃ S N b,s = .tup [.agg [.d (.str z.apex),.d (rrsD z.z z.rrs),.map 0,.map 1],.d b]/\DenTo (.d b) (.d (.bool z.ok))/\k=[vi S,we N .free]):=by
 refine jn (TT:=TT) (IN:=qe []) qg qh mixed 1000 Tryz.func73 rfl (qd Tryz.func73 (by kernel_rfl) rfl) 38 (by kernel_rfl) ?_;conv=>whnf
 refine oD (yq z.apex) rfl rfl ?_;by_cases hn:qb z.apex;case neg =>
  rw[if_neg hn];have hb:z.ok=false:=by rw[z.ok_eq,po hn];rfl
  conv=>whnf
  refine brT rfl ?_;conv=>whnf
  rw[hb];refine⟨[2,3],_,[vi [],we [] .free],rfl,rfl,?_,?_,[],[],.ff,rfl,DenTo.ff,rfl⟩
  ·exact rfl
  ·conv=>whnf
   exact rZ2
 rw[if_pos hn];conv=>whnf
 refine brF rfl ?_;conv=>whnf
 refine⟨fun h1=>?_,fun h1=>?_⟩
 ·have h1:¬ z.rrs.length<=256:=by
   have h:(z.rrs.length:Int) > 256:=pu h1;omega
  have hb:z.ok=false:=by rw[z.ok_eq,po h1,fx,gu]
  rw[hb];conv=>whnf
  refine⟨[2,3],_,[vi [],we [] .free],rfl,rfl,?_,?_,[],[],.ff,rfl,DenTo.ff,rfl⟩
  ·exact rfl
  ·conv=>whnf
   exact rZ2
 have h1:z.rrs.length<=256:=by
  have h:¬ (z.rrs.length:Int) > 256:=pw h1;omega
 have hok:z.ok=(xl z.apex z.rrs && wp z):=by rw[z.ok_eq,pn hn,pn h1];rfl
 conv=>whnf
 refine .inv Nat (fun i=>i<=z.rrs.length/\xl z.apex (z.rrs.take i)=true) (fun i=>[(28,iV i)]) (fun i=>[(2,vi (jt (z.rrs.take i))),(3,we (qc (z.rrs.take i)) .free)]) (fun i=>z.rrs.length - i) ⟨0,[0,1,2,3,4],⟨pz _,rfl⟩,?_⟩ ?_
 ·conv=>whnf
  exact rZ2
 intro i hi;obtain⟨hi,hti⟩:=hi;conv=>whnf
 refine⟨fun h2=>?_,fun h2=>?_⟩
 ·have h2:i<z.rrs.length:=by
   have h:(i:Int)<z.rrs.length:=pu h2;omega
  have hw1:=w64s i (by omega);obtain⟨r,hr⟩:∃ r,z.rrs.getD i default=r:=⟨_,rfl⟩;have hrl:z.rrs[i]? = some r:=by rw[<-hr,List.getD,pp h2];rfl
  have hnx:=zt3 z hrl;have htk:z.rrs.take (i+1)=z.rrs.take i++[r]:=by rw[mp,hrl];rfl
  conv=>whnf
  refine⟨by omega,?_⟩;conv=>whnf
  rw[px,hr];refine .rel _ (COk.frameX (xl3 z (z.rrs.take i) (by rw[lu];omega) r (hz r (ov hrl)).1) [4,2,3] rfl rfl (by rw[qd2];rfl)) (fun x ks' hR=>?_);obtain⟨s0,k0,⟨rfl,rfl⟩,rfl,rfl⟩:=hR;cases hto:xy z (z.rrs.take i) r with
  |false =>
   have hb:z.ok=false:=by
    rw[hok,zt5 (i:=i+1) (by rw[hnx,hto,gu])]
    rfl
   rw[hb,if_neg (by decide),qd2];conv=>whnf
   refine brT rfl ?_;conv=>whnf
   refine⟨[2,3],_,[vi (jt (z.rrs.take i)),we (qc (z.rrs.take i)) .free],rfl,rfl,?_,?_,_,_,.ff,rfl,DenTo.ff,rfl⟩
   ·exact rfl
   ·conv=>whnf
    exact rZ5
  |true =>
   rw[if_pos rfl,qd2];conv=>whnf
   refine brF rfl ?_;conv=>whnf
   rw[hw1];refine⟨i+1,[0,1,2,3,4],⟨h2,by rw[hnx,hti,hto];rfl⟩,by omega,?_⟩;rw[htk];conv=>whnf
   exact rZ5
 ·have h2:i=z.rrs.length:=by
   have h:¬ (i:Int)<z.rrs.length:=pw h2;omega
  subst h2;rw [mr] at hti ⊢;rw [hti,l7] at hok;have hnm:∀ r ∈ z.rrs,qb r.nm:=fun r hr=>by
   unfold xl at hti;simp only [p8,l8] at hti;have:=hti.1 r hr;unfold zb at this;simp only [p8] at this;exact(vp this.2.2.2.2).1
  have hsd:COk Tryz.prog 110 [.ptr 4 0] [.cells 58 [.d (.str z.apex),.d (rrsD z.z z.rrs)],.cells 128 [.d (.str []),nilS,.v (.map none),.v (.map none)],vi (jt z.rrs),we (qc z.rrs) .free,.cells 128 [.d (.str z.apex),.d (rrsD z.z z.rrs),.map 2,.map 3]]
   (fun s k=>s = .d (.bool (wp z))/\k=[.cells 58 [.d (.str z.apex),.d (rrsD z.z z.rrs)],.cells 128 [.d (.str []),nilS,.v (.map none),.v (.map none)],vi (jt z.rrs),we (qc z.rrs) .free,.cells 128 [.d (.str z.apex),.d (rrsD z.z z.rrs),.map 2,.map 3]]) :=
   (COk.frameX (xd4 z (jt z.rrs) (by omega) hnm (by have:=hn.2.1;omega)) [4,2,3] rfl rfl (by rw[qd2];rfl)).imp fun r k ⟨s0,k0,⟨h1,h2⟩,h3,h4⟩=>by
    subst h1 h2 h3 h4;rw[qd2];exact⟨rfl,rfl⟩
  conv=>whnf
  apply Exists.intro;apply Exists.intro;refine⟨?_,?_⟩
  ·conv=>whnf
   repeat'(first|exact ⟨⟩|exact⟨rfl,rfl⟩|refine .mem _ _ hsd ?_|apply And.intro|(conv=>whnf))
  conv=>whnf
  refine⟨[2,3],_,[vi (jt z.rrs),we (qc z.rrs) .free],rfl,rfl,?_,?_,_,_,_,rfl,by rw[hok];exact DenTo.refl _,rfl⟩
  ·exact rfl
  ·conv=>whnf
   exact rZ5
theorem xr6(z:Zo)(hz:∀ r ∈ z.rrs,r.nm.length<=100000/\r.d.length<=100000) :
 COk Tryz.prog 73 [z.V] [] (fun s k=>∃ S N,s = .tup [.agg [.d (.str z.apex),.d (rrsD z.z z.rrs),.map 0,.map 1],.d (.bool z.ok)]/\k=[vi S,we N .free]) :=
 COk.resD (xl8 z hz) fun s k ⟨S,N,b,h1,h2,h3⟩=>⟨_,h1 ▸ DenTo.tup ⟨DenTo.refl _,h2,trivial⟩,S,N,rfl,h3⟩
def rvF(l:List (List UInt8))(k j:Nat):List DV:=[.str (if j<k\/l.length<=j+k then (l[l.length - 1 - j]?).getD [] else (l[j]?).getD [])]
theorem xe0(l:List (List UInt8))(j:Nat)(h:j<l.length):rvF l 0 j=strs l j:=by
 unfold rvF strs;rw[if_neg (by omega)]
theorem xl9(l:List (List UInt8))(k j:Nat)(h:j<l.length)(hk:l.length<=2 * k+1):rvF l k j=strs l.reverse j:=by
 unfold rvF strs;rw[List.getElem?_reverse h];split
 ·rfl
 ·rw[show l.length - 1 - j=j by omega]
theorem xr9(z:Z)(l:List (List UInt8))(hn:l.length<=1000000):COk Tryz.prog 194 [.all 0] [.row 9 1 l.length z (strs l)] (fun r k=>r = .tup []/\k=[.row 9 1 l.length z (strs l.reverse)]):=by
 refine jn (TT:=TT) (IN:=qe []) qg qh mixed 1000 Tryz.func194 rfl (qd Tryz.func194 (by kernel_rfl) rfl) 27 (by kernel_rfl) ?_;conv=>whnf
 have e0:IntKind.i64.wrap ((l.length:Int) - 1)=(l.length:Int) - 1 - (0:Nat):=by rw[qa _ (by omega)];omega
 rw[e0];refine .inv Nat (fun k=>2 * k<=l.length) (fun k=>[(2,.d (.int .i64 k)),(3,.d (.int .i64 ((l.length:Int) - 1 - k)))]) (fun k=>[(0,.row 9 1 l.length z (rvF l k))]) (fun k=>l.length - k) ⟨0,[0],by omega,?_⟩ ?_
 ·conv=>whnf
  repeat'(first|exact ⟨⟩|exact rfl|exact jd _|exact .inr rfl|exact fun _ _=>rfl|exact noI|apply And.intro)
  exact fun j hj=>(xe0 l j hj).symm
 intro k hk;conv=>whnf
 refine⟨fun h1=>?_,fun h1=>?_⟩
 ·have h1:(k:Int)<(l.length:Int) - 1 - k:=pu h1;have e1:((l.length:Int) - 1 - k).toNat=l.length - 1 - k:=by omega
  conv=>whnf
  refine⟨?_,?_,?_,?_⟩;rotate_left 2
  ·conv=>whnf
   exact rZ3
  ·conv=>whnf
   refine⟨k+1,[0],by omega,by show l.length - (k+1)<l.length - k;omega,?_⟩;have e3:=w64s k (by omega);have e4:IntKind.i64.wrap ((l.length:Int) - 1 - k - 1)=(l.length:Int) - 1 - (k+1:Nat):=by rw[qa _ (by omega)];omega
   rw[e3,e4];conv=>whnf
   repeat'(first|exact ⟨⟩|exact rfl|exact jd _|exact .inr rfl|exact fun _ _=>rfl|exact noI|apply And.intro)
   intro j hj;rw[e1,px,if_neg (by omega),if_neg (by omega)];unfold oneF;by_cases h2:j=l.length - 1 - k
   ·rw[if_pos h2,if_neg (by omega)];show[DV.str (l[k]?.getD [])]=_;unfold rvF;rw[if_pos (by omega),show l.length - 1 - j=k by omega]
   ·rw[if_neg h2];by_cases h3:j=k
    ·rw[if_pos h3];show[DV.str (l[l.length - 1 - k]?.getD [])]=_;unfold rvF;rw[if_pos (by omega),h3]
    ·rw[if_neg h3];unfold rvF;by_cases h4:j<k\/l.length<=j+k
     ·rw[if_pos h4,if_pos (by omega)]
     ·rw[if_neg h4,if_neg (by omega)]
 ·have h1:¬ (k:Int)<(l.length:Int) - 1 - k:=pw h1;conv=>whnf
  refine⟨[0],_,_,rfl,rfl,?_,?_,rfl,rfl⟩
  ·exact rfl
  ·conv=>whnf
   repeat'(first|exact ⟨⟩|exact rfl|exact jd _|exact .inr rfl|exact fun _ _=>rfl|exact noI|apply And.intro)
   exact fun j hj=>(xl9 l k j hj (by omega))
def qq(n:List UInt8):List (List UInt8):=(fl n).reverse
theorem ze2{ls:List (List UInt8)}{i:Nat}{l:List UInt8}(h:ls[i]? = some l)(j:Nat)(hj:j<i+1):catF i (strs (ls.take i)) (qx [DV.str l] 1) j=strs (ls.take i++[l]) j:=by
 have hi:=(pq.1 h).1;have:=wg (ls.take i) l (qx [DV.str l] 1) rfl j (by rw[lu];omega)
 rwa [lu,ay (by omega)] at this
theorem zv1(n0:List UInt8)(hn0:qb n0):FnOk Tryz.prog 171 [.d (.str n0)] (.d (.sl (qq n0).isEmpty (qq n0).length 1 (strs (qq n0)))):=by
 refine qu (TT:=TT) (IN:=qe [(193,Tryz.f193,1),(208,Tryz.f208,2),(70,Tryz.f70,1),(106,Tryz.f106,2),(107,Tryz.f107,1),(139,Tryz.f139,2)]) qg (jh (jh (jh (jh (jh (jh qh Tryz.func139 (by kernel_rfl) (by kernel_rfl)) Tryz.func107 (by kernel_rfl) (by kernel_rfl)) Tryz.func106 (by kernel_rfl) (by kernel_rfl)) Tryz.func70 (by kernel_rfl) (by kernel_rfl)) Tryz.func208 (by kernel_rfl) (by kernel_rfl)) Tryz.func193 (by kernel_rfl) (by kernel_rfl)) mixed 1000 Tryz.func171 rfl (qd Tryz.func171 (by kernel_rfl) rfl) rfl 10 (by kernel_rfl) ?_;conv=>whnf
 refine oD (xc n0 (by have:=hn0.2.1;omega)) rfl rfl ?_;have hn:qb (fold n0):=qy0 hn0;conv=>whnf
 refine oD (yq (fold n0)) rfl rfl ?_;rw[if_pos hn];conv=>whnf
 refine brF rfl ?_;have hlf:=ja0 hn0;generalize hnn:fold n0=n at hn hlf ⊢;conv=>whnf
 have hflok:=qw5 hn0;obtain⟨hn1,hn2,hn3⟩:=z7 hn;have hend:∀ i,qj (labN n) i<n.length:=fun i=>by have:=je6 (labN n) i;rw [<-hn3] at this;exact this
 have hbt:∀ i l,(labN n)[i]? = some l->bt n (qj (labN n) i)=l.length:=fun i l h=>by
  have:=jf3 hn2 h;rw [<-hn3] at this;exact this
 have hbe:bt n (qj (labN n) (labN n).length)=0:=by
  have:=jf4 (labN n);rw [<-hn3] at this;exact this
 have hll:=jq3 (labN n);rw [<-hn3] at hll;have hlab:∀ i l,(labN n)[i]? = some l->(n.drop (qj (labN n) i+1)).take l.length=l:=fun i l h=>by
  have:=yp9 h;rw [<-hn3] at this;exact this
 generalize hls:labN n=ls at hn2 hn3 hend hbt hbe hll hlf hlab;have hcnt:∀ i,i<=ls.length->i<=qj ls i:=fun i=>by
  induction i with
  |zero=>intro _;exact pz _
  |succ i ih =>
   intro h;have:=ih (by omega);have:=jn5 (ls:=ls) (i:=i) (j:=i+1) (by omega) h;omega
 have hlc:=hcnt ls.length (pr _);refine .nilC 1 0 9 1 (strs []) _ _ _ _ rfl rfl ?_;conv=>whnf
 refine .inv Nat (fun i=>i<=ls.length) (fun i=>[(3,iV (qj ls i))]) (fun i=>[(4,.cells 3 [iV (qj ls i)]),(7,.row 9 1 i .iff (strs (ls.take i)))]) (fun i=>ls.length - i) ⟨0,[0,1,2,3,4,5,6,7],pz _,?_⟩ ?_
 ·conv=>whnf
  exact rZ2
 intro i hi;have hp:=hend i;conv=>whnf
 refine brT (pn (by omega)) ?_;conv=>whnf
 refine⟨by omega,?_⟩;conv=>whnf
 rw[yo,qa (bt n (qj ls i):Int) (by have:=qc2 n (qj ls i);omega)];rcases oo i ls.length with hlt|hge
 ·have hli:ls[i]? = some ls[i]:=pp hlt;have hb:=hbt i _ hli;have hok:=hn2 _ (d5 hlt);have hps:=qq9 hli;have hp2:=hend (i+1);rw[hb];generalize ls[i]=l at hli hb hok hps;obtain⟨ho1,ho2⟩:=hok;refine brF (by rw[mq];omega) ?_;conv=>whnf
  refine brF (po (by omega)) ?_;conv=>whnf
  have e1:IntKind.i64.wrap ((n.length:Int) - (qj ls i:Int))=((n.length - qj ls i:Nat):Int):=by rw[qa _ (by omega)];omega
  rw[e1];refine brF (po (by omega)) ?_;conv=>whnf
  have e2:IntKind.i64.wrap ((qj ls i:Int)+IntKind.i64.wrap (1+(l.length:Int)))=((qj ls (i+1):Nat):Int):=by rw[qa (1+(l.length:Int)) (by omega),qa _ (by omega)];omega
  rw[e2];have e3:IntKind.i64.wrap ((qj ls i:Int)+1)=((qj ls i+1:Nat):Int):=by rw[qa _ (by omega)];omega
  rw[e3];refine⟨by omega,?_⟩;conv=>whnf
  have hsub:sub n ((qj ls i+1:Nat):Int) ((qj ls (i+1):Nat):Int)=l:=by
   unfold sub;rw[px,px];rw[show qj ls (i+1) - (qj ls i+1)=l.length by omega];exact hlab i l hli
  rw[hsub];refine⟨by omega,?_⟩;conv=>whnf
  refine⟨i+1,[0,1,2,3,4,5,6,9],hlt,by omega,?_⟩;conv=>whnf
  repeat'(first|exact ⟨⟩|exact rfl|exact jd _|exact .inr rfl|exact fun _ _=>rfl|exact noI|apply And.intro)
  exact fun j hj=>by rw[mp,hli];exact ze2 hli j hj
 ·have hil:i=ls.length:=by omega
  subst hil;rw[hbe];conv=>whnf
  refine brT rfl ?_;conv=>whnf
  refine .rel _ (COk.frameX (xr9 .iff ls (by omega)) [7] rfl rfl (by rw[mr];rfl)) (fun y ks' hR=>?_);obtain⟨_,_,⟨rfl,rfl⟩,rfl,rfl⟩:=hR;conv=>whnf
  have hr:qq n0=ls.reverse:=by unfold qq;rw[hlf]
  rw[hr];refine⟨?_,List.length_reverse.symm,.inr rfl,fun _ _=>rfl⟩;rw[ly,Nat.beq_eq,List.isEmpty_iff,List.reverse_eq_nil_iff,sx]
def cmpS(a b:List UInt8):Int:=if Op.bytesLess a b then -1 else if a=b then 0 else 1
def ye:List (List UInt8)->List (List UInt8)->Int
 |[],[]=>0
 |[],_ :: _=>-1
 |_ :: _,[]=>1
 |a :: l,b :: m=>if cmpS a b≠0 then cmpS a b else ye l m
theorem xp5(a b:List UInt8):FnOk Tryz.prog 196 [.d (.str a),.d (.str b)] (.d (.int .i64 (cmpS a b))):=by
 refine qu (TT:=TT) (IN:=qe [(211,Tryz.f211,1)]) qg (jh qh Tryz.func211 (by kernel_rfl) (by kernel_rfl)) mixed 1000 Tryz.func196 rfl (qd Tryz.func196 (by kernel_rfl) rfl) rfl 18 (by kernel_rfl) ?_;conv=>whnf
 refine brF (by simp) ?_;conv=>whnf
 refine brF (by simp) ?_;conv=>whnf
 unfold cmpS;refine⟨fun h=>?_,fun h=>?_⟩
 ·rw[if_pos h];conv=>whnf
  try exact rfl
 rw[if_neg (by rw[h];decide)];conv=>whnf
 rw[h,rt];by_cases e:a=b
 ·rw[if_pos e];refine brF (by simp[e]) ?_;conv=>whnf
  try exact rfl
 ·rw[if_neg e];refine brT (by simp[e]) ?_;conv=>whnf
  try exact rfl
theorem rZ6{p:Prop}(h:p:=by repeat'(first|exact ⟨⟩|exact rfl|exact fun _=>Iff.rfl|exact fun _ _=>rfl|exact renM_ent rfl _|apply And.intro)):p:=h
theorem xj2(y z:Bool)(l m:List (List UInt8))(hl:l.length<=1000000)(hm:m.length<=1000000):FnOk Tryz.prog 174 [.d (.sl y l.length 1 (strs l)),.d (.sl z m.length 1 (strs m))] (.d (.int .i64 (ye l m))):=by
 refine qu (TT:=TT) (IN:=qe []) qg qh mixed 1000 Tryz.func174 rfl (qd Tryz.func174 (by kernel_rfl) rfl) rfl 34 (by kernel_rfl) ?_;conv=>whnf
 refine .inv Nat (fun i=>i<=l.length/\i<=m.length/\ye (l.drop i) (m.drop i)=ye l m) (fun i=>[(11,iV i)]) (fun _=>[]) (fun i=>l.length - i) ⟨0,[],⟨pz _,pz _,rfl⟩,?_⟩ ?_
 ·conv=>whnf
  exact rZ6
 intro i hi;obtain⟨hi1,hi2,hi3⟩:=hi;have hw1:=w64s i (by omega);conv=>whnf
 generalize ye l m=Y at hi3 ⊢;refine⟨fun c0=>?_,fun c0=>?_⟩
 ·have c0':i<l.length:=(by have h:(i:Int)<l.length:=pu c0;omega);rw [l6 c0'] at hi3;conv=>whnf
  refine⟨by omega,?_⟩;conv=>whnf
  by_cases hlt:i<m.length
  case neg =>
   rw [show m.drop i=[] from aq (by omega)] at hi3;simp only [ye] at hi3;rw[<-hi3];refine brT (pn (by omega)) ?_;conv=>whnf
   repeat'(first|exact ⟨⟩|exact rfl|exact fun _=>Iff.rfl|exact fun _ _=>rfl|exact renM_ent rfl _|apply And.intro)
  rw [l6 hlt] at hi3;refine brF (po (by omega)) ?_;conv=>whnf
  refine⟨by omega,?_⟩;conv=>whnf
  rw[px,show l[i]?.getD []=l[i] by rw[pp c0'];rfl,show m[i]?.getD []=m[i] by rw[pp hlt];rfl];refine oD (xp5 _ _) rfl rfl ?_;conv=>whnf
  simp only [ye] at hi3;by_cases hc:cmpS l[i] m[i]=0
  ·rw [if_neg (by simpa using hc)] at hi3;refine brF (by rw[bne_eq_false_iff_eq];exact hc) ?_;conv=>whnf
   rw[hw1];refine⟨i+1,[],⟨c0',hlt,hi3⟩,by omega,?_⟩;conv=>whnf
   exact rZ6
  ·rw [if_pos hc] at hi3;rw[<-hi3];refine brT (by rw[bne_iff_ne];exact hc) ?_;conv=>whnf
   repeat'(first|exact ⟨⟩|exact rfl|exact fun _=>Iff.rfl|exact fun _ _=>rfl|exact renM_ent rfl _|apply And.intro)
 ·have c0':i=l.length:=(by have h:¬ (i:Int)<l.length:=pw c0;omega);rw [show l.drop i=[] from aq (by omega)] at hi3;conv=>whnf
  by_cases hlt:i<m.length
  ·rw [l6 hlt] at hi3;simp only [ye] at hi3;rw[<-hi3];refine brT (pn (by omega)) ?_;conv=>whnf
   repeat'(first|exact ⟨⟩|exact rfl|exact fun _=>Iff.rfl|exact fun _ _=>rfl|exact renM_ent rfl _|apply And.intro)
  ·rw [aq (by omega)] at hi3;simp only [ye] at hi3;rw[<-hi3];refine brF (po (by omega)) ?_;conv=>whnf
   repeat'(first|exact ⟨⟩|exact rfl|exact fun _=>Iff.rfl|exact fun _ _=>rfl|exact renM_ent rfl _|apply And.intro)
theorem xe1{n:List UInt8}(h:qb n):(qq n).length<=255:=by
 obtain⟨h1,h2,h3⟩:=z7 h;unfold qq;rw[List.length_reverse,fl,mn];have:=jj2 (labN n);have e:(labs (labN n)).length+1=(mk (labN n)).length:=by rw[<-qu3,py];rfl
 rw [<-h3] at e;omega
end Go.Proofs.YtoefgnnkajhmiaaGreatDoor
