/-
  The table of types of this seat, as the engine reads it; checked against the program by one closed fact. Written by mktt.py. Contracts of the library at this program, in plain words (written by the kit's lay-plain.mjs). No conditions but those told. label.Check tells whether a text is a name. No conditions. label.Fold puts for each capital letter its small one. No conditions but that the text is shorter than 2 to the 62. Plain parts: lists of texts as cells; names ahead in bytes; branches. No program in sight. rdata: what the functions of package rdata compute: the name with which bytes begin, texts, parts of data by their type, Check. No conditions but lengths where they are named. Records, record.Check. No conditions. strings.Join of texts, as a contract over data (from the shelf). Conditions: lengths. rdata.look, rdata.Fold, sets.Check. No conditions. Two names are one. Names as lists of labels. Plain lemmas. Labels behind one another; the name that bytes begin with. Plain lemmas. Names split into labels. Plain lemmas. Names as their labels; what lies within what. Plain lemmas. Arguments of which less is asked. Plain lemmas. Names are decided; ends of texts. Plain. label.Count. No conditions. A contract over few blocks used among many, its result told as it is. Plain. Zones and forests, plainly: what is right, what is found. No conditions. Maps as lists: of texts, and of what a record says. Plain lemmas. label.Within. No conditions. What stable sorting by merging in place does to the places of elements. Plain lemmas. Of texts those that are the first of their folded text, in the order of these. Plain lemmas. slices.swapRangeCmpFunc, rotateCmpFunc at ints: what they do to a row of places. Conditions: the places lie within the row. label.Parent, Within, Count. No conditions. zone.look: what is known of a zone, in blocks; fits. Conditions: few records. zone.look: take. Conditions: few records. zone.look: sound. Conditions: few records, of right names. A contract's result read otherwise. Plain. Forests, plainly: the zone of a name, what a question comes to. No conditions. zone.see. Conditions: lengths.
-/
import Derived.Test.YtnfoihdifohkeaaRows
import Derived.KernelRfl
import Derived.Shelf.Strings.OnBuilder
import Derived.Shelf.Small.Strs
import Derived.Test.YtnfoihdifohkeaaProg
import Derived.Test.YtnfoihdifohkeaaM4
set_option linter.unusedVariables false
set_option linter.unusedSimpArgs false
namespace Go.Proofs.Ytnfoihdifohkeaa
open Go Go.Eng
def types:List (Nat × TI):=[
 (2,⟨1,8,false,[.d (.int .i64 0)],.int .i64,[]⟩),
 (3,⟨1,8,false,[.d (.int .i64 0)],.int .i64,[]⟩),
 (4,⟨1,1,false,[.d .ff],.bool,[]⟩),
 (5,⟨1,1,false,[.d (.int .u8 0)],.int .u8,[]⟩),
 (6,⟨1,1,false,[.d (.int .u8 0)],.int .u8,[]⟩),
 (7,⟨4,24,true,[.d (.int .i64 0),.d (.int .i64 0),.d .ff,.d (.int .u8 0)],.struct [(0,2),(1,3),(2,4),(3,6)],[.int .i64,.int .i64,.bool,.int .u8]⟩),
 (9,⟨1,16,false,[.d (.str [])],.str,[]⟩),
 (17,⟨1,8,false,[.v (.pointer none)],.ptr 186,[]⟩),
 (18,⟨1,8,true,[.v (.pointer none)],.struct [(0,17)],[]⟩),
 (19,⟨1,8,true,[.v (.pointer none)],.struct [(0,17)],[]⟩),
 (21,⟨1,4,false,[.d (.int .i32 0)],.int .i32,[]⟩),
 (22,⟨1,24,false,[nilS],.slice 49,[]⟩),
 (23,⟨1,24,false,[nilS],.slice 59,[]⟩),
 (24,⟨2,48,true,[nilS,nilS],.struct [(0,22),(1,23)],[]⟩),
 (25,⟨2,48,true,[nilS,nilS],.struct [(0,22),(1,23)],[]⟩),
 (26,⟨1,2,false,[.d (.int .u16 0)],.int .u16,[]⟩),
 (27,⟨1,2,false,[.d (.int .u16 0)],.int .u16,[]⟩),
 (28,⟨3,24,true,[.d (.str []),.d (.int .u16 0),.d (.int .u16 0)],.struct [(0,9),(1,27),(2,26)],[.str,.int .u16,.int .u16]⟩),
 (29,⟨3,24,true,[.d (.str []),.d (.int .u16 0),.d (.int .u16 0)],.struct [(0,9),(1,27),(2,26)],[.str,.int .u16,.int .u16]⟩),
 (31,⟨1,8,false,[.v .nilFunc],.other,[]⟩),
 (32,⟨1,8,false,[.d (.int .i64 0)],.int .i64,[]⟩),
 (33,⟨1,8,false,[.v .nilFunc],.other,[]⟩),
 (34,⟨1,24,false,[nilS],.slice 38,[]⟩),
 (35,⟨1,4,false,[.d (.int .u32 0)],.int .u32,[]⟩),
 (36,⟨1,24,false,[nilS],.slice 9,[]⟩),
 (37,⟨4,48,true,[.d (.str []),.d (.int .u16 0),.d (.int .u32 0),nilS],.struct [(0,9),(1,27),(2,35),(3,36)],[]⟩),
 (38,⟨4,48,true,[.d (.str []),.d (.int .u16 0),.d (.int .u32 0),nilS],.struct [(0,9),(1,27),(2,35),(3,36)],[]⟩),
 (39,⟨6,80,true,[.d (.int .i64 0),nilS,.d (.str []),.d (.int .u16 0),.d (.int .u32 0),nilS],.struct [(0,3),(1,34),(2,38)],[]⟩),
 (40,⟨6,80,true,[.d (.int .i64 0),nilS,.d (.str []),.d (.int .u16 0),.d (.int .u32 0),nilS],.struct [(0,3),(1,34),(2,38)],[]⟩),
 (42,⟨1,8,false,[.v .nilFunc],.other,[]⟩),
 (43,⟨1,8,false,[.v .nilFunc],.other,[]⟩),
 (44,⟨1,8,false,[.v .nilFunc],.other,[]⟩),
 (46,⟨1,8,false,[.v .nilFunc],.other,[]⟩),
 (47,⟨1,24,false,[nilS],.slice 56,[]⟩),
 (48,⟨2,40,true,[.d (.str []),nilS],.struct [(0,9),(1,47)],[]⟩),
 (49,⟨2,40,true,[.d (.str []),nilS],.struct [(0,9),(1,47)],[]⟩),
 (51,⟨1,8,false,[.v .nilFunc],.other,[]⟩),
 (52,⟨1,8,false,[.v .nilFunc],.other,[]⟩),
 (53,⟨1,8,false,[.v .nilFunc],.other,[]⟩),
 (54,⟨1,24,false,[nilS],.slice 5,[]⟩),
 (55,⟨5,40,true,[.d (.str []),.d (.int .u16 0),.d (.int .u16 0),.d (.int .u32 0),.d (.str [])],.struct [(0,9),(1,27),(2,26),(3,35),(4,9)],[.str,.int .u16,.int .u16,.int .u32,.str]⟩),
 (56,⟨5,40,true,[.d (.str []),.d (.int .u16 0),.d (.int .u16 0),.d (.int .u32 0),.d (.str [])],.struct [(0,9),(1,27),(2,26),(3,35),(4,9)],[.str,.int .u16,.int .u16,.int .u32,.str]⟩),
 (57,⟨1,24,false,[nilS],.slice 3,[]⟩),
 (58,⟨2,32,true,[.d (.int .u32 0),nilS],.struct [(0,35),(1,57)],[]⟩),
 (59,⟨2,32,true,[.d (.int .u32 0),nilS],.struct [(0,35),(1,57)],[]⟩),
 (62,⟨1,8,false,[.v .nilFunc],.other,[]⟩),
 (63,⟨1,8,false,[.v .nilFunc],.other,[]⟩),
 (64,⟨1,8,false,[.v (.map none)],.map 9 3,[]⟩),
 (68,⟨1,8,false,[.v .nilFunc],.other,[]⟩),
 (69,⟨1,8,false,[.v .nilFunc],.other,[]⟩),
 (70,⟨1,8,false,[.v .nilFunc],.other,[]⟩),
 (71,⟨1,8,false,[.v .nilFunc],.other,[]⟩),
 (72,⟨1,8,false,[.v .nilFunc],.other,[]⟩),
 (73,⟨1,8,false,[.v (.map none)],.map 137 3,[]⟩),
 (74,⟨1,8,false,[.v (.map none)],.map 9 139,[]⟩),
 (75,⟨4,56,true,[.d (.str []),nilS,.v (.map none),.v (.map none)],.struct [(0,49),(2,73),(3,74)],[]⟩),
 (76,⟨4,56,true,[.d (.str []),nilS,.v (.map none),.v (.map none)],.struct [(0,49),(2,73),(3,74)],[]⟩),
 (78,⟨1,8,false,[.v .nilFunc],.other,[]⟩),
 (80,⟨1,8,false,[.v .nilFunc],.other,[]⟩),
 (83,⟨1,8,false,[.v .nilFunc],.other,[]⟩),
 (86,⟨1,8,false,[.v .nilFunc],.other,[]⟩),
 (89,⟨1,8,false,[.v .nilFunc],.other,[]⟩),
 (90,⟨1,8,false,[.v .nilFunc],.other,[]⟩),
 (93,⟨1,8,false,[.v .nilFunc],.other,[]⟩),
 (96,⟨3,24,true,[.d (.int .i64 0),.d (.int .i64 0),.d (.int .i64 0)],.struct [(0,3),(1,3),(2,3)],[.int .i64,.int .i64,.int .i64]⟩),
 (97,⟨3,24,true,[.d (.int .i64 0),.d (.int .i64 0),.d (.int .i64 0)],.struct [(0,3),(1,3),(2,3)],[.int .i64,.int .i64,.int .i64]⟩),
 (99,⟨1,8,false,[.v .nilFunc],.other,[]⟩),
 (100,⟨3,56,true,[.d (.str []),nilS,.d (.str [])],.struct [(0,9),(1,36),(2,9)],[]⟩),
 (101,⟨3,56,true,[.d (.str []),nilS,.d (.str [])],.struct [(0,9),(1,36),(2,9)],[]⟩),
 (103,⟨1,8,false,[.v .nilFunc],.other,[]⟩),
 (105,⟨1,8,false,[.v .nilFunc],.other,[]⟩),
 (107,⟨1,8,false,[.v .nilFunc],.other,[]⟩),
 (108,⟨1,8,false,[.v (.pointer none)],.ptr 76,[]⟩),
 (111,⟨1,8,false,[.v .nilFunc],.other,[]⟩),
 (115,⟨1,8,false,[.v .nilFunc],.other,[]⟩),
 (118,⟨1,8,false,[.v .nilFunc],.other,[]⟩),
 (120,⟨1,8,false,[.v (.map none)],.map 122 3,[]⟩),
 (122,⟨2,16,true,[.d (.int .i64 0),.d (.int .i64 0)],.array 2 3,[.int .i64,.int .i64]⟩),
 (124,⟨1,8,false,[.v (.map none)],.map 35 3,[]⟩),
 (126,⟨1,8,false,[.v (.pointer none)],.ptr 128,[]⟩),
 (127,⟨2,32,true,[.v (.pointer none),nilS],.struct [(0,126),(1,54)],[]⟩),
 (128,⟨2,32,true,[.v (.pointer none),nilS],.struct [(0,126),(1,54)],[]⟩),
 (129,⟨1,8,false,[.v .nilFunc],.other,[]⟩),
 (131,⟨1,16,false,[.v .nilIface],.iface,[]⟩),
 (135,⟨1,8,false,[.v .nilFunc],.other,[]⟩),
 (136,⟨4,40,true,[.d (.str []),.d (.int .u16 0),.d (.int .u16 0),.d (.str [])],.struct [(0,9),(1,27),(2,26),(3,9)],[.str,.int .u16,.int .u16,.str]⟩),
 (137,⟨4,40,true,[.d (.str []),.d (.int .u16 0),.d (.int .u16 0),.d (.str [])],.struct [(0,9),(1,27),(2,26),(3,9)],[.str,.int .u16,.int .u16,.str]⟩),
 (138,⟨5,40,true,[.d (.int .i64 0),.d (.int .i64 0),.d (.int .i64 0),.d (.int .i64 0),.d (.int .i64 0)],.struct [(0,3),(1,3),(2,3),(3,3),(4,3)],[.int .i64,.int .i64,.int .i64,.int .i64,.int .i64]⟩),
 (139,⟨5,40,true,[.d (.int .i64 0),.d (.int .i64 0),.d (.int .i64 0),.d (.int .i64 0),.d (.int .i64 0)],.struct [(0,3),(1,3),(2,3),(3,3),(4,3)],[.int .i64,.int .i64,.int .i64,.int .i64,.int .i64]⟩),
 (140,⟨1,8,false,[.v .nilFunc],.other,[]⟩),
 (141,⟨1,24,false,[nilS],.slice 144,[]⟩),
 (143,⟨2,40,true,[.d (.str []),nilS],.struct [(0,9),(1,36)],[]⟩),
 (144,⟨2,40,true,[.d (.str []),nilS],.struct [(0,9),(1,36)],[]⟩),
 (147,⟨1,8,false,[.v .nilFunc],.other,[]⟩),
 (149,⟨1,8,false,[.v .nilFunc],.other,[]⟩),
 (151,⟨1,8,false,[.v .nilFunc],.other,[]⟩),
 (152,⟨1,8,false,[.v .nilFunc],.other,[]⟩),
 (155,⟨1,8,false,[.v .nilFunc],.other,[]⟩),
 (159,⟨1,8,false,[.v (.pointer none)],.ptr 5,[]⟩),
 (164,⟨1,8,false,[.v (.pointer none)],.other,[]⟩),
 (167,⟨1,8,false,[.v .nilFunc],.other,[]⟩),
 (173,⟨1,8,false,[.d (.int .u64 0)],.int .u64,[]⟩),
 (174,⟨4,40,true,[.v (.pointer none),.v (.pointer none),.v (.pointer none),.d (.str [])],.struct [(0,17),(1,17),(2,17),(3,9)],[]⟩),
 (180,⟨1,1,false,[.d (.int .u8 0)],.int .u8,[]⟩),
 (181,⟨1,1,false,[.d (.int .u8 0)],.int .u8,[]⟩),
 (183,⟨1,4,false,[.d (.int .i32 0)],.int .i32,[]⟩),
 (184,⟨1,4,false,[.d (.int .i32 0)],.int .i32,[]⟩),
 (186,⟨11,48,true,[.d (.int .u64 0),.d (.int .u64 0),.d (.int .u32 0),.d (.int .u8 0),.d (.int .u8 0),.d (.int .u8 0),.d (.int .u8 0),.v .nilFunc,.v (.pointer none),.d (.int .i32 0),.d (.int .i32 0)],.struct [(0,12),(1,12),(2,35),(3,180),(4,5),(5,5),(6,181),(7,182),(8,159),(9,183),(10,184)],[]⟩)]
def TT(n:Nat):Option TI:=Eng.look types n
set_option maxRecDepth 100000 in
theorem TT_ok:TTok Try.prog TT:=TTok_of_check (P:=Try.prog) (l:=types) (by kernel_rfl)
theorem mixed:Try.prog.follows .mixedOrders=true:=by kernel_rfl
end Go.Proofs.Ytnfoihdifohkeaa
namespace Go.Proofs
open Go.Shelf Go.RowKit
def Try.lays156_ren:Go.Shelf.Ren:=⟨fun|156=>41|165=>58|166=>59|169=>60|240=>78|241=>79|276=>87|277=>88|n=>n,fun|31=>36|9=>9|3=>3|4=>4|0=>0|20=>20|72=>128|76=>132|70=>126|37=>54|75=>131|127=>159|164=>164|5=>5|80=>134|n=>n,fun|n=>n⟩
theorem Try.lays156:Go.Proofs.Lays.n156 Try.prog Try.lays156_ren:={
 mixed:=by kernel_rfl
 f156:=Try.func41.trans (congrArg some (by kernel_rfl))
 f165:=Try.func58.trans (congrArg some (by kernel_rfl))
 f166:=Try.func59.trans (congrArg some (by kernel_rfl))
 f169:=Try.func60.trans (congrArg some (by kernel_rfl))
 f240:=Try.func78.trans (congrArg some (by kernel_rfl))
 f241:=Try.func79.trans (congrArg some (by kernel_rfl))
 f276:=Try.func87.trans (congrArg some (by kernel_rfl))
 f277:=Try.func88.trans (congrArg some (by kernel_rfl))
 t0:=Try.underlying0
 a0:=Try.isAgg0
 z0:=Try.sizeOf0
 v0:=Try.zeroValue0
 t3:=Try.underlying3
 a3:=Try.isAgg3
 z3:=Try.sizeOf3
 v3:=Try.zeroValue3
 t4:=Try.underlying4
 a4:=Try.isAgg4
 z4:=Try.sizeOf4
 v4:=Try.zeroValue4
 t9:=Try.underlying9
 a9:=Try.isAgg9
 z9:=Try.sizeOf9
 v9:=Try.zeroValue9
 t20:=Try.underlying20
 a20:=Try.isAgg20
 z20:=Try.sizeOf20
 v20:=Try.zeroValue20
 t31:=Try.underlying36
 a31:=Try.isAgg36
 z31:=Try.sizeOf36
 v31:=Try.zeroValue36
 t37:=Try.underlying54
 a37:=Try.isAgg54
 z37:=Try.sizeOf54
 v37:=Try.zeroValue54
 t70:=Try.underlying126
 a70:=Try.isAgg126
 z70:=Try.sizeOf126
 v70:=Try.zeroValue126
 t72:=Try.underlying128
 a72:=Try.isAgg128
 z72:=Try.sizeOf128
 v72:=Try.zeroValue128
 t75:=Try.underlying131
 a75:=Try.isAgg131
 z75:=Try.sizeOf131
 v75:=Try.zeroValue131
 t76:=Try.underlying132
 a76:=Try.isAgg132
 z76:=Try.sizeOf132
 v76:=Try.zeroValue132
 t127:=Try.underlying159
 a127:=Try.isAgg159
 z127:=Try.sizeOf159
 v127:=Try.zeroValue159
 t164:=Try.underlying164
 a164:=Try.isAgg164
 z164:=Try.sizeOf164
 v164:=Try.zeroValue164 }
theorem Try.Builder_Extra_156:Builder.Extra Try.prog Try.lays156_ren:={
 sizeBuilder:=by kernel_rfl
 liesBuilder:=by kernel_rfl
 t5:=Try.underlying5
 a5:=Try.isAgg5
 z5:=Try.sizeOf5
 v5:=Try.zeroValue5
 infoByte:=by kernel_rfl
 cellsByte:=by kernel_rfl
 sizeByte:=by kernel_rfl
 neB5:=by decide }
theorem Try.strings_Join_none(a:Option Addr)(c:Nat)(sep:ByteArray)(w:World) :
 Calls Try.prog 41 #[.slice a 0 c,.string sep] w fun e w'=>e = .returned (.string ⟨#[]⟩)∧w'=w:=Any.strings_Join_none Try.lays156 Try.Builder_Extra_156 a c sep w
theorem Try.strings_Join(bk o c:Nat)(xs:List ByteArray)(sep:ByteArray)(w:World)(hcells:∀ (j:Nat) x,xs[j]? = some x→w.cell? ⟨bk,o+j,none⟩=some (.string x))(hbk:bk<w.heap.size)(hN:xs.length≤140737488355328)(hcap:xs.length≤c)(hlen:(Lib.join (xs.map (·.data.toList)) sep.data.toList).length≤140737488355328) :
 Calls Try.prog 41 #[.slice (some ⟨bk,o,none⟩) xs.length c,.string sep] w fun e w'=>e = .returned (.string ⟨(Lib.join (xs.map (·.data.toList)) sep.data.toList).toArray⟩)∧Below w.heap.size w w':=Any.strings_Join Try.lays156 Try.Builder_Extra_156 bk o c xs sep w hcells hbk hN hcap hlen
def Try.lays106_ren:Go.Shelf.Ren:=⟨fun|106=>72|213=>85|265=>95|n=>n,fun|9=>9|3=>3|n=>n,fun|n=>n⟩
theorem Try.lays106:Go.Proofs.Lays.n106 Try.prog Try.lays106_ren:={
 mixed:=by kernel_rfl
 f106:=Try.func72.trans (congrArg some (by kernel_rfl))
 f213:=Try.func85.trans (congrArg some (by kernel_rfl))
 f265:=Try.func95.trans (congrArg some (by kernel_rfl))
 t3:=Try.underlying3
 a3:=Try.isAgg3
 z3:=Try.sizeOf3
 v3:=Try.zeroValue3
 t9:=Try.underlying9
 a9:=Try.isAgg9
 z9:=Try.sizeOf9
 v9:=Try.zeroValue9 }
theorem Try.strings_Compare(a b:ByteArray)(w:World) :
 Calls Try.prog 72 #[.string a,.string b] w fun e w'=>e = .returned (.int .i64 (Lib.compareBytes a.data.toList b.data.toList))∧w'=w:=Any.strings_Compare Try.lays106 a b w
end Go.Proofs
namespace Go.Proofs.Ytnfoihdifohkeaa
open Go Go.Eng
def bt(s:List UInt8)(k:Nat):Nat:=(s[k]?.getD 0).toNat
theorem bt_eq(s:List UInt8)(k:Nat):byteAt s (k:Int)=(bt s k:Int):=by
 unfold byteAt bt;simp
theorem bt_lt(s:List UInt8)(k:Nat):bt s k<256:=UInt8.toNat_lt _
def more(s:List UInt8)(k:Nat):Prop:=k<s.length∧¬ bt s k=0∧bt s k≤63∧bt s k<s.length - k
instance (s:List UInt8) (k:Nat):Decidable (more s k):=by unfold more;infer_instance
def endOf(s:List UInt8):Nat→Nat→Nat
 |0,k=>k
 |m+1,k=>if more s k then endOf s m (k+1+bt s k) else k
def lastOf(s:List UInt8):Nat:=endOf s s.length 0
def At(s:List UInt8)(k:Nat):Prop:=k≤s.length∧∃ m,s.length≤k+m∧endOf s m k=lastOf s
theorem At.zero(s:List UInt8):At s 0:=⟨Nat.zero_le _,s.length,by omega,rfl⟩
theorem At.next{s:List UInt8}{k:Nat}(h:At s k)(hm:more s k):At s (k+1+bt s k):=by
 obtain⟨h1,m,h2,h3⟩:=h
 have:=hm
 obtain⟨a1,a2,a3,a4⟩:=this
 cases m with
 |zero=>omega
 |succ m=>exact⟨by omega,m,by omega,by rw[←h3];simp[endOf,hm]⟩
theorem At.last{s:List UInt8}{k:Nat}(h:At s k)(hm:¬ more s k):k=lastOf s:=by
 obtain⟨h1,m,h2,h3⟩:=h
 rw[←h3]
 cases m <;> simp[endOf,hm]
def isName(s:List UInt8):Prop:=0<s.length∧s.length≤255∧lastOf s=s.length - 1∧bt s (lastOf s)=0
instance (s:List UInt8):Decidable (isName s):=by unfold isName;infer_instance
theorem w64_in(n:Int)(h : -9223372036854775808≤n∧n≤9223372036854775807):IntKind.i64.wrap n=n:=by rw[IntKind.wrap_i64];omega
set_option maxRecDepth 100000
set_option maxHeartbeats 2000000 in
theorem check_ok(s:List UInt8):FnOk Try.prog 20 [.d (.str s)] (.d (.int .i64 (if isName s then 0 else 2))):=by
 refine fnOk_of_run (TT:=TT) (IN:=lookI [(28,Try.f28,1),(50,Try.f50,2)]) TT_ok ?_ mixed 1000 Try.func20 rfl (enters Try.func20 (by kernel_rfl) rfl) rfl 27 (by kernel_rfl) ?_
 ·exact INok_cons (INok_cons INok_nil Try.func50 (by kernel_rfl) (by kernel_rfl)) Try.func28 (by kernel_rfl) (by kernel_rfl)
 conv=>whnf
 refine⟨fun h1=>?_,fun h1=>?_⟩
 ·have:¬ isName s:=fun hn=>by have a:=hn.1;simp at h1;rw [h1] at a;simp at a
  exact congrArg (DV.int _) (by rw[if_neg this])
 have hpos:0<s.length:=by
  rcases Nat.eq_zero_or_pos s.length with e|e
  ·rw [e] at h1;cases h1
  ·exact e
 conv=>whnf
 refine⟨fun h2=>?_,fun h2=>?_⟩
 ·have:¬ isName s:=fun hn=>by have a:=hn.2.1;simp at h2;omega
  exact congrArg (DV.int _) (by rw[if_neg this])
 have hlen:s.length≤255:=by simp at h2;omega
 conv=>whnf
 refine .inv Nat (fun k=>At s k) (fun k=>[(3,.d (.int .i64 k))]) (fun k=>[(0,.cells 3 [.d (.int .i64 k)])]) (fun k=>s.length - k) ⟨0,[0,1,2],At.zero s,?_⟩ ?_
 ·conv=>whnf
  repeat'(first|exact ⟨⟩|exact rfl|apply And.intro)
 intro k hk
 have hkl:=hk.1
 have hby:=bt_lt s k
 have hwb:IntKind.i64.wrap (byteAt s (k:Int))=(bt s k:Int):=by rw[bt_eq,w64_in _ (by omega)]
 have hwl:IntKind.i64.wrap ((s.length:Int) - 1)=(s.length:Int) - 1:=w64_in _ (by omega)
 have key1:¬ more s k→(((k:Int) != IntKind.i64.wrap ((s.length:Int) - 1))=true)→¬ isName s:=fun hm hne hn=>by
  have:=hk.last hm
  obtain⟨_,_,a,_⟩:=hn
  rw [hwl] at hne
  simp at hne
  omega
 have key2:¬ more s k→(((k:Int) != IntKind.i64.wrap ((s.length:Int) - 1))=false)→(bt s k=0↔isName s)∧k<s.length:=fun hm hne=>by
  have:=hk.last hm
  rw [hwl] at hne
  simp at hne
  unfold isName
  rw[←this]
  omega
 conv=>whnf
 refine⟨fun hlt=>?_,fun hge=>?_⟩
 ·have hlt':k<s.length:=by simpa using hlt
  conv=>whnf
  refine⟨by simp;omega,?_⟩
  conv=>whnf
  refine⟨fun h0=>?_,fun h0=>?_⟩
  ·have hm:¬ more s k:=fun hm=>by rw [hwb] at h0;simp at h0;exact hm.2.1 h0
   conv=>whnf
   refine⟨fun e=>congrArg (DV.int _) (by rw[if_neg (key1 hm e)]),fun e=>?_⟩
   obtain⟨e1,e2⟩:=key2 hm e
   conv=>whnf
   refine⟨by simp;omega,?_⟩
   conv=>whnf
   refine⟨fun hz=>?_,fun hz=>?_⟩
   ·exact congrArg (DV.int _) (by rw [if_neg (fun hn=>by rw [bt_eq] at hz;simp at hz;exact hz (e1.2 hn))])
   ·exact congrArg (DV.int _) (by rw [if_pos (e1.1 (by rw [bt_eq] at hz;simpa using hz))])
  ·have h0':¬ bt s k=0:=by rw [hwb] at h0;simpa using h0
   conv=>whnf
   refine⟨fun h3=>?_,fun h3=>?_⟩
   ·have hm:¬ more s k:=fun hm=>by rw [hwb] at h3;simp at h3;have:=hm.2.2.1;omega
    conv=>whnf
    refine⟨fun e=>congrArg (DV.int _) (by rw[if_neg (key1 hm e)]),fun e=>?_⟩
    obtain⟨e1,e2⟩:=key2 hm e
    conv=>whnf
    refine⟨by simp;omega,?_⟩
    conv=>whnf
    refine⟨fun hz=>?_,fun hz=>?_⟩
    ·exact congrArg (DV.int _) (by rw [if_neg (fun hn=>by rw [bt_eq] at hz;simp at hz;exact hz (e1.2 hn))])
    ·exact congrArg (DV.int _) (by rw [if_pos (e1.1 (by rw [bt_eq] at hz;simpa using hz))])
   ·have h3':bt s k≤63:=by rw [hwb] at h3;simp at h3;omega
    conv=>whnf
    have hws:IntKind.i64.wrap ((s.length:Int) - (k:Int))=(s.length:Int) - k:=w64_in _ (by omega)
    refine⟨fun h4=>?_,fun h4=>?_⟩
    ·have hm:¬ more s k:=fun hm=>by rw [hwb,hws] at h4;simp at h4;have:=hm.2.2.2;omega
     conv=>whnf
     refine⟨fun e=>congrArg (DV.int _) (by rw[if_neg (key1 hm e)]),fun e=>?_⟩
     obtain⟨e1,e2⟩:=key2 hm e
     conv=>whnf
     refine⟨by simp;omega,?_⟩
     conv=>whnf
     refine⟨fun hz=>?_,fun hz=>?_⟩
     ·exact congrArg (DV.int _) (by rw [if_neg (fun hn=>by rw [bt_eq] at hz;simp at hz;exact hz (e1.2 hn))])
     ·exact congrArg (DV.int _) (by rw [if_pos (e1.1 (by rw [bt_eq] at hz;simpa using hz))])
    ·have hm:more s k:=⟨hlt',h0',h3',by rw [hwb,hws] at h4;simp at h4;omega⟩
     conv=>whnf
     refine⟨k+1+bt s k,[0,1,2],hk.next hm,by show s.length - (k+1+bt s k)<s.length - k;omega,?_⟩
     have hnx:IntKind.i64.wrap ((k:Int)+IntKind.i64.wrap (1+IntKind.i64.wrap (byteAt s (k:Int))))=((k+1+bt s k:Nat):Int):=by rw[hwb,w64_in (1+(bt s k:Int)) (by omega),w64_in _ (by omega)];omega
     conv=>whnf
     repeat'(first|exact ⟨⟩|exact rfl|apply And.intro)
     all_goals exact congrArg SV.d (congrArg (DV.int _) hnx)
 ·have hm:¬ more s k:=fun hm=>by have:=hm.1;simp at hge;omega
  conv=>whnf
  refine⟨fun e=>congrArg (DV.int _) (by rw[if_neg (key1 hm e)]),fun e=>?_⟩
  obtain⟨e1,e2⟩:=key2 hm e
  conv=>whnf
  refine⟨by simp;omega,?_⟩
  conv=>whnf
  refine⟨fun hz=>?_,fun hz=>?_⟩
  ·exact congrArg (DV.int _) (by rw [if_neg (fun hn=>by rw [bt_eq] at hz;simp at hz;exact hz (e1.2 hn))])
  ·exact congrArg (DV.int _) (by rw [if_pos (e1.1 (by rw [bt_eq] at hz;simpa using hz))])
end Go.Proofs.Ytnfoihdifohkeaa
namespace Go.Proofs.Ytnfoihdifohkeaa
open Go Go.Eng
def low(b:UInt8):UInt8:=if 65≤b∧b≤90 then b+32 else b
def fold(s:List UInt8):List UInt8:=s.map low
theorem low_nat(b:UInt8):(low b).toNat=if 65≤b.toNat∧b.toNat≤90 then b.toNat+32 else b.toNat:=by
 unfold low
 have e1:(65≤b)↔65≤b.toNat:=by rw[UInt8.le_iff_toNat_le];rfl
 have e2:(b≤90)↔b.toNat≤90:=by rw[UInt8.le_iff_toNat_le];rfl
 simp only[e1,e2]
 split
 ·rw[UInt8.toNat_add]
  have:(32:UInt8).toNat=32:=rfl
  omega
 ·rfl
def mix(s:List UInt8)(k j:Nat):Int:=if j<k then ((low (s[j]?.getD 0)).toNat:Int) else (bt s j:Int)
set_option maxRecDepth 100000
set_option maxHeartbeats 2000000 in
theorem fold_ok(s:List UInt8)(hs:s.length<9223372036854775808):FnOk Try.prog 21 [.d (.str s)] (.d (.str (fold s))):=by
 refine fnOk_of_run (TT:=TT) (IN:=lookI []) TT_ok INok_nil mixed 1000 Try.func21 rfl (enters Try.func21 (by kernel_rfl) rfl) rfl 28 (by kernel_rfl) ?_
 conv=>whnf
 refine .inv Nat (fun k=>k≤s.length) (fun k=>[(10,.d (.int .i64 k))]) (fun k=>[(0,.row 5 1 s.length .no (fun j=>[.int .u8 (mix s k j)]))]) (fun k=>s.length - k) ⟨0,[0],by omega,?_⟩ ?_
 ·conv=>whnf
  repeat'(first|exact ⟨⟩|exact rfl|apply And.intro)
  intro i hi
  simp[mix,bt_eq]
 intro k hk
 have hk1:k<s.length→IntKind.i64.wrap ((k:Int)+1)=((k+1:Nat):Int):=fun _=>by rw[w64_in _ (by omega)];omega
 conv=>whnf
 refine⟨fun hlt=>?_,fun hge=>?_⟩
 ·have hlt':k<s.length:=by simpa using hlt
  conv=>whnf
  refine⟨by simp;omega,?_⟩
  have hmk:mix s k (Int.toNat (k:Int))=(bt s k:Int):=by simp[mix]
  have hb:=bt_lt s k
  conv=>whnf
  have stay:¬ (65≤bt s k∧bt s k≤90)→∀ i,i<s.length→[DV.int IntKind.u8 (mix s k i)]=[DV.int IntKind.u8 (mix s (k+1) i)]:=fun hn i hi=>by
   unfold mix
   by_cases e:i=k
   ·subst e
    rw [if_neg (by omega),if_pos (by omega),low_nat,if_neg (by unfold bt at hn;exact hn)]
    rfl
   ·by_cases e2:i<k
    ·rw[if_pos e2,if_pos (by omega)]
    ·rw[if_neg e2,if_neg (by omega)]
  rw[hmk]
  refine⟨fun h1=>?_,fun h1=>?_⟩
  ·conv=>whnf
   refine⟨fun h2=>?_,fun h2=>?_⟩
   ·conv=>whnf
    refine⟨by simp;omega,?_⟩
    conv=>whnf
    refine⟨k+1,[0],by omega,by show s.length - (k+1)<s.length - k;omega,?_⟩
    conv=>whnf
    repeat'(first|exact ⟨⟩|exact rfl|apply And.intro)
    all_goals first
     |exact congrArg SV.d (congrArg (DV.int _) (hk1 hlt'))
     |exact stay (by simp at h1 h2;omega)
     |(
      intro i hi
      show oneF _ _ _ _ i=_
      unfold oneF mix
      simp at h1 h2
      by_cases e:i=k
      ·subst e
       simp only[Int.toNat_natCast,if_true,putD,List.set_cons_zero]
       rw [if_pos (by omega),low_nat,if_pos (by unfold bt at h1 h2;omega),IntKind.wrap_u8]
       unfold bt at *
       congr 2
       omega
      ·rw[if_neg (by simpa using e)]
       show[DV.int _ _]=[DV.int _ _]
       by_cases e2:i<k
       ·rw[if_pos e2,if_pos (by omega)]
       ·rw[if_neg e2,if_neg (by omega)])
   ·conv=>whnf
    refine⟨k+1,[0],by omega,by show s.length - (k+1)<s.length - k;omega,?_⟩
    conv=>whnf
    repeat'(first|exact ⟨⟩|exact rfl|apply And.intro)
    all_goals first
     |exact congrArg SV.d (congrArg (DV.int _) (hk1 hlt'))
     |exact stay (by simp at h1 h2;omega)
     |(
      intro i hi
      show oneF _ _ _ _ i=_
      unfold oneF mix
      simp at h1 h2
      by_cases e:i=k
      ·subst e
       simp only[Int.toNat_natCast,if_true,putD,List.set_cons_zero]
       rw [if_pos (by omega),low_nat,if_pos (by unfold bt at h1 h2;omega),IntKind.wrap_u8]
       unfold bt at *
       congr 2
       omega
      ·rw[if_neg (by simpa using e)]
       show[DV.int _ _]=[DV.int _ _]
       by_cases e2:i<k
       ·rw[if_pos e2,if_pos (by omega)]
       ·rw[if_neg e2,if_neg (by omega)])
  ·conv=>whnf
   refine⟨k+1,[0],by omega,by show s.length - (k+1)<s.length - k;omega,?_⟩
   conv=>whnf
   repeat'(first|exact ⟨⟩|exact rfl|apply And.intro)
   all_goals first
    |exact congrArg SV.d (congrArg (DV.int _) (hk1 hlt'))
    |exact stay (by simp at h1;omega)
    |(
     intro i hi
     show oneF _ _ _ _ i=_
     unfold oneF mix
     simp at h1
     by_cases e:i=k
     ·subst e
      simp only[Int.toNat_natCast,if_true,putD,List.set_cons_zero]
      rw [if_pos (by omega),low_nat,if_pos (by unfold bt at h1;omega),IntKind.wrap_u8]
      unfold bt at *
      congr 2
      omega
     ·rw[if_neg (by simpa using e)]
      show[DV.int _ _]=[DV.int _ _]
      by_cases e2:i<k
      ·rw[if_pos e2,if_pos (by omega)]
      ·rw[if_neg e2,if_neg (by omega)])
 ·have hke:k=s.length:=by simp at hge;omega
  subst hke
  conv=>whnf
  refine⟨fun i _=>⟨_,rfl⟩,?_⟩
  conv=>whnf
  refine congrArg DV.str ?_
  unfold bytesOf fold
  apply List.ext_getElem?
  intro i
  rw[List.getElem?_map,List.getElem?_map]
  by_cases hi:i<s.length
  ·rw[List.getElem?_range hi,List.getElem?_eq_getElem hi]
   simp[mix,hi]
  ·rw[List.getElem?_eq_none (by simp;omega),List.getElem?_eq_none (by omega)]
   rfl
end Go.Proofs.Ytnfoihdifohkeaa
namespace Go.Proofs.Ytnfoihdifohkeaa
open Go Go.Eng
def firstF(s:List UInt8):Nat→Nat→Nat
 |0,_=>0
 |m+1,k=>if k<s.length∧k<255 then (if bt s k=0 then (if isName (s.take (k+1)) then k+1 else 0) else firstF s m (k+1+bt s k)) else 0
def firstN(s:List UInt8):Nat:=firstF s 256 0
def FAt(s:List UInt8)(k:Nat):Prop:=k≤510∧∃ m,256≤k+m∧firstF s m k=firstN s
theorem FAt.zero(s:List UInt8):FAt s 0:=⟨by omega,256,by omega,rfl⟩
theorem FAt.step{s:List UInt8}{k:Nat}(h:FAt s k)(h1:k<s.length)(h2:k<255):(firstN s=if bt s k=0 then (if isName (s.take (k+1)) then k+1 else 0) else firstN s)∧(bt s k≠0→FAt s (k+1+bt s k)):=by
 obtain⟨hk,m,hm,e⟩:=h
 cases m with
 |zero=>omega
 |succ m =>
  simp only [firstF,h1,h2,and_self,if_true] at e
  have:=bt_lt s k
  refine⟨?_,fun hb=>⟨by omega,m,by omega,?_⟩⟩
  ·split
   ·rename_i hb;rw [if_pos hb] at e;exact e.symm
   ·rfl
  ·rw [if_neg hb] at e;exact e
theorem FAt.last{s:List UInt8}{k:Nat}(h:FAt s k)(h1:¬ (k<s.length∧k<255)):firstN s=0:=by
 obtain⟨hk,m,hm,e⟩:=h
 rw[←e]
 cases m with
 |zero=>rfl
 |succ m=>simp only[firstF,if_neg h1]
theorem brT{b:Bool}{p q:Prop}(h:b=true)(hp:p):(b=true→p)∧(b=false→q):=⟨fun _=>hp,fun e=>(by rw [h] at e;cases e)⟩
theorem brF{b:Bool}{p q:Prop}(h:b=false)(hq:q):(b=true→p)∧(b=false→q):=⟨fun e=>(by rw [h] at e;cases e),fun _=>hq⟩
set_option maxRecDepth 100000
def strs(l:List (List UInt8))(i:Nat):List DV:=[.str (l[i]?.getD [])]
theorem strs_cat(l:List (List UInt8))(x:List UInt8)(g:Nat→List DV)(hg:g 0=[.str x]):∀ i,i<l.length+1→catF l.length (strs l) g i=strs (l++[x]) i:=fun i hi=>by
 unfold catF strs
 split
 ·rename_i h;rw[List.getElem?_append_left h]
 ·rename_i h
  have:i=l.length:=by omega
  subst this
  simp[hg]
theorem firstF_le(s:List UInt8):∀ m k,firstF s m k≤s.length∧firstF s m k≤255:=by
 intro m
 induction m with
 |zero=>intro k;simp[firstF]
 |succ m ih =>
  intro k
  simp only[firstF]
  split
  ·split
   ·split
    ·omega
    ·omega
   ·exact ih _
  ·omega
theorem firstN_le(s:List UInt8):firstN s≤s.length∧firstN s≤255:=firstF_le s _ _
def errno(b:Bool):Int:=if b then 0 else 2
theorem lenEq(s:List UInt8)(n:Nat):((s.length:Int) == (n:Int))=(s.length == n):=by
 rw[Bool.eq_iff_iff];simp;omega
end Go.Proofs.Ytnfoihdifohkeaa
namespace Go.Proofs.Ytnfoihdifohkeaa
open Go Go.Eng
set_option maxRecDepth 100000
set_option maxHeartbeats 2000000 in
theorem first_ok(s:List UInt8):FnOk Try.prog 57 [.d (.str s)] (.d (.int .i64 (firstN s))):=by
 refine fnOk_of_run (TT:=TT) (IN:=lookI []) TT_ok INok_nil mixed 1000 Try.func57 rfl (enters Try.func57 (by kernel_rfl) rfl) rfl 30 (by kernel_rfl) ?_
 conv=>whnf
 refine .inv Nat (fun k=>FAt s k) (fun k=>[(3,.d (.int .i64 k))]) (fun k=>[]) (fun k=>600 - k) ⟨0,[],FAt.zero s,?_⟩ ?_
 ·conv=>whnf
  repeat'(first|exact ⟨⟩|exact rfl|apply And.intro)
 intro k hk
 have hk1:=hk.1
 have hby:=bt_lt s k
 conv=>whnf
 refine⟨fun hlt=>?_,fun hge=>?_⟩
 ·conv=>whnf
  refine⟨fun hlt2=>?_,fun hge2=>?_⟩
  ·have h1:k<s.length:=by simpa using hlt
   have h2:k<255:=by simp at hlt2;omega
   obtain⟨e1,e2⟩:=hk.step h1 h2
   conv=>whnf
   refine⟨by simp;omega,?_⟩
   conv=>whnf
   rw[bt_eq]
   refine⟨fun hb=>?_,fun hb=>?_⟩
   ·have hb':bt s k≠0:=by simpa using hb
    conv=>whnf
    refine⟨by simp;omega,?_⟩
    conv=>whnf
    refine⟨k+1+bt s k,[],e2 hb',by show 600 - (k+1+bt s k)<600 - k;omega,?_⟩
    have hnx:IntKind.i64.wrap ((k:Int)+IntKind.i64.wrap (1+IntKind.i64.wrap (byteAt s (k:Int))))=((k+1+bt s k:Nat):Int):=by simp(disch:=omega) only[bt_eq,w64_in];omega
    conv=>whnf
    repeat'(first|exact ⟨⟩|exact rfl|apply And.intro)
    all_goals exact congrArg SV.d (congrArg (DV.int _) hnx)
   ·have hb':bt s k=0:=by simpa using hb
    rw [if_pos hb'] at e1
    have hw:IntKind.i64.wrap ((k:Int)+1)=((k+1:Nat):Int):=by rw[w64_in _ (by omega)];omega
    conv=>whnf
    rw[hw]
    refine⟨by omega,?_⟩
    conv=>whnf
    refine .one (.data _ (check_ok _) rfl rfl ?_)
    have hsub:sub s 0 ((k+1:Nat):Int)=s.take (k+1):=by simp[sub]
    rw[hsub]
    by_cases hn:isName (s.take (k+1))
    ·rw [if_pos hn] at e1 ⊢
     conv=>whnf
     refine brF (by decide) ?_
     conv=>whnf
     refine congrArg (DV.int _) ?_
     rw[e1,hw]
    ·rw [if_neg hn] at e1 ⊢
     conv=>whnf
     refine brT (by decide) ?_
     conv=>whnf
     exact congrArg (DV.int _) (by rw[e1];rfl)
  ·conv=>whnf
   exact congrArg (DV.int _) (by rw [hk.last (by simp at hge2;omega)];rfl)
 ·conv=>whnf
  exact congrArg (DV.int _) (by rw [hk.last (by simp at hge;omega)];rfl)
def textsF:Nat→List UInt8→Option (List (List UInt8))
 |_,[]=>some []
 |0,_ :: _=>none
 |m+1,a :: r=>if a.toNat≤r.length then (textsF m (r.drop a.toNat)).map (r.take a.toNat :: ·) else none
def textsOf(s:List UInt8):Option (List (List UInt8)):=textsF s.length s
def textsOk(s:List UInt8):Bool:=match textsOf s with
 |some l=>decide (0<l.length)
 |none=>false
def TAt(s:List UInt8)(k:Nat)(l:List (List UInt8)):Prop:=k≤s.length∧l.length≤k∧∃ m,s.length≤k+m∧(textsF m (s.drop k)).map (l ++ ·)=textsOf s
theorem TAt.zero(s:List UInt8):TAt s 0 []:=⟨Nat.zero_le _,Nat.zero_le _,s.length,by omega,by simp[textsOf]⟩
theorem TAt.step{s:List UInt8}{k:Nat}{l:List (List UInt8)}(h:TAt s k l)(hk:k<s.length):(s.length<k+1+bt s k→textsOf s=none)∧(k+1+bt s k≤s.length→TAt s (k+1+bt s k) (l++[(s.drop (k+1)).take (bt s k)])):=by
 obtain⟨h1,h2,m,h3,h4⟩:=h
 have hd:s.drop k=s[k] :: s.drop (k+1):=List.drop_eq_getElem_cons hk
 have hb:bt s k=s[k].toNat:=by simp[bt,hk]
 cases m with
 |zero=>omega
 |succ m =>
  rw [hd] at h4
  simp only [textsF,List.length_drop,←hb] at h4
  refine⟨fun hlt=>?_,fun hle=>⟨hle,by simp;omega,m,by omega,?_⟩⟩
  ·rw [if_neg (by omega)] at h4
   simpa using h4.symm
  ·rw [if_pos (by omega),List.drop_drop] at h4
   rw[←h4]
   simp[Function.comp_def]
theorem TAt.last{s:List UInt8}{k:Nat}{l:List (List UInt8)}(h:TAt s k l)(hk:k=s.length):textsOf s=some l:=by
 obtain⟨h1,h2,m,h3,h4⟩:=h
 rw[←h4,hk,List.drop_length]
 cases m <;> simp[textsF]
set_option maxHeartbeats 2000000 in
theorem texts_ok(s:List UInt8)(hs:s.length≤4096):FnOk Try.prog 37 [.d (.str s)] (.tup [.any,.d (.bool (textsOk s))]):=by
 refine fnOk_of_run (TT:=TT) (IN:=lookI []) TT_ok INok_nil mixed 1000 Try.func37 rfl (enters Try.func37 (by kernel_rfl) rfl) rfl 28 (by kernel_rfl) ?_
 conv=>whnf
 refine .nilT 4 9 1 (fun _=>[]) _ _ rfl ?_
 conv=>whnf
 refine .inv (Nat × List (List UInt8)) (fun p=>TAt s p.1 p.2) (fun p=>[(0,.d (.str (s.drop p.1))),(4,.all 0)]) (fun p=>[(0,.row 9 1 p.2.length .iff (strs p.2))]) (fun p=>s.length - p.1) ⟨(0,[]),[0],TAt.zero s,?_⟩ ?_
 ·conv=>whnf
  repeat'(first|exact ⟨⟩|exact rfl|apply And.intro)
  intro i hi
  exact absurd hi (by simp)
 intro p hk
 have hk0:p.1≤s.length:=hk.1
 have hk2:p.2.length≤p.1:=hk.2.1
 have hby:=bt_lt s p.1
 have hlen:(s.drop p.1).length=s.length - p.1:=by simp
 conv=>whnf
 refine⟨fun hne=>?_,fun heq=>?_⟩
 ·have hlt:p.1<s.length:=by
   rcases Nat.lt_or_ge p.1 s.length with e|e
   ·exact e
   ·rw [List.drop_eq_nil_of_le e] at hne;simp at hne
  obtain⟨e1,e2⟩:=TAt.step hk hlt
  have hb0:byteAt (s.drop p.1) 0=(bt s p.1:Int):=by
   rw[show(0:Int)=((0:Nat):Int) from rfl,bt_eq]
   simp[bt]
  conv=>whnf
  refine⟨by omega,?_⟩
  have hsz:IntKind.i64.wrap (1+IntKind.i64.wrap (byteAt (s.drop p.1) 0))=((1+bt s p.1:Nat):Int):=by rw[hb0];simp(disch:=omega) only[w64_in];omega
  conv=>whnf
  rw[hsz]
  refine⟨fun hgt=>?_,fun hle=>?_⟩
  ·conv=>whnf
   refine⟨True.intro,?_,True.intro⟩
   have:textsOk s=false:=by unfold textsOk;rw [e1 (by simp at hgt;omega)]
   rw[this]
   exact rfl
  ·have hle':p.1+1+bt s p.1≤s.length:=by simp at hle;omega
   conv=>whnf
   refine⟨by omega,?_⟩
   conv=>whnf
   refine⟨by omega,?_⟩
   conv=>whnf
   refine⟨by omega,?_⟩
   conv=>whnf
   refine⟨(p.1+1+bt s p.1,p.2++[(s.drop (p.1+1)).take (bt s p.1)]),[2],e2 hle',by show s.length - (p.1+1+bt s p.1)<s.length - p.1;omega,?_⟩
   conv=>whnf
   repeat'(first|exact ⟨⟩|exact rfl|apply And.intro)
   ·refine congrArg SV.d (congrArg DV.str ?_)
    show sub (s.drop p.1) _ _=s.drop (p.1+1+bt s p.1)
    simp only[sub,Int.toNat_natCast,List.drop_drop]
    rw[List.take_of_length_le (by simp;omega)]
    congr 1
    omega
   ·simp
   ·refine strs_cat _ _ _ ?_
    show[DV.str _]=[DV.str _]
    congr 2
    simp only[sub,Int.toNat_natCast,List.drop_drop]
    rw[show(1:Int).toNat=1 from rfl]
    congr 1
    omega
 ·have hke:p.1=s.length:=by
   simp at heq
   omega
  conv=>whnf
  refine⟨True.intro,?_,True.intro⟩
  have:textsOk s=decide (0<p.2.length):=by unfold textsOk;rw[TAt.last hk hke]
  rw[this]
  refine congrArg DV.bool ?_
  simp
def namesF:Nat→List UInt8→Option (List (List UInt8) × List UInt8)
 |0,s=>some ([],s)
 |n+1,s=>if firstN s=0 then none else (namesF n (s.drop (firstN s))).map (fun p=>(s.take (firstN s) :: p.1,p.2))
def cutF(a n c:Nat)(s:List UInt8):Option (List UInt8 × List (List UInt8) × List UInt8) :=
 if s.length<2 * a then none else (namesF n (s.drop (2 * a))).bind fun p=>if p.2.length=4 * c then some (s.take (2 * a),p.1,p.2) else none
def partsV(x:List UInt8)(l:List (List UInt8))(r:List UInt8):SV:=.agg [.d (.str x),.d (.sl (Nat.beq l.length 0) l.length 1 (strs l)),.d (.str r)]
def noParts:SV:=.agg [.d (.str []),nilS,.d (.str [])]
def cutR:Option (List UInt8 × List (List UInt8) × List UInt8)→SV
 |none=>.tup [noParts,.d .ff]
 |some (x,l,r)=>.tup [partsV x l r,.d .tt]
structure NAt(n:Nat)(s:List UInt8)(i:Nat)(l:List (List UInt8))(r:List UInt8):Prop where
 le:i≤n
 len:l.length=i
 short:r.length≤s.length
 eq:(namesF (n - i) r).map (fun p=>(l++p.1,p.2))=namesF n s
theorem NAt.zero(n:Nat)(s:List UInt8):NAt n s 0 [] s:=⟨Nat.zero_le _,rfl,Nat.le_refl _,by simp⟩
theorem NAt.step{n:Nat}{s:List UInt8}{i:Nat}{l:List (List UInt8)}{r:List UInt8}(h:NAt n s i l r)(hi:i<n):(firstN r=0→namesF n s=none)∧(firstN r≠0→NAt n s (i+1) (l++[r.take (firstN r)]) (r.drop (firstN r))):=by
 have e:=h.eq
 rw [show n - i=(n - (i+1))+1 from by omega] at e
 simp only [namesF] at e
 refine ⟨fun h0=>by rw [if_pos h0] at e;simpa using e.symm,fun h0=>⟨hi,by simp [h.len],by have:=h.short;simp;omega,?_⟩⟩
 rw [if_neg h0] at e
 rw[←e]
 simp[Function.comp_def]
theorem NAt.last{n:Nat}{s:List UInt8}{l:List (List UInt8)}{r:List UInt8}(h:NAt n s n l r):namesF n s=some (l,r):=by
 rw[←h.eq]
 simp[namesF]
set_option maxHeartbeats 4000000 in
theorem cut_ok(a n c:Nat)(ha:a≤100)(hn:n≤100)(hc:c≤100)(s:List UInt8):FnOk Try.prog 39 [.agg [.d (.int .i64 a),.d (.int .i64 n),.d (.int .i64 c)],.d (.str s)] (cutR (cutF a n c s)):=by
 refine fnOk_of_run (TT:=TT) (IN:=lookI []) TT_ok INok_nil mixed 1000 Try.func39 rfl (enters Try.func39 (by kernel_rfl) rfl) rfl 56 (by kernel_rfl) ?_
 have h2a:IntKind.i64.wrap (2 * (a:Int))=((2 * a:Nat):Int):=by rw[w64_in _ (by omega)];omega
 have h4c:IntKind.i64.wrap (4 * (c:Int))=((4 * c:Nat):Int):=by rw[w64_in _ (by omega)];omega
 conv=>whnf
 rw[h2a]
 refine⟨fun hlt=>?_,fun hge=>?_⟩
 ·have:cutF a n c s=none:=by unfold cutF;rw [if_pos (by simp at hlt;omega)]
  rw[this]
  conv=>whnf
  repeat'(first|exact ⟨⟩|exact rfl|exact Or.inl rfl|exact Or.inr rfl|exact fun _ _=>rfl|apply And.intro)
 ·have hge':2 * a≤s.length:=by simp at hge;omega
  conv=>whnf
  rw[h2a]
  refine⟨by omega,?_⟩
  conv=>whnf
  rw[h2a]
  refine⟨by omega,?_⟩
  conv=>whnf
  refine .nilC 2 1 9 1 (fun _=>[]) _ _ _ _ rfl rfl ?_
  conv=>whnf
  have hr0:sub s ((2 * a:Nat):Int) (s.length:Int)=s.drop (2 * a):=by
   simp only[sub,Int.toNat_natCast]
   rw[List.take_of_length_le (by simp)]
  have hx0:sub s 0 ((2 * a:Nat):Int)=s.take (2 * a):=by simp only[sub,Int.toNat_natCast];simp
  rw[hr0,hx0]
  refine .inv (Nat × List (List UInt8) × List UInt8) (fun p=>NAt n (s.drop (2 * a)) p.1 p.2.1 p.2.2) (fun p=>[(7,.d (.str p.2.2)),(29,.d (.int .i64 p.1))]) (fun p=>[(2,.cells 101 [.d (.str (s.take (2 * a))),.all 3,.d (.str [])]),(3,.row 9 1 p.2.1.length .iff (strs p.2.1))]) (fun p=>n - p.1) ⟨(0,[],s.drop (2 * a)),[0,1,2,3],NAt.zero _ _,?_⟩ ?_
  ·conv=>whnf
   repeat'(first|exact ⟨⟩|exact rfl|apply And.intro)
   intro i hi
   omega
  intro p hp
  have hp1:=hp.le
  have hp2:=hp.len
  have hp3:=hp.short
  have hf:=firstN_le p.2.2
  simp only [List.length_drop] at hp3
  conv=>whnf
  refine⟨fun hlt=>?_,fun hge=>?_⟩
  ·have hi:p.1<n:=by simpa using hlt
   obtain⟨e1,e2⟩:=hp.step hi
   conv=>whnf
   refine .one (.data _ (first_ok _) rfl rfl ?_)
   conv=>whnf
   refine⟨fun h0=>?_,fun h0=>?_⟩
   ·have h0':firstN p.2.2=0:=by simpa using h0
    have:cutF a n c s=none:=by unfold cutF;rw[if_neg (by omega),e1 h0'];rfl
    rw[this]
    conv=>whnf
    repeat'(first|exact ⟨⟩|exact rfl|exact Or.inl rfl|exact Or.inr rfl|exact fun _ _=>rfl|apply And.intro)
   ·have h0':firstN p.2.2≠0:=by simpa using h0
    conv=>whnf
    refine⟨by omega,?_⟩
    conv=>whnf
    refine⟨by omega,?_⟩
    conv=>whnf
    refine⟨by omega,?_⟩
    conv=>whnf
    refine⟨(p.1+1,p.2.1++[p.2.2.take (firstN p.2.2)],p.2.2.drop (firstN p.2.2)),[0,1,2,5],e2 h0',by show n - (p.1+1)<n - p.1;omega,?_⟩
    have hw:IntKind.i64.wrap ((p.1:Int)+1)=((p.1+1:Nat):Int):=by rw[w64_in _ (by omega)];omega
    conv=>whnf
    repeat'(first|exact ⟨⟩|exact rfl|apply And.intro)
    ·refine congrArg SV.d (congrArg DV.str ?_)
     simp only[sub,Int.toNat_natCast]
     rw[List.take_of_length_le (by simp)]
    ·exact congrArg SV.d (congrArg (DV.int _) hw)
    ·simp
    ·refine strs_cat _ _ _ ?_
     show[DV.str _]=[DV.str _]
     simp[sub]
  ·have hi:p.1=n:=by simp at hge;omega
   rw [hi] at hp
   have hnm:=hp.last
   conv=>whnf
   rw[h4c]
   refine⟨fun hne=>?_,fun heq=>?_⟩
   ·have:cutF a n c s=none:=by unfold cutF;rw [if_neg (by omega),hnm];simp at hne ⊢;omega
    rw[this]
    conv=>whnf
    repeat'(first|exact ⟨⟩|exact rfl|exact Or.inl rfl|exact Or.inr rfl|exact fun _ _=>rfl|apply And.intro)
   ·have:cutF a n c s=some (s.take (2 * a),p.2.1,p.2.2):=by unfold cutF;rw [if_neg (by omega),hnm];simp at heq ⊢;omega
    rw[this]
    conv=>whnf
    repeat'(first|exact ⟨⟩|exact rfl|exact Or.inl rfl|exact Or.inr rfl|exact fun _ _=>rfl|apply And.intro)
def formOf(t:Int):Option (Nat × Nat × Nat) :=
 if t=2∨t=5∨t=12 then some (0,1,0) else if t=15 then some (1,1,0) else if t=33 then some (3,1,0) else if t=6 then some (0,2,5) else none
def formV(p:Nat × Nat × Nat):SV:=.agg [.d (.int .i64 p.1),.d (.int .i64 p.2.1),.d (.int .i64 p.2.2)]
def formR:Option (Nat × Nat × Nat)→SV
 |some p=>.tup [formV p,.d .tt]
 |none=>.tup [formV (0,0,0),.d .ff]
theorem formOf_le{t:Int}{p:Nat × Nat × Nat}(h:formOf t=some p):p.1≤100∧p.2.1≤100∧p.2.2≤100:=by
 unfold formOf at h
 repeat'(split at h)
 all_goals first|(cases h;decide)|cases h
set_option maxHeartbeats 4000000 in
theorem formOf_ok(t:Int):FnOk Try.prog 38 [.d (.int .u16 t)] (formR (formOf t)):=by
 refine fnOk_of_run (TT:=TT) (IN:=lookI []) TT_ok INok_nil mixed 1000 Try.func38 rfl (enters Try.func38 (by kernel_rfl) rfl) rfl 19 (by kernel_rfl) ?_
 have fin1:t=2∨t=5∨t=12→formOf t=some (0,1,0):=fun h=>by unfold formOf;rw[if_pos h]
 conv=>whnf
 refine⟨fun h1=>?_,fun h1=>?_⟩
 ·rw[fin1 (.inl (by simpa using h1))]
  conv=>whnf
  refine brT h1 ?_
  conv=>whnf
  repeat'(first|exact ⟨⟩|exact rfl|apply And.intro)
 simp only [beq_eq_false_iff_ne,ne_eq] at h1
 conv=>whnf
 refine⟨fun h2=>?_,fun h2=>?_⟩
 ·rw[fin1 (.inr (.inl (by simpa using h2)))]
  conv=>whnf
  refine brT h2 ?_
  conv=>whnf
  repeat'(first|exact ⟨⟩|exact rfl|apply And.intro)
 simp only [beq_eq_false_iff_ne,ne_eq] at h2
 conv=>whnf
 refine⟨fun h3=>?_,fun h3=>?_⟩
 ·rw[fin1 (.inr (.inr (by simpa using h3)))]
  conv=>whnf
  repeat'(first|exact ⟨⟩|exact rfl|apply And.intro)
 simp only [beq_eq_false_iff_ne,ne_eq] at h3
 conv=>whnf
 refine⟨fun h4=>?_,fun h4=>?_⟩
 ·have:formOf t=some (1,1,0):=by unfold formOf;simp at h4;simp [h4]
  rw[this]
  conv=>whnf
  repeat'(first|exact ⟨⟩|exact rfl|apply And.intro)
 simp only [beq_eq_false_iff_ne,ne_eq] at h4
 conv=>whnf
 refine⟨fun h5=>?_,fun h5=>?_⟩
 ·have:formOf t=some (3,1,0):=by unfold formOf;simp at h5;simp [h5]
  rw[this]
  conv=>whnf
  repeat'(first|exact ⟨⟩|exact rfl|apply And.intro)
 simp only [beq_eq_false_iff_ne,ne_eq] at h5
 conv=>whnf
 refine⟨fun h6=>?_,fun h6=>?_⟩
 ·have:formOf t=some (0,2,5):=by unfold formOf;simp at h6;simp [h6]
  rw[this]
  conv=>whnf
  repeat'(first|exact ⟨⟩|exact rfl|apply And.intro)
 simp only [beq_eq_false_iff_ne,ne_eq] at h6
 have:formOf t=none:=by unfold formOf;simp[h1,h2,h3,h4,h5,h6]
 rw[this]
 conv=>whnf
 repeat'(first|exact ⟨⟩|exact rfl|apply And.intro)
def rgood(t:Int)(s:List UInt8):Bool :=
 if t=1 then s.length == 4 else if t=28 then s.length == 16 else if t=16 then textsOk s else match formOf t with
 |some p=>(cutF p.1 p.2.1 p.2.2 s).isSome
 |none=>true
def rcheck(t:Int)(s:List UInt8):Bool:=decide (s.length≤4096) && rgood t s
set_option maxHeartbeats 4000000 in
theorem rcheck_ok(t:Int)(s:List UInt8):FnOk Try.prog 22 [.d (.int .u16 t),.d (.str s)] (.d (.int .i64 (errno (rcheck t s)))):=by
 refine fnOk_of_run (TT:=TT) (IN:=lookI []) TT_ok INok_nil mixed 1000 Try.func22 rfl (enters Try.func22 (by kernel_rfl) rfl) rfl 43 (by kernel_rfl) ?_
 conv=>whnf
 refine⟨fun h0=>?_,fun h0=>?_⟩
 ·have:rcheck t s=false:=by unfold rcheck;simp at h0;simp;intro h;omega
  rw[this]
  conv=>whnf
  exact rfl
 have hle:s.length≤4096:=by simp at h0;omega
 have hr:rcheck t s=rgood t s:=by unfold rcheck;simp[hle]
 rw[hr]
 have hlast:∀ b:Bool,rgood t s=b→(((!b)=true→(if rgood t s=true then (0:Int) else 2)=2)∧((!b)=false→(if rgood t s=true then (0:Int) else 2)=0)):=fun b h=>by rw[h];cases b <;> simp
 conv=>whnf
 refine⟨fun h1=>?_,fun h1=>?_⟩
 ·simp only [beq_iff_eq] at h1
  have e:rgood t s=((s.length:Int) == 4):=by unfold rgood;rw[if_pos h1,←lenEq];rfl
  obtain⟨l1,l2⟩:=hlast _ e
  conv=>whnf
  refine⟨fun h=>?_,fun h=>?_⟩
  ·conv=>whnf
   exact congrArg (DV.int _) (l1 h).symm
  ·conv=>whnf
   exact congrArg (DV.int _) (l2 h).symm
 simp only [beq_eq_false_iff_ne,ne_eq] at h1
 conv=>whnf
 refine⟨fun h2=>?_,fun h2=>?_⟩
 ·simp only [beq_iff_eq] at h2
  have e:rgood t s=((s.length:Int) == 16):=by unfold rgood;rw[if_neg h1,if_pos h2,←lenEq];rfl
  obtain⟨l1,l2⟩:=hlast _ e
  conv=>whnf
  refine⟨fun h=>?_,fun h=>?_⟩
  ·conv=>whnf
   exact congrArg (DV.int _) (l1 h).symm
  ·conv=>whnf
   exact congrArg (DV.int _) (l2 h).symm
 simp only [beq_eq_false_iff_ne,ne_eq] at h2
 conv=>whnf
 refine⟨fun h3=>?_,fun h3=>?_⟩
 ·simp only [beq_iff_eq] at h3
  have e:rgood t s=textsOk s:=by unfold rgood;rw[if_neg h1,if_neg h2,if_pos h3]
  obtain⟨l1,l2⟩:=hlast _ e
  conv=>whnf
  refine .one (.data _ (texts_ok s hle) rfl rfl ?_)
  conv=>whnf
  refine⟨fun h=>?_,fun h=>?_⟩
  ·conv=>whnf
   exact congrArg (DV.int _) (l1 h).symm
  ·conv=>whnf
   exact congrArg (DV.int _) (l2 h).symm
 simp only [beq_eq_false_iff_ne,ne_eq] at h3
 conv=>whnf
 refine .one (.data _ (formOf_ok t) rfl ?_ ?_)
 ·cases formOf t <;> rfl
 cases hf:formOf t with
 |none =>
  have e:rgood t s=true:=by unfold rgood;rw[if_neg h1,if_neg h2,if_neg h3,hf]
  obtain⟨l1,l2⟩:=hlast _ e
  conv=>whnf
  refine brF (by simpa using h0) ?_
  conv=>whnf
  exact congrArg (DV.int _) (l2 rfl).symm
 |some p =>
  obtain⟨f1,f2,f3⟩:=formOf_le hf
  have e:rgood t s=(cutF p.1 p.2.1 p.2.2 s).isSome:=by unfold rgood;rw[if_neg h1,if_neg h2,if_neg h3,hf]
  obtain⟨l1,l2⟩:=hlast _ e
  conv=>whnf
  refine .one (.data _ (cut_ok p.1 p.2.1 p.2.2 f1 f2 f3 s) rfl ?_ ?_)
  ·cases cutF p.1 p.2.1 p.2.2 s <;> rfl
  cases hc:cutF p.1 p.2.1 p.2.2 s with
  |none =>
   rw [hc] at l1
   conv=>whnf
   exact congrArg (DV.int _) (l1 rfl).symm
  |some q =>
   rw [hc] at l2
   conv=>whnf
   exact congrArg (DV.int _) (l2 rfl).symm
end Go.Proofs.Ytnfoihdifohkeaa
namespace Go.Proofs.Ytnfoihdifohkeaa
open Go Go.Eng
structure RR where
 nm:List UInt8
 ty:Int
 cl:Int
 ttl:Int
 d:List UInt8
deriving Inhabited,DecidableEq
def RR.enc(r:RR):List DV:=[.str r.nm,.int .u16 r.ty,.int .u16 r.cl,.int .u32 r.ttl,.str r.d]
def RR.V(r:RR):SV:=.agg [.d (.str r.nm),.d (.int .u16 r.ty),.d (.int .u16 r.cl),.d (.int .u32 r.ttl),.d (.str r.d)]
def RR.check(r:RR):Bool:=decide (isName r.nm) && rcheck r.ty r.d && (decide (r.ttl≤2147483647) || r.ty == 41)
set_option maxRecDepth 100000
set_option maxHeartbeats 4000000 in
theorem reccheck_ok(r:RR):FnOk Try.prog 61 [r.V] (.d (.int .i64 (errno r.check))):=by
 refine fnOk_of_run (TT:=TT) (IN:=lookI []) TT_ok INok_nil mixed 1000 Try.func61 rfl (enters Try.func61 (by kernel_rfl) rfl) rfl 22 (by kernel_rfl) ?_
 conv=>whnf
 refine .one (.data _ (check_ok r.nm) rfl rfl ?_)
 by_cases hn:isName r.nm
 ·rw[if_pos hn]
  conv=>whnf
  refine brF rfl ?_
  conv=>whnf
  refine .one (.data _ (rcheck_ok r.ty r.d) rfl rfl ?_)
  cases hc:rcheck r.ty r.d
  ·have e:r.check=false:=by simp[RR.check,hc]
   rw[e]
   conv=>whnf
   refine brT rfl ?_
   conv=>whnf
   exact rfl
  ·conv=>whnf
   refine brF rfl ?_
   conv=>whnf
   refine⟨fun c1=>?_,fun c1=>?_⟩
   ·have c1':¬ r.ttl≤2147483647:=by
     have:r.ttl > 2147483647:=of_decide_eq_true c1
     omega
    conv=>whnf
    refine⟨fun c2=>?_,fun c2=>?_⟩
    ·have e:r.check=false:=by
      have:¬ r.ty=41:=by simpa using c2
      simp[RR.check,c1',this]
     rw[e]
     conv=>whnf
     exact rfl
    ·have e:r.check=true:=by
      have:r.ty=41:=by simpa using c2
      simp only[RR.check,hn,hc,decide_true,Bool.true_and,Bool.or_eq_true,beq_iff_eq]
      exact .inr this
     rw[e]
     conv=>whnf
     exact rfl
   ·have c1':r.ttl≤2147483647:=by
     have:¬ r.ttl > 2147483647:=of_decide_eq_false c1
     omega
    have e:r.check=true:=by simp[RR.check,hn,hc,c1']
    rw[e]
    conv=>whnf
    exact rfl
 ·rw[if_neg hn]
  have e:r.check=false:=by simp[RR.check,hn]
  rw[e]
  conv=>whnf
  refine brT rfl ?_
  conv=>whnf
  exact rfl
def rrsD(z:Bool)(l:List RR):DV:=.sl z l.length 5 (fun i=>(l.getD i default).enc)
theorem rr_cat(l:List RR)(q:RR)(j:Nat)(hj:j<l.length+1):catF l.length (fun j=>(l.getD j default).enc) (chunk q.enc 5) j=((l++[q]).getD j default).enc:=by
 unfold catF
 split
 ·rename_i h
  show(l.getD j default).enc=_
  rw[List.getD,List.getD,List.getElem?_append_left h]
 ·rename_i h
  have:j=l.length:=by omega
  subst this
  rw[Nat.sub_self,List.getD,List.getElem?_append_right (Nat.le_refl _),Nat.sub_self]
  rfl
structure RR.Ok(r:RR):Prop where
 ty:0≤r.ty∧r.ty≤65535
 cl:0≤r.cl∧r.cl≤65535
 ttl:0≤r.ttl∧r.ttl≤4294967295
end Go.Proofs.Ytnfoihdifohkeaa
namespace Go.Proofs.Ytnfoihdifohkeaa
open Go Go.Eng
theorem rd_slice{w:World}{M:Nat→Prop}{b:Bool}{n sz:Nat}{f:Nat→List DV}{v:Value}(h:Rd w M (.sl b n sz f) v):(n=0∧v = .slice none 0 0)∨∃ (ad:Addr) (cap:Nat) (u:Nat→Nat→Value),v = .slice (some ad) n cap∧n≤cap ∧
 (0<n→ad.block<w.heap.size∧¬ M ad.block)∧(∀ (i j:Nat) (d:DV),i<n→(f i)[j]? = some d→w.cell? (ad.add (i * sz+j))=some (u i j))∧(∀ (i j:Nat) (d:DV),i<n→(f i)[j]? = some d→Rd w M d (u i j)):=by
 cases h with
 |nil=>exact .inl ⟨rfl,rfl⟩
 |sl _ _ _ ad cap u g1 g3 g4 g5 g6=>exact .inr ⟨ad,cap,u,rfl,g1,g3,g5,g6⟩
theorem join_ok(b:Bool)(l:List (List UInt8))(sep:List UInt8)(hn:l.length≤140737488355328)(hj:(Lib.join l sep).length≤140737488355328):FnOk Try.prog 41 [.d (.sl b l.length 1 (strs l)),.d (.str sep)] (.d (.str (Lib.join l sep))):=by
 refine⟨enters Try.func41 (by kernel_rfl) rfl,fun M w vs _ hM hl hd=>?_⟩
 match vs,hl with
 |[v0,v1],_ =>
  have h0:=den_data (hd 0 _ v0 rfl rfl)
  have h1:=den_str (hd 1 _ v1 rfl rfl)
  subst h1
  rcases rd_slice h0 with⟨hl0,rfl⟩|⟨ad,cap,u,rfl,g1,g3,g5,g6⟩
  ·have:l=[]:=List.eq_nil_of_length_eq_zero hl0
   subst this
   refine(Try.strings_Join_none none 0 ⟨sep.toArray⟩ w).mono ?_
   rintro e w' ⟨rfl,rfl⟩
   exact⟨_,rfl,Step.refl _ _,.d (.str _)⟩
  ·by_cases hz:l=[]
   ·subst hz
    refine(Try.strings_Join_none (some ad) cap ⟨sep.toArray⟩ w).mono ?_
    rintro e w' ⟨rfl,rfl⟩
    exact⟨_,rfl,Step.refl _ _,.d (.str _)⟩
   ·have hpos:0<l.length:=List.length_pos_iff.2 hz
    obtain⟨hb,_⟩:=g3 hpos
    have hu:∀ i,i<l.length→u i 0=strV (l[i]?.getD []):=fun i hi=>by
     have:=g6 i 0 (.str (l[i]?.getD [])) hi rfl
     exact den_str (β:=noE) (.d this)
    have hc0:=g5 0 0 (.str (l[0]?.getD [])) hpos rfl
    have hspot:ad.spot=none:=by
     rw [show ad.add (0 * 1+0)=ad from rfl] at hc0
     unfold World.cell? at hc0
     split at hc0
     ·cases hs:ad.spot with
      |none=>rfl
      |some _=>simp [hs] at hc0
     ·cases hc0
    obtain⟨bk,o,sp⟩:=ad
    simp only at hspot hb
    subst hspot
    have:=Try.strings_Join bk o cap (l.map fun x=>⟨x.toArray⟩) ⟨sep.toArray⟩ w (fun j x hx=>by
     rw [List.getElem?_map,Option.map_eq_some_iff] at hx
     obtain⟨y,hy,rfl⟩:=hx
     have hj:j<l.length:=(List.getElem?_eq_some_iff.1 hy).1
     have h5:=g5 j 0 (.str (l[j]?.getD [])) hj rfl
     rw [hu j hj,add_lit0,hy] at h5
     simpa[strV] using h5) hb (by simpa using hn) (by simpa using g1) (by
      simp only[List.map_map,Function.comp_def,List.toList_toArray,List.map_id']
      exact hj)
    simp only [List.length_map,List.map_map,Function.comp_def,List.toList_toArray,List.map_id'] at this
    refine this.mono ?_
    rintro e w' ⟨rfl,hw⟩
    exact⟨_,rfl,Step.of_below _ hw,.d (.str _)⟩
end Go.Proofs.Ytnfoihdifohkeaa
namespace Go.Proofs.Ytnfoihdifohkeaa
open Go Go.Eng
def lookF(t:Int)(s:List UInt8):Option ((Nat × Nat × Nat) × (List UInt8 × List (List UInt8) × List UInt8)) :=
 if s.length≤4096 then (formOf t).bind fun p=>(cutF p.1 p.2.1 p.2.2 s).map fun q=>(p,q) else none
def lookR:Option ((Nat × Nat × Nat) × (List UInt8 × List (List UInt8) × List UInt8))→SV
 |none=>.tup [.agg [.any,.any,.any],noParts,.d .ff]
 |some (p,x,l,r)=>.tup [formV p,partsV x l r,.d .tt]
set_option maxRecDepth 100000
set_option maxHeartbeats 4000000 in
theorem look_ok(t:Int)(s:List UInt8):FnOk Try.prog 40 [.d (.int .u16 t),.d (.str s)] (lookR (lookF t s)):=by
 refine fnOk_of_run (TT:=TT) (IN:=lookI []) TT_ok INok_nil mixed 1000 Try.func40 rfl (enters Try.func40 (by kernel_rfl) rfl) rfl 32 (by kernel_rfl) ?_
 conv=>whnf
 refine .one (.data _ (formOf_ok t) rfl ?_ ?_)
 ·cases formOf t <;> rfl
 cases hf:formOf t with
 |none =>
  have e:lookF t s=none:=by unfold lookF;rw[hf];split <;> rfl
  rw[e]
  conv=>whnf
  repeat'(first|exact ⟨⟩|exact rfl|exact Or.inl rfl|exact Or.inr rfl|exact fun _ _=>rfl|apply And.intro)
 |some p =>
  obtain⟨f1,f2,f3⟩:=formOf_le hf
  conv=>whnf
  refine⟨fun hgt=>?_,fun hle=>?_⟩
  ·have e:lookF t s=none:=by unfold lookF;rw [if_neg (by simp at hgt;omega)]
   rw[e]
   conv=>whnf
   repeat'(first|exact ⟨⟩|exact rfl|exact Or.inl rfl|exact Or.inr rfl|exact fun _ _=>rfl|apply And.intro)
  ·have e:lookF t s=(cutF p.1 p.2.1 p.2.2 s).map fun q=>(p,q):=by unfold lookF;rw [if_pos (by simp at hle;omega),hf];rfl
   rw[e]
   conv=>whnf
   refine .one (.data _ (cut_ok p.1 p.2.1 p.2.2 f1 f2 f3 s) rfl ?_ ?_)
   ·cases cutF p.1 p.2.1 p.2.2 s <;> rfl
   cases hc:cutF p.1 p.2.1 p.2.2 s with
   |none =>
    conv=>whnf
    (apply Exists.intro;apply Exists.intro;apply And.intro;focus ((conv=>whnf);repeat'(first|exact ⟨⟩|exact rfl|apply And.intro)))
    conv=>whnf
    repeat'(first|exact ⟨⟩|exact rfl|exact Or.inl rfl|exact Or.inr rfl|exact fun _ _=>rfl|apply And.intro)
   |some q =>
    conv=>whnf
    (apply Exists.intro;apply Exists.intro;apply And.intro;focus ((conv=>whnf);repeat'(first|exact ⟨⟩|exact rfl|apply And.intro)))
    conv=>whnf
    repeat'(first|exact ⟨⟩|exact rfl|exact Or.inl rfl|exact Or.inr rfl|exact fun _ _=>rfl|apply And.intro)
def rfold(t:Int)(s:List UInt8):List UInt8:=match lookF t s with
 |none=>s
 |some (_,x,l,r)=>x++fold (Lib.join l [])++r
theorem join_nil(l:List (List UInt8)):Lib.join l []=l.flatten:=by
 induction l with
 |nil=>rfl
 |cons a l ih=>cases l with
  |nil=>simp[Lib.join]
  |cons b l=>simp [Lib.join] at ih ⊢;rw [ih]
theorem namesF_len:∀ (n:Nat) (s:List UInt8) (l:List (List UInt8)) (r:List UInt8),namesF n s=some (l,r)→l.length=n∧l.flatten.length+r.length=s.length:=by
 intro n
 induction n with
 |zero=>intro s l r h;simp only [namesF,Option.some.injEq,Prod.mk.injEq] at h;obtain ⟨rfl,rfl⟩:=h;simp
 |succ n ih =>
  intro s l r h
  simp only [namesF] at h
  split at h
  ·cases h
  ·cases hn:namesF n (s.drop (firstN s)) with
   |none=>rw [hn] at h;cases h
   |some p =>
    rw [hn] at h
    simp only [Option.map_some,Option.some.injEq,Prod.mk.injEq] at h
    obtain⟨rfl,rfl⟩:=h
    obtain⟨h1,h2⟩:=ih _ p.1 p.2 hn
    have:=firstN_le s
    refine⟨by simp[h1],?_⟩
    simp only [List.flatten_cons,List.length_append,List.length_take,List.length_drop] at h2 ⊢
    omega
theorem lookF_len{t:Int}{s:List UInt8}{p:Nat × Nat × Nat}{x:List UInt8}{l:List (List UInt8)}{r:List UInt8}(h:lookF t s=some (p,x,l,r)):s.length≤4096∧l.length≤100∧x.length+l.flatten.length+r.length=s.length:=by
 unfold lookF at h
 split at h
 ·rename_i hs
  cases hf:formOf t with
  |none=>rw [hf] at h;cases h
  |some q =>
   rw [hf] at h
   simp only [Option.bind_some] at h
   cases hc:cutF q.1 q.2.1 q.2.2 s with
   |none=>rw [hc] at h;cases h
   |some c =>
    rw [hc] at h
    simp only [Option.map_some,Option.some.injEq,Prod.mk.injEq] at h
    obtain⟨rfl,rfl⟩:=h
    unfold cutF at hc
    split at hc
    ·cases hc
    ·cases hn:namesF q.2.1 (s.drop (2 * q.1)) with
     |none=>rw [hn] at hc;cases hc
     |some y =>
      rw [hn] at hc
      simp only [Option.bind_some] at hc
      split at hc
      ·simp only [Option.some.injEq,Prod.mk.injEq] at hc
       obtain⟨rfl,rfl,rfl⟩:=hc
       obtain⟨h1,h2⟩:=namesF_len _ _ y.1 y.2 hn
       have:=(formOf_le hf).2.1
       refine⟨hs,by omega,?_⟩
       simp only [List.length_take,List.length_drop] at h2 ⊢
       omega
      ·cases hc
 ·cases h
set_option maxHeartbeats 4000000 in
theorem rfold_ok(t:Int)(s:List UInt8):FnOk Try.prog 23 [.d (.int .u16 t),.d (.str s)] (.d (.str (rfold t s))):=by
 refine fnOk_of_run (TT:=TT) (IN:=lookI []) TT_ok INok_nil mixed 1000 Try.func23 rfl (enters Try.func23 (by kernel_rfl) rfl) rfl 26 (by kernel_rfl) ?_
 conv=>whnf
 refine .one (.data _ (look_ok t s) rfl ?_ ?_)
 ·cases lookF t s <;> rfl
 cases hf:lookF t s with
 |none =>
  have e:rfold t s=s:=by unfold rfold;rw[hf]
  rw[e]
  conv=>whnf
 |some p =>
  obtain⟨p,x,l,r⟩:=p
  obtain⟨h1,h2,h3⟩:=lookF_len hf
  have e:rfold t s=x++fold (Lib.join l [])++r:=by unfold rfold;rw[hf]
  rw[e]
  conv=>whnf
  refine .data _ (join_ok _ l [] (by omega) (by rw[join_nil];omega)) rfl rfl ?_
  conv=>whnf
  refine .data _ (fold_ok _ (by rw[join_nil];omega)) rfl rfl ?_
  have hfl:(fold (Lib.join l [])).length=l.flatten.length:=by rw[join_nil];simp only[fold,List.length_map]
  conv=>whnf
  refine⟨by omega,?_⟩
  conv=>whnf
  refine⟨by simp only[List.length_append];omega,?_⟩
  conv=>whnf
def rising(t:Int):Bool→List UInt8→List (List UInt8)→Bool
 |_,_,[]=>true
 |b,last,d :: l=>rcheck t d && !(b && (Op.bytesLess (rfold t d) last || rfold t d == last)) && rising t true (rfold t d) l
def scheck(name:List UInt8)(t ttl:Int)(l:List (List UInt8)):Bool :=
 isName name && decide (ttl≤2147483647) && decide (0<l.length∧l.length≤64) && rising t false [] l
def setV(name:List UInt8)(t ttl:Int)(b:Bool)(l:List (List UInt8)):SV:=.agg [.d (.str name),.d (.int .u16 t),.d (.int .u32 ttl),.d (.sl b l.length 1 (strs l))]
set_option maxHeartbeats 4000000 in
theorem scheck_ok(name:List UInt8)(t ttl:Int)(b:Bool)(l:List (List UInt8)):FnOk Try.prog 9 [setV name t ttl b l] (.d (.int .i64 (errno (scheck name t ttl l)))):=by
 refine fnOk_of_run (TT:=TT) (IN:=lookI []) TT_ok INok_nil mixed 1000 Try.func9 rfl (enters Try.func9 (by kernel_rfl) rfl) rfl 51 (by kernel_rfl) ?_
 have bad:scheck name t ttl l=false→errno (scheck name t ttl l)=2:=fun h=>by rw[h];rfl
 conv=>whnf
 refine .one (.data _ (check_ok _) rfl rfl ?_)
 by_cases hn:isName name
 ·rw[if_pos hn]
  conv=>whnf
  refine brF (by decide) ?_
  conv=>whnf
  refine⟨fun hgt=>?_,fun hle=>?_⟩
  ·rw [bad (by simp only [scheck,Bool.and_eq_false_iff,decide_eq_false_iff_not];simp at hgt;omega)]
   conv=>whnf
  conv=>whnf
  refine⟨fun h0=>?_,fun h0=>?_⟩
  ·rw [bad (by simp only [scheck,Bool.and_eq_false_iff,decide_eq_false_iff_not];simp at h0;simp [h0])]
   conv=>whnf
  conv=>whnf
  refine⟨fun h1=>?_,fun h1=>?_⟩
  ·rw [bad (by simp only [scheck,Bool.and_eq_false_iff,decide_eq_false_iff_not];simp at h1;omega)]
   conv=>whnf
  have hl:0<l.length∧l.length≤64:=by simp at h0 h1;exact ⟨by rw [List.length_pos_iff];exact h0,by omega⟩
  have hsc:scheck name t ttl l=rising t false [] l:=by
   unfold scheck
   rw[decide_eq_true hl]
   have:ttl≤2147483647:=by simpa using hle
   simp[hn,this]
  rw[hsc]
  conv=>whnf
  refine .inv (Nat × List UInt8) (fun p=>p.1≤l.length∧rising t (decide (0<p.1)) p.2 (l.drop p.1)=rising t false [] l) (fun p=>[(3,.d (.str p.2)),(29,.d (.int .i64 p.1))]) (fun p=>[]) (fun p=>l.length - p.1) ⟨(0,[]),[0],⟨by omega,rfl⟩,?_⟩ ?_
  ·conv=>whnf
   repeat'(first|exact ⟨⟩|exact rfl|apply And.intro)
  intro p hp
  obtain⟨hp1,hp2⟩:=hp
  conv=>whnf
  refine⟨fun hlt=>?_,fun hge=>?_⟩
  ·have hi:p.1<l.length:=by simpa using hlt
   have hd:l.drop p.1=l[p.1] :: l.drop (p.1+1):=List.drop_eq_getElem_cons hi
   rw [hd] at hp2
   simp only [rising] at hp2
   conv=>whnf
   refine⟨by omega,?_⟩
   conv=>whnf
   have hel:l[((p.1:Nat):Int).toNat]?.getD []=l[p.1]:=by simp[hi]
   rw[hel]
   generalize hdd:l[p.1]=d at hp2 ⊢
   refine .one (.data _ (rcheck_ok t d) rfl rfl ?_)
   cases hr:rcheck t d with
   |false =>
    rw [hr,Bool.false_and,Bool.false_and] at hp2
    rw[show rising t false [] l=false from hp2.symm]
    conv=>whnf
    refine brT (by decide) ?_
    conv=>whnf
    exact rfl
   |true =>
    rw [hr,Bool.true_and] at hp2
    conv=>whnf
    refine brF (by decide) ?_
    conv=>whnf
    refine .one (.data _ (rfold_ok t d) rfl rfl ?_)
    conv=>whnf
    have fin:∀ z:Bool,((decide (0<p.1) && (Op.bytesLess (rfold t d) p.2 || rfold t d == p.2))=z)→z=false→rising t true (rfold t d) (l.drop (p.1+1))=rising t false [] l:=fun z h1 h2=>by rw [h2] at h1;rw [h1] at hp2;simpa using hp2
    have hw:IntKind.i64.wrap ((p.1:Int)+1)=((p.1+1:Nat):Int):=by rw[w64_in _ (by omega)];omega
    refine⟨fun hg=>?_,fun hg=>?_⟩
    ·have hg':0<p.1:=by simp at hg;omega
     conv=>whnf
     refine⟨fun hle=>?_,fun hle=>?_⟩
     ·have:(Op.bytesLess (rfold t d) p.2 || rfold t d == p.2)=true:=hle
      rw [this] at hp2
      rw [decide_eq_true hg'] at hp2
      rw[show rising t false [] l=false from hp2.symm]
      conv=>whnf
      exact rfl
     ·conv=>whnf
      refine⟨(p.1+1,rfold t d),[0],⟨hi,?_⟩,by show l.length - (p.1+1)<l.length - p.1;omega,?_⟩
      ·rw[decide_eq_true (Nat.succ_pos _)]
       exact fin _ rfl (by rw[show(Op.bytesLess (rfold t d) p.2 || rfold t d == p.2)=false from hle,Bool.and_false])
      conv=>whnf
      repeat'(first|exact ⟨⟩|exact rfl|apply And.intro)
      all_goals exact congrArg SV.d (congrArg (DV.int _) hw)
    ·have hg':p.1=0:=by simp at hg;omega
     conv=>whnf
     refine⟨(p.1+1,rfold t d),[0],⟨hi,?_⟩,by show l.length - (p.1+1)<l.length - p.1;omega,?_⟩
     ·rw[decide_eq_true (Nat.succ_pos _)]
      exact fin _ rfl (by rw[hg'];rfl)
     conv=>whnf
     repeat'(first|exact ⟨⟩|exact rfl|apply And.intro)
     all_goals exact congrArg SV.d (congrArg (DV.int _) hw)
  ·have hi:p.1=l.length:=by simp at hge;omega
   rw [hi,List.drop_length] at hp2
   rw[←hp2]
   conv=>whnf
   exact congrArg (DV.int _) rfl
 ·rw[if_neg hn]
  rw[bad (by simp[scheck,hn])]
  conv=>whnf
  refine brT (by decide) ?_
  conv=>whnf
end Go.Proofs.Ytnfoihdifohkeaa
namespace Go.Proofs.Ytnfoihdifohkeaa
open Go Go.Eng
def sameN(a b:List UInt8):Bool:=decide (isName a) && (decide (isName b) && fold a == fold b)
theorem fold_len(s:List UInt8):(fold s).length=s.length:=by simp[fold]
theorem isName_short{s:List UInt8}(h:isName s):s.length<9223372036854775808:=by have:=h.2.1;omega
end Go.Proofs.Ytnfoihdifohkeaa
namespace Go.Proofs.Ytnfoihdifohkeaa
open Go Go.Eng
def okL(l:List UInt8):Prop:=1≤l.length∧l.length≤63
def lab(l:List UInt8):List UInt8:=UInt8.ofNat l.length :: l
def mk:List (List UInt8)→List UInt8
 |[]=>[0]
 |l :: ls=>lab l++mk ls
theorem bt_drop(s:List UInt8)(k j:Nat):bt (s.drop k) j=bt s (k+j):=by simp[bt]
theorem more_drop(s:List UInt8)(k:Nat):more s k↔more (s.drop k) 0:=by
 unfold more
 rw[bt_drop,Nat.add_zero,List.length_drop]
 omega
theorem endOf_drop:∀ (m:Nat) (s:List UInt8) (k:Nat),endOf s m k=k+endOf (s.drop k) m 0
 |0,s,k=>rfl
 |m+1,s,k=>by
  simp only[endOf]
  by_cases h:more s k
  ·rw[if_pos h,if_pos ((more_drop s k).1 h),endOf_drop m s,endOf_drop m (s.drop k),bt_drop,List.drop_drop,show k+0=k from rfl]
   have e:k+(0+1+bt s k)=k+1+bt s k:=by omega
   rw[e]
   omega
  ·rw[if_neg h,if_neg (fun e=>h ((more_drop s k).2 e))]
   rfl
theorem toNat_ofNat{n:Nat}(h:n<256):(UInt8.ofNat n).toNat=n:=by
 rw[UInt8.toNat_ofNat'];exact Nat.mod_eq_of_lt h
theorem bt_lab(l t:List UInt8)(h:okL l):bt (lab l++t) 0=l.length:=by
 simp only[bt,lab,List.cons_append,List.getElem?_cons_zero,Option.getD_some]
 exact toNat_ofNat (by have:=h.2;omega)
theorem lab_len(l:List UInt8):(lab l).length=1+l.length:=by simp[lab];omega
theorem mk_pos(ls:List (List UInt8)):0<(mk ls).length:=by cases ls <;> simp[mk,lab]
theorem drop_lab(l t:List UInt8):(lab l++t).drop (1+l.length)=t:=by
 rw[←lab_len l,List.drop_left]
theorem take_lab(l t:List UInt8):(lab l++t).take (1+l.length)=lab l:=by
 rw[←lab_len l,List.take_left]
theorem name_of:∀ (m:Nat) (s:List UInt8),0<s.length→endOf s m 0=s.length - 1→bt s (s.length - 1)=0→∃ ls,(∀ l ∈ ls,okL l)∧s=mk ls
 |m,s,h0,h1,h2=>by
  have leaf:s.length=1→∃ ls,(∀ l ∈ ls,okL l)∧s=mk ls:=fun hl=>by
   match s,hl with
   |[b],_ =>
    refine⟨[],(fun l h=>by cases h),?_⟩
    have:b.toNat=0:=by simpa[bt] using h2
    rw[mk,UInt8.toNat_inj.1 (show b.toNat=(0:UInt8).toNat from this)]
  cases m with
  |zero=>exact leaf (by simp [endOf] at h1;omega)
  |succ m =>
   simp only [endOf] at h1
   split at h1
   ·rename_i hm
    obtain⟨a1,a2,a3,a4⟩:=hm
    rw [endOf_drop] at h1
    have hb:1+bt s 0<s.length:=by omega
    obtain⟨ls,i1,i2⟩:=name_of m (s.drop (0+1+bt s 0)) (by rw[List.length_drop];omega) (by rw[List.length_drop];omega) (by
     rw[bt_drop,List.length_drop,show 0+1+bt s 0+(s.length - (0+1+bt s 0) - 1)=s.length - 1 by omega]
     exact h2)
    refine⟨(s.drop 1).take (bt s 0) :: ls,fun l hl=>?_,?_⟩
    ·rcases List.mem_cons.1 hl with rfl|hl
     ·have:((s.drop 1).take (bt s 0)).length=bt s 0:=by simp;omega
      unfold okL
      omega
     ·exact i1 l hl
    ·rw[mk,←i2]
     have hlen:((s.drop 1).take (bt s 0)).length=bt s 0:=by simp;omega
     unfold lab
     rw[hlen]
     match s,a1 with
     |b :: r,_ =>
      have e:bt (b :: r) 0=b.toNat:=by simp[bt]
      rw[e]
      simp[show 0+1+b.toNat=b.toNat+1 by omega]
   ·exact leaf (by omega)
theorem endOf_mk(ls:List (List UInt8))(h:∀ l ∈ ls,okL l):∀ m,(mk ls).length≤m→endOf (mk ls) m 0=(mk ls).length - 1:=by
 induction ls with
 |nil =>
  intro m hm
  cases m with
  |zero=>rfl
  |succ m =>
   show(if more [0] 0 then endOf [0] m (0+1+bt [0] 0) else 0)=0
   exact if_neg (by rintro ⟨_,h2,_⟩;exact h2 rfl)
 |cons l ls ih =>
  intro m hm
  have hl:=h l (List.mem_cons_self ..)
  have hb:=bt_lab l (mk ls) hl
  have hlen:(mk (l :: ls)).length=1+l.length+(mk ls).length:=by simp[mk,lab_len]
  have hp:=mk_pos ls
  cases m with
  |zero=>omega
  |succ m =>
   simp only[endOf]
   show(if more (mk (l :: ls)) 0 then endOf (mk (l :: ls)) m (0+1+bt (mk (l :: ls)) 0) else 0)=_
   have hbm:bt (mk (l :: ls)) 0=l.length:=hb
   rw[if_pos ⟨by omega,by rw[hbm];have:=hl.1;omega,by rw[hbm];exact hl.2,by rw[hbm];omega⟩,hbm,endOf_drop,Nat.zero_add]
   have:(mk (l :: ls)).drop (1+l.length)=mk ls:=drop_lab l (mk ls)
   rw[this,ih (fun x hx=>h x (List.mem_cons_of_mem _ hx)) m (by omega)]
   omega
theorem last_mk(ls:List (List UInt8)):bt (mk ls) ((mk ls).length - 1)=0:=by
 induction ls with
 |nil=>rfl
 |cons l ls ih =>
  have hlen:(mk (l :: ls)).length=1+l.length+(mk ls).length:=by simp[mk,lab_len]
  have hp:=mk_pos ls
  have e:(mk (l :: ls)).drop (1+l.length)=mk ls:=drop_lab l (mk ls)
  have:=bt_drop (mk (l :: ls)) (1+l.length) ((mk ls).length - 1)
  rw [e,ih] at this
  rw[hlen,show 1+l.length+(mk ls).length - 1=1+l.length+((mk ls).length - 1) by omega]
  exact this.symm
theorem isName_iff(s:List UInt8):isName s↔s.length≤255∧∃ ls,(∀ l ∈ ls,okL l)∧s=mk ls:=by
 constructor
 ·rintro ⟨h1,h2,h3,h4⟩
  exact⟨h2,name_of s.length s h1 h3 (by rw[←h3];exact h4)⟩
 ·rintro ⟨h1,ls,h2,rfl⟩
  have:=endOf_mk ls h2 (mk ls).length (Nat.le_refl _)
  exact⟨mk_pos ls,h1,this,by unfold lastOf;rw[this];exact last_mk ls⟩
theorem mk_inj:∀ {a b:List (List UInt8)},(∀ l ∈ a,okL l)→(∀ l ∈ b,okL l)→mk a=mk b→a=b
 |[],[],_,_,_=>rfl
 |[],l :: b,_,hb,h=>by
  have h1:=hb l (List.mem_cons_self ..)
  have:=bt_lab l (mk b) h1
  rw [show lab l++mk b=mk (l :: b) from rfl,←h] at this
  have h2:=h1.1
  have:(0:Nat)=l.length:=this
  omega
 |l :: a,[],ha,_,h=>by
  have h1:=ha l (List.mem_cons_self ..)
  have:=bt_lab l (mk a) h1
  rw [show lab l++mk a=mk (l :: a) from rfl,h] at this
  have h2:=h1.1
  have:(0:Nat)=l.length:=this
  omega
 |l :: a,k :: b,ha,hb,h=>by
  have h1:=bt_lab l (mk a) (ha l (List.mem_cons_self ..))
  have h2:=bt_lab k (mk b) (hb k (List.mem_cons_self ..))
  have hlen:l.length=k.length:=by
   rw[←h1,←h2]
   show bt (mk (l :: a)) 0=bt (mk (k :: b)) 0
   rw[h]
  have e1:lab l=lab k:=by
   have:=congrArg (List.take (1+l.length)) h
   rw [show mk (l :: a)=lab l++mk a from rfl,take_lab,hlen,show mk (k :: b)=lab k++mk b from rfl,take_lab] at this
   exact this
  have e2:mk a=mk b:=by
   have:=congrArg (List.drop (1+l.length)) h
   rw [show mk (l :: a)=lab l++mk a from rfl,drop_lab,hlen,show mk (k :: b)=lab k++mk b from rfl,drop_lab] at this
   exact this
  have e3:l=k:=(List.cons.inj e1).2
  rw[e3,mk_inj (fun x hx=>ha x (List.mem_cons_of_mem _ hx)) (fun x hx=>hb x (List.mem_cons_of_mem _ hx)) e2]
end Go.Proofs.Ytnfoihdifohkeaa
namespace Go.Proofs.Ytnfoihdifohkeaa
open Go Go.Eng
def labs:List (List UInt8)→List UInt8
 |[]=>[]
 |l :: ls=>lab l++labs ls
theorem labs_append(a b:List (List UInt8)):labs (a++b)=labs a++labs b:=by
 induction a with
 |nil=>rfl
 |cons l a ih=>simp[labs,ih]
theorem labs_mk(a:List (List UInt8)):labs a++[0]=mk a:=by
 induction a with
 |nil=>rfl
 |cons l a ih=>simp[labs,mk,←ih]
theorem labs_len_ge:∀ (l:List (List UInt8)),l.length≤(labs l).length
 |[]=>Nat.le_refl _
 |x :: l=>by
  show l.length+1≤(lab x++labs l).length
  rw[List.length_append,lab_len]
  have:=labs_len_ge l
  omega
end Go.Proofs.Ytnfoihdifohkeaa
namespace Go.Proofs.Ytnfoihdifohkeaa
open Go Go.Eng
def splitN:Nat→List UInt8→Option (List (List UInt8))
 |0,_=>none
 |m+1,r=>if r.length=0 then none else if bt r 0=0 then (if r.length=1 then some [] else none) else
  if bt r 0 > 63∨1+bt r 0 > r.length then none else (splitN m (r.drop (1+bt r 0))).map (fun ls=>(r.drop 1).take (bt r 0) :: ls)
def labelsOf(s:List UInt8):Option (List (List UInt8)):=if s.length > 255 then none else splitN (s.length+1) s
theorem mk_len_cons0(l:List UInt8)(ls:List (List UInt8)):(mk (l :: ls)).length=1+l.length+(mk ls).length:=by simp[mk,lab_len]
theorem splitN_mk:∀ (m:Nat) (r:List UInt8) (ls:List (List UInt8)),splitN m r=some ls→(∀ l ∈ ls,okL l)∧r=mk ls
 |0,_,_,h=>by cases h
 |m+1,r,ls,h=>by
  unfold splitN at h
  split at h
  ·cases h
  ·rename_i h0
   split at h
   ·rename_i h1
    split at h
    ·rename_i h2
     cases h
     refine⟨fun l hl=>(by cases hl),?_⟩
     match r,h2 with
     |[b],_ =>
      have:b.toNat=0:=by simpa[bt] using h1
      rw[mk,UInt8.toNat_inj.1 (show b.toNat=(0:UInt8).toNat from this)]
    ·cases h
   ·rename_i h1
    split at h
    ·cases h
    ·rename_i h2
     obtain⟨ks,hk,rfl⟩:=Option.map_eq_some_iff.1 h
     obtain⟨a1,a2⟩:=splitN_mk m _ ks hk
     have hlen:((r.drop 1).take (bt r 0)).length=bt r 0:=by simp;omega
     refine⟨fun l hl=>?_,?_⟩
     ·rcases List.mem_cons.1 hl with rfl|hl
      ·unfold okL;omega
      ·exact a1 l hl
     ·rw[mk,←a2]
      unfold lab
      rw[hlen]
      match r,h0 with
      |b :: r,_ =>
       have e:bt (b :: r) 0=b.toNat:=by simp[bt]
       rw[e]
       simp[show 1+b.toNat=b.toNat+1 by omega]
theorem splitN_of:∀ (ls:List (List UInt8)) (m:Nat),(∀ l ∈ ls,okL l)→(mk ls).length≤m→splitN m (mk ls)=some ls
 |[],m,_,hm=>by
  cases m with
  |zero =>
   have:(mk []).length=1:=rfl
   omega
  |succ m=>rfl
 |l :: ls,m,h,hm=>by
  have hl:=h l (List.mem_cons_self ..)
  have hlen:=mk_len_cons0 l ls
  have hp:=mk_pos ls
  cases m with
  |zero=>omega
  |succ m =>
   have hb:bt (mk (l :: ls)) 0=l.length:=bt_lab l (mk ls) hl
   have h1:=hl.1
   have h2:=hl.2
   unfold splitN
   rw[if_neg (by omega),hb,if_neg (by omega),if_neg (by omega)]
   have hd:(mk (l :: ls)).drop (1+l.length)=mk ls:=drop_lab l (mk ls)
   rw[hd,splitN_of ls m (fun x hx=>h x (List.mem_cons_of_mem _ hx)) (by omega)]
   show some ((((mk (l :: ls)).drop 1).take l.length) :: ls)=_
   have:((mk (l :: ls)).drop 1)=l++mk ls:=rfl
   rw[this,List.take_left]
theorem labelsOf_mk{s:List UInt8}{ls:List (List UInt8)}(h:labelsOf s=some ls):s.length≤255∧(∀ l ∈ ls,okL l)∧s=mk ls:=by
 unfold labelsOf at h
 split at h
 ·cases h
 ·exact⟨by omega,splitN_mk _ _ _ h⟩
theorem labelsOf_of{ls:List (List UInt8)}(h:∀ l ∈ ls,okL l)(hl:(mk ls).length≤255):labelsOf (mk ls)=some ls:=by
 unfold labelsOf
 rw[if_neg (by omega)]
 exact splitN_of ls _ h (by omega)
theorem isName_labels(s:List UInt8):isName s↔(labelsOf s).isSome=true:=by
 rw[isName_iff]
 constructor
 ·rintro ⟨h1,ls,h2,rfl⟩
  rw[labelsOf_of h2 h1]
  rfl
 ·intro h
  obtain⟨ls,hls⟩:=Option.isSome_iff_exists.1 h
  obtain⟨h1,h2,h3⟩:=labelsOf_mk hls
  exact⟨h1,ls,h2,h3⟩
end Go.Proofs.Ytnfoihdifohkeaa
namespace Go.Proofs.Ytnfoihdifohkeaa
open Go Go.Eng
def labN(n:List UInt8):List (List UInt8):=(labelsOf n).getD []
def fl(n:List UInt8):List (List UInt8):=(labN n).map fold
theorem labN_of{n:List UInt8}(h:isName n):n.length≤255∧(∀ l ∈ labN n,okL l)∧n=mk (labN n):=by
 obtain⟨ls,e⟩:=Option.isSome_iff_exists.1 ((isName_labels n).1 h)
 have:=labelsOf_mk e
 unfold labN
 rw[e]
 exact this
theorem fold_length(s:List UInt8):(fold s).length=s.length:=by simp[fold]
theorem okL_fold{l:List UInt8}(h:okL l):okL (fold l):=by unfold okL at *;rw [fold_length];exact h
theorem low_small{k:Nat}(h:k≤63):low (UInt8.ofNat k)=UInt8.ofNat k:=by
 apply UInt8.toNat_inj.1
 rw[low_nat,toNat_ofNat (by omega)]
 rw[if_neg (by omega)]
theorem fold_lab{l:List UInt8}(h:okL l):fold (lab l)=lab (fold l):=by
 unfold lab
 rw[fold_length]
 show low (UInt8.ofNat l.length) :: fold l=_
 rw[low_small h.2]
theorem fold_append(a b:List UInt8):fold (a++b)=fold a++fold b:=by unfold fold;rw[List.map_append]
theorem fold_mk:∀ {ls:List (List UInt8)},(∀ l ∈ ls,okL l)→fold (mk ls)=mk (ls.map fold)
 |[],_=>rfl
 |l :: ls,h=>by
  show fold (lab l++mk ls)=lab (fold l)++mk (ls.map fold)
  rw[fold_append,fold_lab (h l (by simp)),fold_mk (fun x hx=>h x (by simp[hx]))]
theorem fl_ok{n:List UInt8}(h:isName n):∀ l ∈ fl n,okL l:=fun l hl=>by
 obtain⟨x,hx,rfl⟩:=List.mem_map.1 hl
 exact okL_fold ((labN_of h).2.1 x hx)
theorem fold_fl{n:List UInt8}(h:isName n):fold n=mk (fl n):=by
 obtain⟨_,h2,h3⟩:=labN_of h
 conv=>lhs;rw[h3]
 exact fold_mk h2
def posN2(ls:List (List UInt8))(i:Nat):Nat:=(labs (ls.take i)).length
theorem posN2_succ{ls:List (List UInt8)}{i:Nat}{l:List UInt8}(h:ls[i]? = some l):posN2 ls (i+1)=posN2 ls i+1+l.length:=by
 unfold posN2
 rw[List.take_add_one,h]
 show(labs (ls.take i++[l])).length=_
 rw[labs_append,List.length_append]
 show _+(lab l++[]).length=_
 rw[List.append_nil,lab_len];omega
theorem mk_labs:∀ (a b:List (List UInt8)),mk (a++b)=labs a++mk b
 |[],_=>rfl
 |l :: a,b=>by
  show lab l++mk (a++b)=(lab l++labs a)++mk b
  rw[mk_labs a b,List.append_assoc]
theorem drop_pos(ls:List (List UInt8))(i:Nat):(mk ls).drop (posN2 ls i)=mk (ls.drop i):=by
 have e:mk ls=labs (ls.take i)++mk (ls.drop i):=by rw[←mk_labs,List.take_append_drop]
 unfold posN2
 conv=>lhs;rw[e]
 rw[List.drop_left]
theorem pos_lt(ls:List (List UInt8))(i:Nat):posN2 ls i<(mk ls).length:=by
 have e:mk ls=labs (ls.take i)++mk (ls.drop i):=by rw[←mk_labs,List.take_append_drop]
 rw[e,List.length_append]
 have:=mk_pos (ls.drop i)
 unfold posN2;omega
theorem pos_len(ls:List (List UInt8))(i:Nat):posN2 ls i+(mk (ls.drop i)).length=(mk ls).length:=by
 have e:mk ls=labs (ls.take i)++mk (ls.drop i):=by rw[←mk_labs,List.take_append_drop]
 conv=>rhs;rw[e]
 rw[List.length_append];rfl
theorem bt_pos{ls:List (List UInt8)}(h:∀ l ∈ ls,okL l){i:Nat}{l:List UInt8}(hi:ls[i]? = some l):bt (mk ls) (posN2 ls i)=l.length:=by
 have hd:=drop_pos ls i
 have hlt:=(List.getElem?_eq_some_iff.1 hi).1
 have e:ls.drop i=l :: ls.drop (i+1):=by
  rw[List.drop_eq_getElem_cons hlt,(List.getElem?_eq_some_iff.1 hi).2]
 have:=bt_drop (mk ls) (posN2 ls i) 0
 rw [Nat.add_zero] at this
 rw[←this,hd,e]
 exact bt_lab l (mk (ls.drop (i+1))) (h l (List.mem_of_getElem? hi))
theorem bt_end(ls:List (List UInt8)):bt (mk ls) (posN2 ls ls.length)=0:=by
 have hd:=drop_pos ls ls.length
 have:=bt_drop (mk ls) (posN2 ls ls.length) 0
 rw [Nat.add_zero] at this
 rw[←this,hd,List.drop_length];rfl
theorem pos_end(ls:List (List UInt8)):posN2 ls ls.length+1=(mk ls).length:=by
 have:=pos_len ls ls.length
 rw [List.drop_length] at this
 exact this
theorem pos_mono{ls:List (List UInt8)}{i j:Nat}(h:i<j)(hj:j≤ls.length):posN2 ls i<posN2 ls j:=by
 induction j with
 |zero=>omega
 |succ j ih =>
  have hs:ls[j]? = some ls[j]:=List.getElem?_eq_getElem (by omega)
  have:=posN2_succ hs
  rcases Nat.lt_or_ge i j with hl|hl
  ·have:=ih hl (by omega);omega
  ·have:i=j:=by omega
   subst this;omega
def withinN(n z:List UInt8):Bool:=decide (isName n) && (decide (isName z) && (fl z).isSuffixOf (fl n))
theorem withinN_iff{n z:List UInt8}:withinN n z=true↔isName n∧isName z∧∃ j,j≤(labN n).length∧(fl n).drop j=fl z:=by
 unfold withinN
 simp only[Bool.and_eq_true,decide_eq_true_eq,List.isSuffixOf_iff_suffix]
 refine and_congr_right fun h1=>and_congr_right fun h2=>?_
 constructor
 ·intro h
  have hl:=h.length_le
  refine⟨(fl n).length - (fl z).length,by unfold fl;simp,?_⟩
  exact(List.suffix_iff_eq_drop.1 h).symm
 ·rintro ⟨j,_,e⟩
  rw[←e];exact List.drop_suffix j (fl n)
theorem within_at{n z:List UInt8}(hn:isName n)(hz:isName z){j:Nat}(hp:posN2 (labN n) j+z.length=n.length):(fold (n.drop (posN2 (labN n) j))=fold z)↔(fl n).drop j=fl z:=by
 obtain⟨_,h2,h3⟩:=labN_of hn
 have hd:n.drop (posN2 (labN n) j)=mk ((labN n).drop j):=by
  have:=drop_pos (labN n) j
  rw [←h3] at this
  exact this
 have h4:∀ l ∈ (labN n).drop j,okL l:=fun l hl=>h2 l (List.mem_of_mem_drop hl)
 rw[hd,fold_mk h4,fold_fl hz]
 have e:((labN n).drop j).map fold=(fl n).drop j:=by unfold fl;rw[List.map_drop]
 rw[e]
 refine⟨fun h=>mk_inj (fun l hl=>fl_ok hn l (List.mem_of_mem_drop hl)) (fl_ok hz) h,fun h=>by rw[h]⟩
theorem mk_len_fold:∀ {ls:List (List UInt8)},(mk (ls.map fold)).length=(mk ls).length
 |[]=>rfl
 |l :: ls=>by
  show(lab (fold l)++mk (ls.map fold)).length=(lab l++mk ls).length
  rw[List.length_append,List.length_append,lab_len,lab_len,fold_length,mk_len_fold]
theorem within_len{n z:List UInt8}(hn:isName n)(hz:isName z){j:Nat}(h:(fl n).drop j=fl z):posN2 (labN n) j+z.length=n.length:=by
 obtain⟨_,_,h3⟩:=labN_of hn
 obtain⟨_,_,h4⟩:=labN_of hz
 have e:(mk ((labN n).drop j)).length=z.length:=by
  have:mk (((labN n).drop j).map fold)=mk ((labN z).map fold):=by
   rw[List.map_drop]
   exact congrArg mk h
  have:=congrArg List.length this
  rw [mk_len_fold,mk_len_fold,←h4] at this
  exact this
 rw[←e]
 conv=>rhs;rw[h3]
 exact pos_len (labN n) j
theorem label_at{ls:List (List UInt8)}{i:Nat}{l:List UInt8}(hi:ls[i]? = some l):((mk ls).drop (posN2 ls i+1)).take l.length=l:=by
 have hd:=drop_pos ls i
 have hlt:=(List.getElem?_eq_some_iff.1 hi).1
 have e:ls.drop i=l :: ls.drop (i+1):=by
  rw[List.drop_eq_getElem_cons hlt,(List.getElem?_eq_some_iff.1 hi).2]
 rw[←List.drop_drop,hd,e]
 show((UInt8.ofNat l.length :: l++mk (ls.drop (i+1))).drop 1).take l.length=l
 simp
theorem isName_fold{n:List UInt8}(h:isName n):isName (fold n):=by
 rw[fold_fl h]
 refine(isName_iff _).2 ⟨?_,fl n,fl_ok h,rfl⟩
 rw[←fold_fl h,fold_length]
 exact(labN_of h).1
theorem labN_fold{n:List UInt8}(h:isName n):labN (fold n)=fl n:=by
 obtain⟨_,h2,h3⟩:=labN_of (isName_fold h)
 have h3:=(fold_fl h).symm.trans h3
 exact(mk_inj (fl_ok h) h2 h3).symm
end Go.Proofs.Ytnfoihdifohkeaa
namespace Go.Proofs.Ytnfoihdifohkeaa
open Go Go.Eng
def AnL:List SV→List SV→Prop
 |[],[]=>True
 |a :: l,b :: m=>(b = .any∨a=b)∧AnL l m
 |_,_=>False
theorem AnL.len:∀ {l m:List SV},AnL l m→l.length=m.length
 |[],[],_=>rfl
 |_ :: _,_ :: _,h=>congrArg (· + 1) (AnL.len h.2)
theorem AnL.at:∀ {l m:List SV},AnL l m→∀ (j:Nat) (s t:SV),l[j]? = some s→m[j]? = some t→t = .any∨s=t
 |[],[],_,_,_,_,ht,_=>by simp at ht
 |_ :: _,_ :: _,h,0,s,t,hs,ht=>by simp at hs ht;subst hs ht;exact h.1
 |_ :: l,_ :: m,h,j+1,s,t,hs,ht=>AnL.at (l:=l) (m:=m) h.2 j s t (by simpa using hs) (by simpa using ht)
theorem COk.anyA{P:Program}{f:FuncId}{args args':List SV}{ks:List KB}{R:SV→List KB→Prop}(h:COk P f args ks R)(hc:AnL args' args):COk P f args' ks R :=
 ⟨h.1,fun X w β fp vs hM hl hd=>h.2 X w β fp vs hM (by rw[←hc.len,hl]) (fun j s u hs hu=>by
  have hj:j<args'.length:=by rw[hc.len];exact(List.getElem?_eq_some_iff.1 hs).1
  have hb:=hd j _ u (List.getElem?_eq_getElem hj) hu
  rcases hc.at j _ s (List.getElem?_eq_getElem hj) hs with e|e
  ·subst e;exact .any u
  ·rw[←e];exact hb)⟩
theorem subZ_self{n:Nat}(z:Z):SubZ n z z:=by cases z <;> exact True.intro
def iV(x:Nat):SV:=.d (.int .i64 (x:Int))
end Go.Proofs.Ytnfoihdifohkeaa
namespace Go.Proofs.Ytnfoihdifohkeaa
open Go Go.Eng
instance (s:List UInt8):Decidable (isName s):=by unfold isName;infer_instance
theorem sub_drop(s:List UInt8)(a:Nat):sub s (a:Int) (s.length:Int)=s.drop a:=by
 unfold sub
 rw[Int.toNat_natCast,Int.toNat_natCast,List.take_of_length_le (by simp)]
end Go.Proofs.Ytnfoihdifohkeaa
namespace Go.Proofs.Ytnfoihdifohkeaa
open Go Go.Eng
def countN(n:List UInt8):Nat:=if isName n then (labN n).length else 0
set_option maxRecDepth 100000
set_option maxHeartbeats 8000000 in
theorem count_ok(n:List UInt8):FnOk Try.prog 26 [.d (.str n)] (.d (.int .i64 (countN n:Nat))):=by
 refine fnOk_of_run (TT:=TT) (IN:=lookI [(45,Try.f45,1),(68,Try.f68,2),(28,Try.f28,1),(50,Try.f50,2)]) TT_ok (INok_cons (INok_cons (INok_cons (INok_cons INok_nil Try.func50 (by kernel_rfl) (by kernel_rfl)) Try.func28 (by kernel_rfl) (by kernel_rfl)) Try.func68 (by kernel_rfl) (by kernel_rfl)) Try.func45 (by kernel_rfl) (by kernel_rfl)) mixed 1000 Try.func26 rfl (enters Try.func26 (by kernel_rfl) rfl) rfl 9 (by kernel_rfl) ?_
 conv=>whnf
 refine .one (.data _ (check_ok n) rfl rfl ?_)
 by_cases hn:isName n
 case neg =>
  rw[if_neg hn,show countN n=0 from if_neg hn]
  conv=>whnf
  refine brT rfl ?_
  conv=>whnf
  try exact rfl
 rw[if_pos hn,show countN n=(labN n).length from if_pos hn]
 conv=>whnf
 refine brF rfl ?_
 conv=>whnf
 obtain⟨hn1,hn2,hn3⟩:=labN_of hn
 have hend:∀ i,posN2 (labN n) i<n.length:=fun i=>by have:=pos_lt (labN n) i;rw [←hn3] at this;exact this
 have hbt:∀ i l,(labN n)[i]? = some l→bt n (posN2 (labN n) i)=l.length:=fun i l h=>by
  have:=bt_pos hn2 h
  rw [←hn3] at this;exact this
 have hbe:bt n (posN2 (labN n) (labN n).length)=0:=by
  have:=bt_end (labN n)
  rw [←hn3] at this;exact this
 have hll:=pos_end (labN n)
 rw [←hn3] at hll
 generalize labN n=ls at hn2 hn3 hend hbt hbe hll
 have hcnt:∀ i,i≤ls.length→i≤posN2 ls i:=fun i=>by
  induction i with
  |zero=>intro _;exact Nat.zero_le _
  |succ i ih =>
   intro h
   have:=ih (by omega)
   have:=pos_mono (ls:=ls) (i:=i) (j:=i+1) (by omega) h
   omega
 have hlc:=hcnt ls.length (Nat.le_refl _)
 refine .inv Nat (fun i=>i≤ls.length) (fun i=>[(3,iV (posN2 ls i))]) (fun i=>[(0,.cells 3 [iV i]),(4,.cells 3 [iV (posN2 ls i)])]) (fun i=>ls.length - i) ⟨0,[0,1,2,3,4,5,6],Nat.zero_le _,?_⟩ ?_
 ·conv=>whnf
  repeat'(first|exact ⟨⟩|exact rfl|exact subZ_self _|exact Or.inr rfl|exact fun _ _=>rfl|exact fun _ h=>absurd h (Nat.not_lt_zero _)|apply And.intro)
 intro i hi
 have hp:=hend i
 conv=>whnf
 refine brT (decide_eq_true (by omega)) ?_
 conv=>whnf
 refine⟨by omega,?_⟩
 conv=>whnf
 rw[bt_eq,w64_in (bt n (posN2 ls i):Int) (by have:=bt_lt n (posN2 ls i);omega)]
 rcases Nat.lt_or_ge i ls.length with hlt|hge
 ·have hli:ls[i]? = some ls[i]:=List.getElem?_eq_getElem hlt
  have hb:=hbt i _ hli
  have hok:=hn2 _ (List.getElem_mem hlt)
  have hps:=posN2_succ hli
  have hp2:=hend (i+1)
  rw[hb]
  generalize ls[i]=l at hli hb hok hps
  obtain⟨ho1,ho2⟩:=hok
  refine brF (by rw[beq_eq_false_iff_ne];omega) ?_
  conv=>whnf
  refine brF (decide_eq_false (by omega)) ?_
  conv=>whnf
  have e1:IntKind.i64.wrap ((n.length:Int) - (posN2 ls i:Int))=((n.length - posN2 ls i:Nat):Int):=by rw[w64_in _ (by omega)];omega
  rw[e1]
  refine brF (decide_eq_false (by omega)) ?_
  conv=>whnf
  have e2:IntKind.i64.wrap ((posN2 ls i:Int)+IntKind.i64.wrap (1+(l.length:Int)))=((posN2 ls (i+1):Nat):Int):=by rw[w64_in (1+(l.length:Int)) (by omega),w64_in _ (by omega)];omega
  rw[e2]
  have e3:IntKind.i64.wrap ((posN2 ls i:Int)+1)=((posN2 ls i+1:Nat):Int):=by rw[w64_in _ (by omega)];omega
  have e4:IntKind.i64.wrap ((i:Int)+1)=((i+1:Nat):Int):=by rw[w64_in _ (by omega)];omega
  rw[e3]
  refine⟨by omega,?_⟩
  conv=>whnf
  rw[e4]
  refine⟨i+1,[0,1,2,3,4,5,6],hlt,by omega,?_⟩
  conv=>whnf
  repeat'(first|exact ⟨⟩|exact rfl|exact subZ_self _|exact Or.inr rfl|exact fun _ _=>rfl|exact fun _ h=>absurd h (Nat.not_lt_zero _)|apply And.intro)
 ·have hil:i=ls.length:=by omega
  subst hil
  rw[hbe]
  conv=>whnf
  refine brT rfl ?_
  conv=>whnf
  try exact rfl
end Go.Proofs.Ytnfoihdifohkeaa
namespace Go.Proofs.Ytnfoihdifohkeaa
open Go Go.Eng
theorem COk.frameX{P:Program}{f:FuncId}{as0:List SV}{ks0:List KB}{R0:SV→List KB→Prop}(h:COk P f as0 ks0 R0)(is:List Nat){al:List SV}{ks:List KB}
 (hok:okN (lenB ks) is=true) (ha:mapL (sig is (lenB ks)) as0=al) (hk:getBs ks is=mapB (sig is (lenB ks)) ks0):COk P f al ks (fun s k=>∃ s0 k0,R0 s0 k0∧s=mapV (sig is (lenB ks)) s0∧k=putBs ks is (mapB (sig is (lenB ks)) k0)) :=
 COk.frame h is hok ha hk (fun s0 k0 h=>⟨s0,k0,h,rfl,rfl⟩)
end Go.Proofs.Ytnfoihdifohkeaa
namespace Go.Proofs.Ytnfoihdifohkeaa
open Go Go.Eng
set_option maxRecDepth 100000
structure Zo where
 apex:List UInt8
 z:Bool
 rrs:List RR
instance:Inhabited Zo:=⟨⟨[],true,[]⟩⟩
def takeZ(apex:List UInt8)(r:RR):Bool:=r.cl == 1 && (r.ty != 41 && (r.ttl != 0 && (r.check && withinN r.nm apex)))
def keyZ(r:RR):List UInt8 × Int × Int × List UInt8:=(fold r.nm,r.ty,r.cl,rfold r.ty r.d)
def cntZ(p:RR→Bool)(l:List RR)(n:List UInt8):Nat:=(l.filter fun r=>fold r.nm == n && p r).length
def isSoa(r:RR):Bool:=r.ty == 6
def isNs(r:RR):Bool:=r.ty == 2
def isAlias(r:RR):Bool:=r.ty == 5
def isAddr(r:RR):Bool:=r.ty == 1 || r.ty == 28
def anyR(_:RR):Bool:=true
def upsF:Nat→List UInt8→List (List UInt8)
 |0,_=>[]
 |k+1,n=>n :: (if n=[0] then [] else upsF k (n.drop (1+bt n 0)))
def upsN(n:List UInt8):List (List UInt8):=if isName n then upsF n.length n else []
def climbZ(l:List RR)(name top:List UInt8):List (List UInt8)→Bool
 |[]=>true
 |u :: r=>if u=top then true else if u≠name∧0<cntZ isNs l u then cntZ anyR l name == cntZ isAddr l name else climbZ l name top r
def fitsZ(l:List RR)(top name:List UInt8):Bool :=
 if 0<cntZ isAlias l name∧1<cntZ anyR l name then false else if name=top then true
 else if 0<cntZ isSoa l name∨(0<cntZ isNs l name∧cntZ isNs l name+cntZ isAddr l name<cntZ anyR l name) then false
 else climbZ l name top (upsN name)
def soundZ(z:Zo):Bool:=cntZ isSoa z.rrs (fold z.apex) == 1 && (cntZ isNs z.rrs (fold z.apex) != 0 && z.rrs.all fun r=>fitsZ z.rrs (fold z.apex) (fold r.nm))
def onceZ:List RR→Bool
 |[]=>true
 |r :: l=>(l.all fun x=>keyZ x != keyZ r) && onceZ l
def Zo.ok(z:Zo):Bool:=decide (isName z.apex) && (decide (z.rrs.length≤256) && (z.rrs.all (takeZ z.apex) && (onceZ z.rrs && soundZ z)))
def Zo.cutL(z:Zo):List (List UInt8):=(z.rrs.filter fun r=>isNs r && !sameN r.nm z.apex).map (·.nm)
end Go.Proofs.Ytnfoihdifohkeaa
namespace Go.Proofs.Ytnfoihdifohkeaa
open Go Go.Eng
set_option maxRecDepth 100000
section
variable{K V:Type}[DecidableEq K]
def aget:List (K × V)→K→Option V
 |[],_=>none
 |e :: l,k=>if k=e.1 then some e.2 else aget l k
def aput:List (K × V)→K→V→List (K × V)
 |[],k,v=>[(k,v)]
 |e :: l,k,v=>if k=e.1 then (k,v) :: l else e :: aput l k v
theorem aget_put(l:List (K × V))(k:K)(v:V)(k':K):aget (aput l k v) k'=if k'=k then some v else aget l k':=by
 induction l with
 |nil=>simp[aput,aget]
 |cons e l ih =>
  simp only[aput]
  split
  ·rename_i h
   subst h
   simp only[aget]
   split <;> simp_all
  ·rename_i h
   simp only[aget,ih]
   split
   ·rename_i h1
    rw[if_neg (fun e1:k'=k=>h (e1.symm.trans h1))]
   ·rfl
def aenc(ek:K→List DV)(ev:V→List SV)(l:List (K × V)):List (List DV × List SV):=l.map fun e=>(ek e.1,ev e.2)
theorem find_enc{ek:K→List DV}{ev:V→List SV}(hk:∀ a b,keyEq (ek a) (ek b)=decide (a=b))(l:List (K × V))(k:K):findM (aenc ek ev l) (ek k)=(aget l k).map ev:=by
 induction l with
 |nil=>rfl
 |cons e l ih =>
  show(if keyEq (ek k) (ek e.1) then some (ev e.2) else findM (aenc ek ev l) (ek k))=_
  rw[hk,ih,aget]
  by_cases h:k=e.1
  ·simp[h]
  ·simp[h]
theorem put_enc{ek:K→List DV}{ev:V→List SV}(hk:∀ a b,keyEq (ek a) (ek b)=decide (a=b))(l:List (K × V))(k:K)(v:V):putM (aenc ek ev l) (ek k) (ev v)=aenc ek ev (aput l k v):=by
 induction l with
 |nil=>rfl
 |cons e l ih =>
  show(if keyEq (ek k) (ek e.1) then _ else (ek e.1,ev e.2) :: putM (aenc ek ev l) (ek k) (ev v))=_
  rw[hk,ih,aput]
  by_cases h:k=e.1
  ·simp[h,aenc]
  ·simp[h,aenc]
end
def strK(s:List UInt8):List DV:=[.str s]
theorem strK_eq(a b:List UInt8):keyEq (strK a) (strK b)=decide (a=b):=by
 rw[Bool.eq_iff_iff]
 simp[strK,keyEq,dEq]
def saidK(k:List UInt8 × Int × Int × List UInt8):List DV:=[.str k.1,.int .u16 k.2.1,.int .u16 k.2.2.1,.str k.2.2.2]
theorem saidK_eq(a b:List UInt8 × Int × Int × List UInt8):keyEq (saidK a) (saidK b)=decide (a=b):=by
 rw[Bool.eq_iff_iff]
 obtain⟨a1,a2,a3,a4⟩:=a
 obtain⟨b1,b2,b3,b4⟩:=b
 simp[saidK,keyEq,dEq,kEq]
structure Hd where
 all:Nat
 soa:Nat
 ns:Nat
 alias:Nat
 addr:Nat
deriving DecidableEq
def Hd.no:Hd:=⟨0,0,0,0,0⟩
def Hd.enc(h:Hd):List SV:=[.d (.int .i64 (h.all:Nat)),.d (.int .i64 (h.soa:Nat)),.d (.int .i64 (h.ns:Nat)),.d (.int .i64 (h.alias:Nat)),.d (.int .i64 (h.addr:Nat))]
def Hd.add(h:Hd)(r:RR):Hd:=⟨h.all+1,if r.ty=6 then h.soa+1 else h.soa,if r.ty=2 then h.ns+1 else h.ns,if r.ty=5 then h.alias+1 else h.alias,if r.ty=1∨r.ty=28 then h.addr+1 else h.addr⟩
def holdsOf(l:List RR)(n:List UInt8):Hd:=⟨cntZ anyR l n,cntZ isSoa l n,cntZ isNs l n,cntZ isAlias l n,cntZ isAddr l n⟩
def namesL:List RR→List (List UInt8 × Hd)
 |l=>l.foldl (fun m r=>aput m (fold r.nm) (((aget m (fold r.nm)).getD Hd.no).add r)) []
theorem cnt_snoc(p:RR→Bool)(l:List RR)(r:RR)(n:List UInt8):cntZ p (l++[r]) n=cntZ p l n+(if fold r.nm=n∧p r=true then 1 else 0):=by
 unfold cntZ
 rw[List.filter_append,List.length_append]
 congr 1
 by_cases h:fold r.nm=n <;> cases hp:p r <;> simp[h,hp]
theorem namesL_snoc(l:List RR)(r:RR):namesL (l++[r])=aput (namesL l) (fold r.nm) (((aget (namesL l) (fold r.nm)).getD Hd.no).add r):=by
 unfold namesL
 rw[List.foldl_append]
 rfl
theorem holds_snoc(l:List RR)(r:RR)(n:List UInt8):holdsOf (l++[r]) n=if n=fold r.nm then (holdsOf l n).add r else holdsOf l n:=by
 unfold holdsOf Hd.add
 simp only[cnt_snoc]
 by_cases h:n=fold r.nm
 ·rw[if_pos h]
  have h':fold r.nm=n:=h.symm
  simp only[h',true_and,anyR,isSoa,isNs,isAlias,isAddr,if_true,beq_iff_eq,Bool.or_eq_true]
  congr 1 <;> (split <;> rfl)
 ·rw[if_neg h]
  have h':¬ fold r.nm=n:=fun e=>h e.symm
  simp[h']
theorem snoc_ind{α:Type}{P:List α→Prop}(h0:P [])(h1:∀ l a,P l→P (l++[a])):∀ l,P l:=fun l=>by
 rw[←l.reverse_reverse]
 induction l.reverse with
 |nil=>exact h0
 |cons a m ih=>rw[List.reverse_cons];exact h1 _ _ ih
theorem names_get(l:List RR)(n:List UInt8):(aget (namesL l) n).getD Hd.no=holdsOf l n:=by
 refine snoc_ind (P:=fun l=>(aget (namesL l) n).getD Hd.no=holdsOf l n) rfl (fun l r ih=>?_) l
 ·rw[namesL_snoc,aget_put,holds_snoc]
  by_cases h:n=fold r.nm
  ·rw[if_pos h,if_pos h,←h,ih]
   rfl
  ·rw[if_neg h,if_neg h,ih]
theorem aget_mem{K V:Type}[DecidableEq K]{l:List (K × V)}{k:K}{v:V}(h:aget l k=some v):(k,v) ∈ l:=by
 induction l with
 |nil=>cases h
 |cons e l ih =>
  simp only [aget] at h
  split at h
  ·rename_i e1
   simp only [Option.some.injEq] at h
   subst e1 h
   exact List.mem_cons_self ..
  ·exact List.mem_cons_of_mem _ (ih h)
def Keys{K V:Type}(l:List (K × V)):Prop:=l.Pairwise fun e e'=>e.1≠e'.1
theorem mem_aget{K V:Type}[DecidableEq K]{l:List (K × V)}(hk:Keys l){e:K × V}(h:e ∈ l):aget l e.1=some e.2:=by
 induction l with
 |nil=>cases h
 |cons x l ih =>
  obtain⟨h1,h2⟩:=List.pairwise_cons.1 hk
  simp only[aget]
  rcases List.mem_cons.1 h with rfl|h
  ·rw[if_pos rfl]
  ·rw[if_neg (fun e1=>h1 e h e1.symm),ih h2 h]
theorem aput_mem{K V:Type}[DecidableEq K]{l:List (K × V)}{k:K}{v:V}{e:K × V}(h:e ∈ aput l k v):e=(k,v)∨e ∈ l:=by
 induction l with
 |nil=>exact .inl (by simpa[aput] using h)
 |cons x l ih =>
  simp only [aput] at h
  split at h
  ·rcases List.mem_cons.1 h with rfl|h
   ·exact .inl rfl
   ·exact .inr (List.mem_cons_of_mem _ h)
  ·rcases List.mem_cons.1 h with rfl|h
   ·exact .inr (List.mem_cons_self ..)
   ·exact(ih h).imp id (List.mem_cons_of_mem _)
theorem aput_keys{K V:Type}[DecidableEq K]{l:List (K × V)}(hk:Keys l)(k:K)(v:V):Keys (aput l k v):=by
 induction l with
 |nil=>exact List.pairwise_singleton _ _
 |cons x l ih =>
  obtain⟨h1,h2⟩:=List.pairwise_cons.1 hk
  simp only[aput]
  split
  ·rename_i e
   subst e
   exact List.pairwise_cons.2 ⟨h1,h2⟩
  ·rename_i e
   refine List.pairwise_cons.2 ⟨fun y hy=>?_,ih h2⟩
   rcases aput_mem hy with rfl|hy
   ·exact fun e1=>e e1.symm
   ·exact h1 y hy
theorem namesL_keys(l:List RR):Keys (namesL l):=by
 refine snoc_ind (P:=fun l=>Keys (namesL l)) List.Pairwise.nil (fun l r ih=>?_) l
 rw[namesL_snoc]
 exact aput_keys ih _ _
theorem namesL_mem{l:List RR}{e:List UInt8 × Hd}(h:e ∈ namesL l):e.2=holdsOf l e.1:=by
 have:=names_get l e.1
 rw [mem_aget (namesL_keys l) h] at this
 exact this
theorem namesL_of{l:List RR}{e:List UInt8 × Hd}(h:e ∈ namesL l):∃ r ∈ l,fold r.nm=e.1:=by
 revert e
 refine snoc_ind (P:=fun l=>∀ {e:List UInt8 × Hd},e ∈ namesL l→∃ r ∈ l,fold r.nm=e.1) (fun h=>by cases h) (fun l r ih e h=>?_) l
 rw [namesL_snoc] at h
 rcases aput_mem h with rfl|h
 ·exact⟨r,by simp,rfl⟩
 ·obtain⟨x,hx,e1⟩:=ih h
  exact⟨x,by simp[hx],e1⟩
theorem namesL_has{l:List RR}{r:RR}(h:r ∈ l):∃ e ∈ namesL l,e.1=fold r.nm:=by
 revert r
 refine snoc_ind (P:=fun l=>∀ {r:RR},r ∈ l→∃ e ∈ namesL l,e.1=fold r.nm) (fun h=>by cases h) (fun l x ih r h=>?_) l
 have hget:∀ k,(aget (namesL (l++[x])) k).isSome→∃ e ∈ namesL (l++[x]),e.1=k:=fun k hk=>by
  obtain⟨v,hv⟩:=Option.isSome_iff_exists.1 hk
  exact⟨(k,v),aget_mem hv,rfl⟩
 refine hget _ ?_
 rw[namesL_snoc,aget_put]
 split
 ·rfl
 ·rename_i hne
  rcases List.mem_append.1 h with h|h
  ·obtain⟨e,he,e1⟩:=ih h
   rw[←e1,mem_aget (namesL_keys l) he]
   rfl
  ·simp at h
   subst h
   exact absurd rfl hne
theorem names_all(l:List RR)(p:List UInt8→Bool):((namesL l).all fun e=>p e.1)=l.all fun r=>p (fold r.nm):=by
 rw[Bool.eq_iff_iff,List.all_eq_true,List.all_eq_true]
 constructor
 ·intro h r hr
  obtain⟨e,he,e1⟩:=namesL_has hr
  rw[←e1]
  exact h e he
 ·intro h e he
  obtain⟨r,hr,e1⟩:=namesL_of he
  rw[←e1]
  exact h r hr
theorem aput_new{K V:Type}[DecidableEq K]{l:List (K × V)}{k:K}(h:aget l k=none)(v:V):aput l k v=l++[(k,v)]:=by
 induction l with
 |nil=>rfl
 |cons x l ih =>
  simp only [aget] at h
  split at h
  ·cases h
  ·rename_i hne
   simp only[aput]
   rw[if_neg hne,ih h]
   rfl
def saidL(l:List RR):List ((List UInt8 × Int × Int × List UInt8) × Nat):=l.map fun r=>(keyZ r,1)
theorem said_get(l:List RR)(k:List UInt8 × Int × Int × List UInt8):aget (saidL l) k=if l.any (fun r=>keyZ r == k) then some 1 else none:=by
 induction l with
 |nil=>rfl
 |cons r l ih =>
  show(if k=keyZ r then some 1 else aget (saidL l) k)=_
  rw[ih,List.any_cons]
  by_cases h:k=keyZ r
  ·subst h;simp
  ·have h':(keyZ r == k)=false:=by simpa using fun e=>h e.symm
   rw[if_neg h,h',Bool.false_or]
theorem said_snoc(l:List RR)(r:RR):saidL (l++[r])=saidL l++[(keyZ r,1)]:=by unfold saidL;simp
theorem once_snoc(l:List RR)(r:RR):onceZ (l++[r])=(onceZ l && !l.any (fun x=>keyZ x == keyZ r)):=by
 induction l with
 |nil=>rfl
 |cons x l ih =>
  show(((l++[r]).all fun y=>keyZ y != keyZ x) && onceZ (l++[r]))=((l.all fun y=>keyZ y != keyZ x) && onceZ l && !((keyZ x == keyZ r) || l.any fun y=>keyZ y == keyZ r))
  rw[ih,List.all_append,List.all_cons,List.all_nil,Bool.and_true]
  have e:(keyZ r != keyZ x) = !(keyZ x == keyZ r):=by
   rw[Bool.eq_iff_iff]
   simp only[bne_iff_ne,Bool.not_eq_true',beq_eq_false_iff_ne]
   exact⟨fun h e=>h e.symm,fun h e=>h e.symm⟩
  rw[e]
  cases (l.all fun y=>keyZ y != keyZ x) <;> cases onceZ l <;> cases (keyZ x == keyZ r) <;> cases (l.any fun y=>keyZ y == keyZ r) <;> rfl
def takenZ(apex:List UInt8)(l:List RR):Bool:=l.all (takeZ apex) && onceZ l
theorem taken_snoc(apex:List UInt8)(l:List RR)(r:RR):takenZ apex (l++[r])=(takenZ apex l && (takeZ apex r && !l.any (fun x=>keyZ x == keyZ r))):=by
 unfold takenZ
 rw[once_snoc,List.all_append,List.all_cons,List.all_nil,Bool.and_true]
 cases l.all (takeZ apex) <;> cases onceZ l <;> cases takeZ apex r <;> cases (l.any fun y=>keyZ y == keyZ r) <;> rfl
theorem taken_bad{apex:List UInt8}{l:List RR}{i:Nat}(h:takenZ apex (l.take i)=false):takenZ apex l=false:=by
 have hl:l=l.take i++l.drop i:=(List.take_append_drop i l).symm
 cases e:takenZ apex l with
 |false=>rfl
 |true =>
  exfalso
  have:∀ (m n:List RR),takenZ apex (m++n)=true→takenZ apex m=true:=by
   intro m n
   refine snoc_ind (P:=fun n=>takenZ apex (m++n)=true→takenZ apex m=true) (fun h=>by rwa [List.append_nil] at h) (fun n r ih h=>?_) n
   rw [←List.append_assoc,taken_snoc,Bool.and_eq_true] at h
   exact ih h.1
  rw [hl] at e
  rw [this _ _ e] at h
  cases h
theorem Zo.ok_eq(z:Zo):z.ok=(decide (isName z.apex) && (decide (z.rrs.length≤256) && (takenZ z.apex z.rrs && soundZ z))):=by
 unfold Zo.ok takenZ
 rw[Bool.and_assoc (z.rrs.all (takeZ z.apex))]
end Go.Proofs.Ytnfoihdifohkeaa
namespace Go.Proofs.Ytnfoihdifohkeaa
open Go Go.Eng
set_option maxRecDepth 100000
theorem within_law{n z:List UInt8}(hn:isName n)(hz:isName z)(hl:z.length≤n.length)(b:Bool)(hb:b=true↔∃ j,j≤(labN n).length∧posN2 (labN n) j=n.length - z.length) :
 (b && (fold (n.drop (n.length - z.length)) == fold z))=withinN n z:=by
 rw[Bool.eq_iff_iff,withinN_iff,Bool.and_eq_true,hb,beq_iff_eq]
 constructor
 ·rintro ⟨⟨j,hj,hp⟩,hf⟩
  refine⟨hn,hz,j,hj,?_⟩
  exact(within_at hn hz (j:=j) (by omega)).1 (by rw[hp];exact hf)
 ·rintro ⟨_,_,j,hj,hf⟩
  have hp:=within_len hn hz hf
  refine⟨⟨j,hj,by omega⟩,?_⟩
  have:=(within_at hn hz (j:=j) hp).2 hf
  rwa [show posN2 (labN n) j=n.length - z.length by omega] at this
theorem within_long{n z:List UInt8}(hl:n.length<z.length):withinN n z=false:=by
 cases h:withinN n z
 ·rfl
 ·obtain⟨hn,hz,j,_,hf⟩:=withinN_iff.1 h
  have:=within_len hn hz hf
  omega
set_option maxRecDepth 100000
set_option maxHeartbeats 8000000 in
theorem within_ok(n z:List UInt8):FnOk Try.prog 12 [.d (.str n),.d (.str z)] (.d (.bool (withinN n z))):=by
 refine fnOk_of_run (TT:=TT) (IN:=lookI [(28,Try.f28,1),(50,Try.f50,2)]) TT_ok (INok_cons (INok_cons INok_nil Try.func50 (by kernel_rfl) (by kernel_rfl)) Try.func28 (by kernel_rfl) (by kernel_rfl)) mixed 1000 Try.func12 rfl (enters Try.func12 (by kernel_rfl) rfl) rfl 50 (by kernel_rfl) ?_
 conv=>whnf
 refine .one (.data _ (check_ok n) rfl rfl ?_)
 by_cases hn:isName n
 case neg =>
  rw[if_neg hn,show withinN n z=false by unfold withinN;rw[decide_eq_false hn];rfl]
  conv=>whnf
  repeat(first|(refine brT rfl ?_;conv=>whnf))
  try exact rfl
 rw[if_pos hn]
 conv=>whnf
 refine brF rfl ?_
 conv=>whnf
 refine .one (.data _ (check_ok z) rfl rfl ?_)
 by_cases hz:isName z
 case neg =>
  rw[if_neg hz,show withinN n z=false by unfold withinN;rw[decide_eq_false hz,Bool.false_and,Bool.and_false]]
  conv=>whnf
  repeat(first|(refine brT rfl ?_;conv=>whnf))
  try exact rfl
 rw[if_pos hz]
 conv=>whnf
 refine brF rfl ?_
 conv=>whnf
 refine⟨fun h1=>?_,fun h1=>?_⟩
 ·have h1:(z.length:Int) > n.length:=of_decide_eq_true h1
  rw[within_long (by omega)]
  conv=>whnf
  try exact rfl
 have h1:¬ (z.length:Int) > n.length:=of_decide_eq_false h1
 obtain⟨hn1,hn2,hn3⟩:=labN_of hn
 have hz1:=hz.2.1
 have hmw:IntKind.i64.wrap ((n.length:Int) - (z.length:Int))=((n.length - z.length:Nat):Int):=by rw[w64_in _ (by omega)];omega
 have hlaw:=within_law hn hz (by omega)
 have hzero:(((n.length - z.length:Nat):Int) == 0)=decide (n.length - z.length=0):=by rw[Bool.eq_iff_iff];simp
 conv=>whnf
 rw[hmw,hzero]
 have hend:∀ i,posN2 (labN n) i<n.length:=fun i=>by have:=pos_lt (labN n) i;rw [←hn3] at this;exact this
 have hbt:∀ i l,(labN n)[i]? = some l→bt n (posN2 (labN n) i)=l.length:=fun i l h=>by
  have:=bt_pos hn2 h
  rw [←hn3] at this;exact this
 have hbe:bt n (posN2 (labN n) (labN n).length)=0:=by
  have:=bt_end (labN n)
  rw [←hn3] at this;exact this
 generalize labN n=ls at hn2 hn3 hlaw hend hbt hbe
 obtain⟨m,hm⟩:∃ m,n.length - z.length=m:=⟨_,rfl⟩
 rw [hm] at hlaw ⊢
 refine .inv Nat (fun i=>i≤ls.length∧∀ j,0<j→j≤i→posN2 ls j<m) (fun i=>[(3,iV (posN2 ls i))]) (fun _=>[]) (fun i=>ls.length - i) ⟨0,[0,1,2,3],⟨Nat.zero_le _,fun j h1 h2=>by omega⟩,?_⟩ ?_
 ·conv=>whnf
  repeat'(first|exact ⟨⟩|exact rfl|exact subZ_self _|exact Or.inr rfl|exact fun _ _=>rfl|exact fun _ h=>absurd h (Nat.not_lt_zero _)|apply And.intro)
 intro i hi
 obtain⟨hi1,hi2⟩:=hi
 have hp:=hend i
 conv=>whnf
 refine brT (decide_eq_true (by omega)) ?_
 conv=>whnf
 refine⟨by omega,?_⟩
 conv=>whnf
 rw[bt_eq,w64_in (bt n (posN2 ls i):Int) (by have:=bt_lt n (posN2 ls i);omega)]
 rcases Nat.lt_or_ge i ls.length with hlt|hge
 ·have hli:ls[i]? = some ls[i]:=List.getElem?_eq_getElem hlt
  have hb:=hbt i _ hli
  have hok:=hn2 _ (List.getElem_mem hlt)
  have hps:=posN2_succ hli
  have hp2:=hend (i+1)
  rw[hb]
  generalize ls[i]=l at hli hb hok hps
  obtain⟨ho1,ho2⟩:=hok
  refine brF (by rw[beq_eq_false_iff_ne];omega) ?_
  conv=>whnf
  refine brF (decide_eq_false (by omega)) ?_
  conv=>whnf
  have e1:IntKind.i64.wrap ((n.length:Int) - (posN2 ls i:Int))=((n.length - posN2 ls i:Nat):Int):=by rw[w64_in _ (by omega)];omega
  rw[e1]
  refine brF (decide_eq_false (by omega)) ?_
  conv=>whnf
  have e2:IntKind.i64.wrap ((posN2 ls i:Int)+IntKind.i64.wrap (1+(l.length:Int)))=((posN2 ls (i+1):Nat):Int):=by rw[w64_in (1+(l.length:Int)) (by omega),w64_in _ (by omega)];omega
  rw[e2]
  refine⟨fun h2=>?_,fun h2=>?_⟩
  ·have h2:m≤posN2 ls (i+1):=by
    have h:((posN2 ls (i+1):Nat):Int) ≥ (m:Int):=of_decide_eq_true h2
    omega
   conv=>whnf
   refine⟨fun h3=>?_,fun h3=>?_⟩
   ·have h3:m=0:=of_decide_eq_true h3
    conv=>whnf
    rw[←hlaw true ⟨fun _=>⟨0,Nat.zero_le _,h3.symm⟩,fun _=>rfl⟩]
    refine⟨by omega,?_⟩
    conv=>whnf
    rw[sub_drop]
    refine .one (.data _ (fold_ok _ (by rw[List.length_drop];omega)) rfl rfl ?_)
    conv=>whnf
    refine .one (.data _ (fold_ok z (by omega)) rfl rfl ?_)
    conv=>whnf
    try exact rfl
   ·have h3:¬ m=0:=of_decide_eq_false h3
    conv=>whnf
    refine⟨fun h4=>?_,fun h4=>?_⟩
    ·have h4:posN2 ls (i+1)=m:=by simp at h4;omega
     conv=>whnf
     rw[←hlaw true ⟨fun _=>⟨i+1,hlt,h4⟩,fun _=>rfl⟩]
     refine⟨by omega,?_⟩
     conv=>whnf
     rw[sub_drop]
     refine .one (.data _ (fold_ok _ (by rw[List.length_drop];omega)) rfl rfl ?_)
     conv=>whnf
     refine .one (.data _ (fold_ok z (by omega)) rfl rfl ?_)
     conv=>whnf
     try exact rfl
    ·have h4:¬ posN2 ls (i+1)=m:=by simp at h4;omega
     have hno:¬ ∃ j,j≤ls.length∧posN2 ls j=m:=by
      rintro ⟨j,j1,j2⟩
      rcases Nat.lt_trichotomy j (i+1) with x|x|x
      ·rcases Nat.eq_zero_or_pos j with y|y
       ·subst y;exact h3 j2.symm
       ·have:=hi2 j y (by omega);omega
      ·subst x;exact h4 j2
      ·have:=pos_mono x j1;omega
     rw[←hlaw false ⟨fun h=>(by cases h),fun h=>absurd h hno⟩]
     conv=>whnf
     try exact rfl
  ·have h2:posN2 ls (i+1)<m:=by
    have h:¬ ((posN2 ls (i+1):Nat):Int) ≥ (m:Int):=of_decide_eq_false h2
    omega
   conv=>whnf
   refine⟨i+1,[0,1,2,3],⟨hlt,fun j k1 k2=>?_⟩,by omega,?_⟩
   ·rcases Nat.lt_or_ge j (i+1) with x|x
    ·exact hi2 j k1 (by omega)
    ·rw[show j=i+1 by omega];exact h2
   conv=>whnf
   repeat'(first|exact ⟨⟩|exact rfl|exact subZ_self _|exact Or.inr rfl|exact fun _ _=>rfl|exact fun _ h=>absurd h (Nat.not_lt_zero _)|apply And.intro)
 ·have hil:i=ls.length:=by omega
  subst hil
  rw[hbe]
  conv=>whnf
  refine brT rfl ?_
  conv=>whnf
  refine⟨fun h3=>?_,fun h3=>?_⟩
  ·have h3:m=0:=of_decide_eq_true h3
   conv=>whnf
   rw[←hlaw true ⟨fun _=>⟨0,Nat.zero_le _,h3.symm⟩,fun _=>rfl⟩]
   refine⟨by omega,?_⟩
   conv=>whnf
   rw[sub_drop]
   refine .one (.data _ (fold_ok _ (by rw[List.length_drop];omega)) rfl rfl ?_)
   conv=>whnf
   refine .one (.data _ (fold_ok z (by omega)) rfl rfl ?_)
   conv=>whnf
   try exact rfl
  ·have h3:¬ m=0:=of_decide_eq_false h3
   have hno:¬ ∃ j,j≤ls.length∧posN2 ls j=m:=by
    rintro ⟨j,j1,j2⟩
    rcases Nat.eq_zero_or_pos j with y|y
    ·subst y;exact h3 j2.symm
    ·have:=hi2 j y j1;omega
   rw[←hlaw false ⟨fun h=>(by cases h),fun h=>absurd h hno⟩]
   conv=>whnf
   try exact rfl
end Go.Proofs.Ytnfoihdifohkeaa
namespace Go.Proofs.Ytnfoihdifohkeaa
def rot{α:Type}(p:Nat→α)(a m b:Nat):Nat→α:=fun x=>if a≤x∧x<a+(b - m) then p (x+(m - a)) else if a+(b - m)≤x∧x<b then p (x - (b - m)) else p x
def swp{α:Type}(p:Nat→α)(a b n:Nat):Nat→α:=fun x=>if a≤x∧x<a+n then p (x+(b - a)) else if b≤x∧x<b+n then p (x - (b - a)) else p x
theorem rot_id1{α:Type}(p:Nat→α)(a b:Nat)(h:a≤b):rot p a a b=p:=by
 funext x;unfold rot;(try dsimp only);repeat' split
 all_goals first|rfl|(exfalso;omega)|(congr 1;omega)
theorem rot_id2{α:Type}(p:Nat→α)(a b:Nat)(h:a≤b):rot p a b b=p:=by
 funext x;unfold rot;(try dsimp only);repeat' split
 all_goals first|rfl|(exfalso;omega)|(congr 1;omega)
theorem swp_zero{α:Type}(p:Nat→α)(a b:Nat):swp p a b 0=p:=by
 funext x;unfold swp;(try dsimp only);repeat' split
 all_goals first|rfl|(exfalso;omega)
theorem rot_left{α:Type}(p:Nat→α)(m i j:Nat)(hi:j<i)(him:i≤m):rot (swp p (m - i) m j) (m - (i - j)) m (m+j)=rot p (m - i) m (m+j):=by
 funext x;unfold rot swp;try dsimp only
 repeat' split
 all_goals first|rfl|(exfalso;omega)|(congr 1;omega)
theorem rot_right{α:Type}(p:Nat→α)(m i j:Nat)(hi:i<j)(him:i≤m):rot (swp p (m - i) (m+j - i) i) (m - i) m (m+(j - i))=rot p (m - i) m (m+j):=by
 funext x;unfold rot swp;try dsimp only
 repeat' split
 all_goals first|rfl|(exfalso;omega)|(congr 1;omega)
theorem rot_same{α:Type}(p:Nat→α)(m i:Nat)(him:i≤m):swp p (m - i) m i=rot p (m - i) m (m+i):=by
 funext x;unfold rot swp;try dsimp only
 repeat' split
 all_goals first|rfl|(exfalso;omega)|(congr 1;omega)
theorem swp_one{α:Type}(p:Nat→α)(a b n:Nat)(hb:a+n<b):swp (swp p a b n) (a+n) (b+n) 1=swp p a b (n+1):=by
 funext x;unfold swp;try dsimp only
 repeat' split
 all_goals first|rfl|(exfalso;omega)|(congr 1;omega)
theorem rot_up{α:Type}(p:Nat→α)(a k:Nat)(h:a≤k):swp (rot p a (a+1) (k+1)) k (k+1) 1=rot p a (a+1) (k+2):=by
 funext x;unfold rot swp;try dsimp only
 repeat' split
 all_goals first|rfl|(exfalso;omega)|(congr 1;omega)
theorem rot_down{α:Type}(p:Nat→α)(m k:Nat)(h:k+1≤m):swp (rot p (k+1) m (m+1)) k (k+1) 1=rot p k m (m+1):=by
 funext x;unfold rot swp;try dsimp only
 repeat' split
 all_goals first|rfl|(exfalso;omega)|(congr 1;omega)
structure Inj(n:Nat)(p:Nat→Nat):Prop where
 lt:∀ i,i<n→p i<n
 un:∀ i j,i<n→j<n→p i=p j→i=j
theorem Inj.surj:∀ {n:Nat} {p:Nat→Nat},Inj n p→∀ j,j<n→∃ i,i<n∧p i=j
 |0,_,_=>fun j h=>absurd h (by omega)
 |n+1,p,h=>fun j hj=>by
  have ih:=Inj.surj (n:=n) (p:=fun i=>if p i=n then p n else p i) ⟨fun i hi=>by
   have:=h.lt i (by omega)
   have:=h.lt n (by omega)
   show(if p i=n then p n else p i)<n
   split
   ·rename_i e
    rcases Nat.lt_or_ge (p n) n with hl|hl
    ·exact hl
    ·have:=h.un i n (by omega) (by omega) (by omega)
     omega
   ·omega,fun i k hi hk e=>by
   have e:(if p i=n then p n else p i)=(if p k=n then p n else p k):=e
   split at e <;> split at e
   ·exact h.un i k (by omega) (by omega) (by omega)
   ·have:=h.un n k (by omega) (by omega) e
    omega
   ·have:=h.un i n (by omega) (by omega) e
    omega
   ·exact h.un i k (by omega) (by omega) e⟩
  rcases Nat.lt_or_ge j n with hl|hl
  ·obtain⟨i,hi,e⟩:=ih j hl
   have e:(if p i=n then p n else p i)=j:=e
   split at e
   ·exact⟨n,by omega,e⟩
   ·exact⟨i,by omega,e⟩
  ·have hj:j=n:=by omega
   subst hj
   rcases Nat.lt_or_ge (p j) j with hl|hl
   ·obtain⟨i,hi,e⟩:=ih (p j) hl
    have e:(if p i=j then p j else p i)=p j:=e
    split at e
    ·rename_i e2;exact⟨i,by omega,e2⟩
    ·have:=h.un i j (by omega) (by omega) e
     omega
   ·have:=h.lt j (by omega)
    exact⟨j,by omega,by omega⟩
structure Same(p q:Nat→Nat)(a b:Nat):Prop where
 out:∀ i,¬ (a≤i∧i<b)→q i=p i
 fwd:∀ i,a≤i→i<b→∃ j,a≤j∧j<b∧q i=p j
 bwd:∀ i,a≤i→i<b→∃ j,a≤j∧j<b∧p i=q j
theorem Same.refl(p:Nat→Nat)(a b:Nat):Same p p a b:=⟨fun _ _=>rfl,fun i h1 h2=>⟨i,h1,h2,rfl⟩,fun i h1 h2=>⟨i,h1,h2,rfl⟩⟩
theorem Same.trans{p q r:Nat→Nat}{a b:Nat}(h:Same p q a b)(k:Same q r a b):Same p r a b :=
 ⟨fun i hi=>(k.out i hi).trans (h.out i hi),fun i h1 h2=>by
  obtain⟨j,a1,a2,a3⟩:=k.fwd i h1 h2
  obtain⟨l,b1,b2,b3⟩:=h.fwd j a1 a2
  exact⟨l,b1,b2,a3.trans b3⟩,fun i h1 h2=>by
  obtain⟨j,a1,a2,a3⟩:=h.bwd i h1 h2
  obtain⟨l,b1,b2,b3⟩:=k.bwd j a1 a2
  exact⟨l,b1,b2,a3.trans b3⟩⟩
theorem Same.wide{p q:Nat→Nat}{a b a' b':Nat}(h:Same p q a b)(ha:a'≤a)(hb:b≤b'):Same p q a' b' :=
 ⟨fun i hi=>h.out i (fun e=>hi (by omega)),fun i h1 h2=>by
  by_cases hi:a≤i∧i<b
  ·obtain⟨j,a1,a2,a3⟩:=h.fwd i hi.1 hi.2
   exact⟨j,by omega,by omega,a3⟩
  ·exact⟨i,h1,h2,h.out i hi⟩,fun i h1 h2=>by
  by_cases hi:a≤i∧i<b
  ·obtain⟨j,a1,a2,a3⟩:=h.bwd i hi.1 hi.2
   exact⟨j,by omega,by omega,a3⟩
  ·exact⟨i,h1,h2,(h.out i hi).symm⟩⟩
theorem same_rot(p:Nat→Nat)(a m b:Nat)(h1:a≤m)(h2:m≤b):Same p (rot p a m b) a b:=by
 refine⟨fun i hi=>?_,fun i ha hb=>?_,fun i ha hb=>?_⟩
 ·unfold rot;repeat' split
  all_goals first|rfl|(exfalso;omega)
 ·unfold rot
  split
  ·exact⟨i+(m - a),by omega,by omega,rfl⟩
  ·split
   ·exact⟨i - (b - m),by omega,by omega,rfl⟩
   ·omega
 ·by_cases hm:i<m
  ·refine⟨i+(b - m),by omega,by omega,?_⟩
   unfold rot
   rw[if_neg (by omega),if_pos (by omega)]
   congr 1;omega
  ·refine⟨i - (m - a),by omega,by omega,?_⟩
   unfold rot
   rw[if_pos (by omega)]
   congr 1;omega
theorem Inj.rot{n:Nat}{p:Nat→Nat}(h:Inj n p){a m b:Nat}(h1:a≤m)(h2:m≤b)(h3:b≤n):Inj n (rot p a m b):=by
 have key:∀ i,i<n→∃ j,j<n∧Ytnfoihdifohkeaa.rot p a m b i=p j∧((a≤i∧i<a+(b - m)∧j=i+(m - a))∨(a+(b - m)≤i∧i<b∧j=i - (b - m))∨(¬ (a≤i∧i<b)∧j=i)):=fun i hi=>by
  unfold Ytnfoihdifohkeaa.rot
  split
  ·exact⟨_,by omega,rfl,by omega⟩
  ·split
   ·exact⟨_,by omega,rfl,by omega⟩
   ·exact⟨_,hi,rfl,by omega⟩
 refine⟨fun i hi=>?_,fun i j hi hj e=>?_⟩
 ·obtain⟨k,a1,a2,_⟩:=key i hi
  rw[a2];exact h.lt k a1
 ·obtain⟨k,a1,a2,a3⟩:=key i hi
  obtain⟨l,b1,b2,b3⟩:=key j hj
  rw [a2,b2] at e
  have:=h.un k l a1 b1 e
  omega
section
variable(L:Nat→Nat→Prop)
def Rise(p:Nat→Nat)(a b:Nat):Prop:=∀ i j,a≤i→i<j→j<b→L (p i) (p j)
def Sep(p:Nat→Nat)(a m b:Nat):Prop:=∀ i j,a≤i→i<m→m≤j→j<b→p i<p j
structure Ord(n:Nat):Prop where
 trans:∀ i j k,i<n→j<n→k<n→L i j→L j k→L i k
 irr:∀ i,i<n→¬ L i i
 tot:∀ i j,i<n→j<n→i≠j→L i j∨L j i
variable{L}{n:Nat}{p:Nat→Nat}
theorem Rise.sub{a b a' b':Nat}(h:Rise L p a b)(ha:a≤a')(hb:b'≤b):Rise L p a' b':=fun i j h1 h2 h3=>h i j (by omega) h2 (by omega)
theorem Rise.congr{q:Nat→Nat}{a b:Nat}(h:Rise L p a b)(he:∀ i,a≤i→i<b→q i=p i):Rise L q a b:=fun i j h1 h2 h3=>by
 rw[he i h1 (by omega),he j (by omega) h3];exact h i j h1 h2 h3
structure Cut(p:Nat→Nat)(a m b s e:Nat):Prop where
 sa:a≤s
 sm:s≤m
 me:m≤e
 eb:e≤b
 lo:∀ i j,a≤i→i<s→e≤j→j<b→L (p i) (p j)
 hi:∀ i j,s≤i→i<m→m≤j→j<e→L (p j) (p i)
structure Merged(p q:Nat→Nat)(n a b:Nat):Prop where
 inj:Inj n q
 same:Same p q a b
 rise:Rise L q a b
theorem merge_two{a m b s e mid:Nat}(h1:Rise L p a m)(h2:Rise L p m b)(hc:Cut (L:=L) p a m b s e)(hmid:mid=s+(e - m)){q r:Nat→Nat}(hq:Merged (L:=L) (rot p s m e) q n a mid)(hr:Merged (L:=L) q r n mid b):Merged (L:=L) p r n a b:=by
 have hsa:=hc.sa
 have hsm:=hc.sm
 have hme:=hc.me
 have heb:=hc.eb
 have hs:Same p (rot p s m e) a b:=(same_rot p s m e hsm hme).wide hsa heb
 have hpq:Same p q a b:=hs.trans (hq.same.wide (Nat.le_refl _) (by omega))
 refine⟨hr.inj,hpq.trans (hr.same.wide (by omega) (Nat.le_refl _)),fun i j hi hij hj=>?_⟩
 -- what stands below mid,and what above
 have low:∀ i,a≤i→i<mid→∃ k,((a≤k∧k<s)∨(m≤k∧k<e))∧r i=p k:=fun i h3 h4=>by
  rw[hr.same.out i (by omega)]
  obtain⟨k,b1,b2,b3⟩:=hq.same.fwd i h3 h4
  rw[b3]
  unfold rot
  split
  ·exact⟨_,by omega,rfl⟩
  ·split
   ·omega
   ·exact⟨_,by omega,rfl⟩
 have high:∀ i,mid≤i→i<b→∃ k,((s≤k∧k<m)∨(e≤k∧k<b))∧r i=p k:=fun i h3 h4=>by
  obtain⟨k,b1,b2,b3⟩:=hr.same.fwd i h3 h4
  rw[b3,hq.same.out k (by omega)]
  unfold rot
  split
  ·omega
  ·split
   ·exact⟨_,by omega,rfl⟩
   ·exact⟨_,by omega,rfl⟩
 by_cases hjm:j<mid
 ·rw[hr.same.out i (by omega),hr.same.out j (by omega)]
  exact hq.rise i j hi hij hjm
 ·by_cases him:mid≤i
  ·exact hr.rise i j him hij hj
  ·obtain⟨k,a1,a2⟩:=low i hi (by omega)
   obtain⟨l,b1,b2⟩:=high j (by omega) hj
   rw[a2,b2]
   rcases a1 with a1|a1 <;> rcases b1 with b1|b1
   ·exact h1 k l a1.1 (by omega) b1.2
   ·exact hc.lo k l a1.1 a1.2 b1.1 b1.2
   ·exact hc.hi l k b1.1 b1.2 a1.1 a1.2
   ·exact h2 k l a1.1 (by omega) b1.2
theorem merge_up{a b i:Nat}(hp:Inj n p)(hbn:b≤n)(hai:a+1≤i)(hib:i≤b)(h2:Rise L p (a+1) b)(hlo:∀ j,a+1≤j→j<i→L (p j) (p a))(hhi:∀ j,i≤j→j<b→L (p a) (p j)):Merged (L:=L) p (rot p a (a+1) i) n a b:=by
 refine⟨hp.rot (by omega) hai (by omega),(same_rot p a (a+1) i (by omega) hai).wide (Nat.le_refl _) hib,fun x y hx hxy hy=>?_⟩
 unfold rot
 repeat' split
 ·exact h2 _ _ (by omega) (by omega) (by omega)
 ·have e:y - (i - (a+1))=a:=by omega
  rw[e];exact hlo _ (by omega) (by omega)
 ·exact h2 _ _ (by omega) (by omega) (by omega)
 ·omega
 ·omega
 ·have e:x - (i - (a+1))=a:=by omega
  rw[e];exact hhi _ (by omega) (by omega)
 ·omega
 ·omega
 ·exact h2 _ _ (by omega) (by omega) (by omega)
theorem merge_down{a m i:Nat}(hp:Inj n p)(hmn:m<n)(hai:a≤i)(him:i≤m)(h1:Rise L p a m)(hlo:∀ j,a≤j→j<i→L (p j) (p m))(hhi:∀ j,i≤j→j<m→L (p m) (p j)):Merged (L:=L) p (rot p i m (m+1)) n a (m+1):=by
 refine⟨hp.rot him (by omega) (by omega),(same_rot p i m (m+1) him (by omega)).wide hai (Nat.le_refl _),fun x y hx hxy hy=>?_⟩
 unfold rot
 repeat' split
 ·omega
 ·have e:x+(m - i)=m:=by omega
  rw[e];exact hhi _ (by omega) (by omega)
 ·omega
 ·omega
 ·exact h1 _ _ (by omega) (by omega) (by omega)
 ·omega
 ·have e:y+(m - i)=m:=by omega
  rw[e];exact hlo _ (by omega) (by omega)
 ·exact h1 _ _ (by omega) (by omega) (by omega)
 ·exact h1 _ _ (by omega) (by omega) (by omega)
end
structure Weak(n:Nat)(lt:Nat→Nat→Bool):Prop where
 asym:∀ i j,i<n→j<n→lt i j=true→lt j i=false
 trans:∀ i j k,i<n→j<n→k<n→lt i j=true→lt j k=true→lt i k=true
 ntrans:∀ i j k,i<n→j<n→k<n→lt i j=false→lt j k=false→lt i k=false
def LL(lt:Nat→Nat→Bool)(i j:Nat):Prop:=lt i j=true∨(lt j i=false∧i<j)
theorem Weak.irr{n:Nat}{lt:Nat→Nat→Bool}(h:Weak n lt)(i:Nat)(hi:i<n):lt i i=false:=by
 cases e:lt i i
 ·rfl
 ·have:=h.asym i i hi hi e;rw [e] at this;cases this
theorem Weak.ord{n:Nat}{lt:Nat→Nat→Bool}(h:Weak n lt):Ord (LL lt) n:=by
 refine⟨fun i j k hi hj hk a b=>?_,fun i hi a=>?_,fun i j hi hj hne=>?_⟩
 ·rcases a with a|⟨a,a'⟩ <;> rcases b with b|⟨b,b'⟩
  ·exact .inl (h.trans i j k hi hj hk a b)
  ·left
   cases e:lt i k
   ·have:=h.ntrans i k j hi hk hj e b;rw [a] at this;cases this
   ·rfl
  ·left
   cases e:lt i k
   ·have:=h.ntrans j i k hj hi hk a e;rw [b] at this;cases this
   ·rfl
  ·exact .inr ⟨h.ntrans k j i hk hj hi b a,by omega⟩
 ·rcases a with a|⟨_,a⟩
  ·rw [h.irr i hi] at a;cases a
  ·omega
 ·cases e:lt i j
  ·cases e':lt j i
   ·rcases Nat.lt_or_ge i j with hl|hl
    ·exact .inl (.inr ⟨e',hl⟩)
    ·exact .inr (.inr ⟨e,by omega⟩)
   ·exact .inr (.inl e')
  ·exact .inl (.inl e)
theorem cut_of{L:Nat→Nat→Prop}{n a m b s e:Nat}{p:Nat→Nat}(hO:Ord L n)(hp:Inj n p)(hbn:b≤n)(h1:Rise L p a m)(h2:Rise L p m b)(sa:a≤s)(sm:s≤m)(me:m≤e)(eb:e≤b)
 (hlo:s=a∨e=b∨L (p (s - 1)) (p e)) (hhi:s=m∨e=m∨L (p (e - 1)) (p s)):Cut (L:=L) p a m b s e:=by
 refine⟨sa,sm,me,eb,fun i j hi his hj hjb=>?_,fun i j hi him hj hje=>?_⟩
 ·have hl:L (p (s - 1)) (p e):=by
   rcases hlo with h|h|h
   ·omega
   ·omega
   ·exact h
  have hx:L (p i) (p e):=by
   rcases Nat.lt_or_ge i (s - 1) with h|h
   ·exact hO.trans _ _ _ (hp.lt i (by omega)) (hp.lt _ (by omega)) (hp.lt _ (by omega)) (h1 i (s - 1) hi h (by omega)) hl
   ·have:i=s - 1:=by omega
    rw[this];exact hl
  rcases Nat.lt_or_ge e j with h|h
  ·exact hO.trans _ _ _ (hp.lt i (by omega)) (hp.lt _ (by omega)) (hp.lt _ (by omega)) hx (h2 e j me h hjb)
  ·have:j=e:=by omega
   rw[this];exact hx
 ·have hl:L (p (e - 1)) (p s):=by
   rcases hhi with h|h|h
   ·omega
   ·omega
   ·exact h
  have hx:L (p j) (p s):=by
   rcases Nat.lt_or_ge j (e - 1) with h|h
   ·exact hO.trans _ _ _ (hp.lt j (by omega)) (hp.lt _ (by omega)) (hp.lt _ (by omega)) (h2 j (e - 1) hj h (by omega)) hl
   ·have:j=e - 1:=by omega
    rw[this];exact hl
  rcases Nat.lt_or_ge s i with h|h
  ·exact hO.trans _ _ _ (hp.lt j (by omega)) (hp.lt _ (by omega)) (hp.lt _ (by omega)) hx (h1 s i sa h him)
  ·have:i=s:=by omega
   rw[this];exact hx
theorem up_of{L:Nat→Nat→Prop}{n a b i:Nat}{p:Nat→Nat}(hO:Ord L n)(hp:Inj n p)(hbn:b≤n)(hai:a+1≤i)(hib:i≤b)(h2:Rise L p (a+1) b)(hlo:i=a+1∨L (p (i - 1)) (p a))(hhi:i=b∨L (p a) (p i)):Merged (L:=L) p (rot p a (a+1) i) n a b:=by
 refine merge_up hp hbn hai hib h2 (fun j h3 h4=>?_) (fun j h3 h4=>?_)
 ·have hl:L (p (i - 1)) (p a):=by
   rcases hlo with h|h
   ·omega
   ·exact h
  rcases Nat.lt_or_ge j (i - 1) with h|h
  ·exact hO.trans _ _ _ (hp.lt _ (by omega)) (hp.lt _ (by omega)) (hp.lt _ (by omega)) (h2 j (i - 1) h3 h (by omega)) hl
  ·have:j=i - 1:=by omega
   rw[this];exact hl
 ·have hl:L (p a) (p i):=by
   rcases hhi with h|h
   ·omega
   ·exact h
  rcases Nat.lt_or_ge i j with h|h
  ·exact hO.trans _ _ _ (hp.lt _ (by omega)) (hp.lt _ (by omega)) (hp.lt _ (by omega)) hl (h2 i j hai h h4)
  ·have:j=i:=by omega
   rw[this];exact hl
theorem down_of{L:Nat→Nat→Prop}{n a m i:Nat}{p:Nat→Nat}(hO:Ord L n)(hp:Inj n p)(hmn:m<n)(hai:a≤i)(him:i≤m)(h1:Rise L p a m)(hlo:i=a∨L (p (i - 1)) (p m))(hhi:i=m∨L (p m) (p i)):Merged (L:=L) p (rot p i m (m+1)) n a (m+1):=by
 refine merge_down hp hmn hai him h1 (fun j h3 h4=>?_) (fun j h3 h4=>?_)
 ·have hl:L (p (i - 1)) (p m):=by
   rcases hlo with h|h
   ·omega
   ·exact h
  rcases Nat.lt_or_ge j (i - 1) with h|h
  ·exact hO.trans _ _ _ (hp.lt _ (by omega)) (hp.lt _ (by omega)) (hp.lt _ (by omega)) (h1 j (i - 1) h3 h (by omega)) hl
  ·have:j=i - 1:=by omega
   rw[this];exact hl
 ·have hl:L (p m) (p i):=by
   rcases hhi with h|h
   ·omega
   ·exact h
  rcases Nat.lt_or_ge i j with h|h
  ·exact hO.trans _ _ _ (hp.lt _ (by omega)) (hp.lt _ (by omega)) (hp.lt _ (by omega)) hl (h1 i j hai h h4)
  ·have:j=i:=by omega
   rw[this];exact hl
theorem Sep.congr{q p:Nat→Nat}{a m b:Nat}(h:Sep p a m b)(he:∀ i,a≤i→i<b→q i=p i):Sep q a m b:=fun i j h1 h2 h3 h4=>by
 by_cases hx:i<b
 ·by_cases hy:a≤j
  ·rw[he i h1 hx,he j hy h4];exact h i j h1 h2 h3 h4
  ·omega
 ·omega
theorem rot_a{α:Type}(p:Nat→α){a m b i:Nat}(h:a≤i)(h2:i<a+(b - m)):rot p a m b i=p (i+(m - a)):=by
 unfold rot;rw[if_pos ⟨h,h2⟩]
theorem rot_b{α:Type}(p:Nat→α){a m b i:Nat}(h:a+(b - m)≤i)(h2:i<b):rot p a m b i=p (i - (b - m)):=by
 unfold rot;rw[if_neg (by omega),if_pos ⟨h,h2⟩]
theorem rot_o{α:Type}(p:Nat→α){a m b i:Nat}(h0:a≤m)(h1:m≤b)(h:i<a∨b≤i):rot p a m b i=p i:=by
 unfold rot;rw[if_neg (by omega),if_neg (by omega)]
theorem cut_left{L:Nat→Nat→Prop}{a m b s e mid:Nat}{p:Nat→Nat}(h1:Rise L p a m)(h2:Rise L p m b)(hs:Sep p a m b)(hc:Cut (L:=L) p a m b s e)(hmid:mid=s+(e - m)):Rise L (rot p s m e) a s∧Rise L (rot p s m e) s mid∧Sep (rot p s m e) a s mid:=by
 obtain⟨sa,sm,me,eb,_,_⟩:=hc
 refine⟨fun i j hi hij hj=>?_,fun i j hi hij hj=>?_,fun i j hi hij hj hjb=>?_⟩
 ·rw[rot_o p sm me (by omega),rot_o p sm me (by omega)];exact h1 i j hi hij (by omega)
 ·rw[rot_a p hi (by omega),rot_a p (by omega) (by omega)];exact h2 _ _ (by omega) (by omega) (by omega)
 ·rw[rot_o p sm me (by omega),rot_a p hj (by omega)];exact hs _ _ hi (by omega) (by omega) (by omega)
theorem cut_right{L:Nat→Nat→Prop}{a m b s e mid:Nat}{p:Nat→Nat}(h1:Rise L p a m)(h2:Rise L p m b)(hs:Sep p a m b)(hc:Cut (L:=L) p a m b s e)(hmid:mid=s+(e - m)):Rise L (rot p s m e) mid e∧Rise L (rot p s m e) e b∧Sep (rot p s m e) mid e b:=by
 obtain⟨sa,sm,me,eb,_,_⟩:=hc
 refine⟨fun i j hi hij hj=>?_,fun i j hi hij hj=>?_,fun i j hi hij hj hjb=>?_⟩
 ·rw[rot_b p (by omega) (by omega),rot_b p (by omega) (by omega)];exact h1 _ _ (by omega) (by omega) (by omega)
 ·rw[rot_o p sm me (by omega),rot_o p sm me (by omega)];exact h2 _ _ (by omega) hij hj
 ·rw[rot_b p (by omega) (by omega),rot_o p sm me (by omega)];exact hs _ _ (by omega) (by omega) (by omega) (by omega)
theorem Merged.stay{L:Nat→Nat→Prop}{n a b:Nat}{q:Nat→Nat}(hi:Inj n q)(h:Rise L q a b):Merged (L:=L) q q n a b:=⟨hi,.refl _ _ _,h⟩
def Lc(k lo n:Nat)(p:Nat→Nat):Prop:=∀ i,lo≤i→i<n→p i / k=i / k
def Rs(L:Nat→Nat→Prop)(k lo hi:Nat)(p:Nat→Nat):Prop:=∀ i j,lo≤i→i<j→j<hi→i / k=j / k→L (p i) (p j)
theorem div_in{k c i:Nat}(h1:c * k≤i)(h2:i<c * k+k):i / k=c:=by
 have hk:0<k:=by omega
 apply Nat.le_antisymm
 ·exact Nat.lt_succ_iff.1 (Nat.div_lt_of_lt_mul (by rw[Nat.mul_comm];rw[Nat.succ_mul];exact h2))
 ·exact(Nat.le_div_iff_mul_le hk).2 h1
theorem div_two(i k:Nat):i / (2 * k)=(i / k) / 2:=by rw[Nat.div_div_eq_div_mul,Nat.mul_comm]
structure Mg(L:Nat→Nat→Prop)(k n c:Nat)(p:Nat→Nat):Prop where
 inj:Inj n p
 big:Lc (2 * k) 0 n p
 done:Rs L (2 * k) 0 (min (c * (2 * k)) n) p
 rest:Rs L k (c * (2 * k)) n p
 small:Lc k (c * (2 * k)) n p
theorem Mg.begin{L:Nat→Nat→Prop}{k n:Nat}{p:Nat→Nat}(h1:Inj n p)(h2:Lc k 0 n p)(h3:Rs L k 0 n p):Mg L k n 0 p :=
 ⟨h1,fun i hi hn=>by rw[div_two,div_two,h2 i hi hn],fun i j hi hij hj _=>by omega,fun i j hi=>h3 i j (by omega),fun i hi=>h2 i (by omega)⟩
theorem Mg.left{L:Nat→Nat→Prop}{k n c:Nat}{p:Nat→Nat}(h:Mg L k n c p)(hm:c * (2 * k)+k≤n):Rise L p (c * (2 * k)) (c * (2 * k)+k):=fun i j hi hij hj=>by
 have e:c * (2 * k)=(c * 2) * k:=by rw[Nat.mul_assoc]
 refine h.rest i j hi hij (by omega) ?_
 rw[div_in (c:=c * 2) (by omega) (by omega),div_in (c:=c * 2) (by omega) (by omega)]
theorem Mg.right{L:Nat→Nat→Prop}{k n c b:Nat}{p:Nat→Nat}(h:Mg L k n c p)(hb:b≤n)(hb2:b≤c * (2 * k)+2 * k):Rise L p (c * (2 * k)+k) b:=fun i j hi hij hj=>by
 have e:c * (2 * k)=(c * 2) * k:=by rw[Nat.mul_assoc]
 have e2:(c * 2+1) * k=(c * 2) * k+k:=by rw[Nat.succ_mul]
 refine h.rest i j (by omega) hij (by omega) ?_
 rw[div_in (c:=c * 2+1) (by omega) (by omega),div_in (c:=c * 2+1) (by omega) (by omega)]
theorem Mg.sep{L:Nat→Nat→Prop}{k n c b:Nat}{p:Nat→Nat}(h:Mg L k n c p)(hb:b≤n)(hb2:b≤c * (2 * k)+2 * k):Sep p (c * (2 * k)) (c * (2 * k)+k) b:=fun i j hi him hj hjb=>by
 have hk:0<k:=by omega
 have e:c * (2 * k)=(c * 2) * k:=by rw[Nat.mul_assoc]
 have e2:(c * 2+1) * k=(c * 2) * k+k:=by rw[Nat.succ_mul]
 have a1:=h.small i hi (by omega)
 have a2:=h.small j (by omega) (by omega)
 rw [div_in (c:=c * 2) (i:=i) (by omega) (by omega)] at a1
 rw [div_in (c:=c * 2+1) (i:=j) (by omega) (by omega)] at a2
 rcases Nat.lt_or_ge (p i) (p j) with hl|hl
 ·exact hl
 ·have:=Nat.div_le_div_right (c:=k) hl
  omega
theorem Mg.next{L:Nat→Nat→Prop}{k n c b:Nat}{p r:Nat→Nat}(hk:0<k)(h:Mg L k n c p)(hb:b≤n)(hb2:b≤c * (2 * k)+2 * k)(hb3:b=n∨b=c * (2 * k)+2 * k)(hab:c * (2 * k)≤b)(hr:Merged (L:=L) p r n (c * (2 * k)) b):Mg L k n (c+1) r:=by
 have e:(c+1) * (2 * k)=c * (2 * k)+2 * k:=by rw[Nat.succ_mul]
 refine⟨hr.inj,fun i hi hin=>?_,fun i j hi hij hj hd=>?_,fun i j hi hij hj hd=>?_,fun i hi hin=>?_⟩
 ·by_cases hc:c * (2 * k)≤i∧i<b
  ·obtain⟨j,b1,b2,b3⟩:=hr.same.fwd i hc.1 hc.2
   rw[b3,h.big j (by omega) (by omega),div_in (c:=c) b1 (by omega),div_in (c:=c) hc.1 (by omega)]
  ·rw[hr.same.out i hc];exact h.big i hi hin
 ·by_cases hc:c * (2 * k)≤i
  ·exact hr.rise i j hc hij (by omega)
  ·by_cases hjc:j<c * (2 * k)
   ·rw[hr.same.out i (by omega),hr.same.out j (by omega)]
    exact h.done i j hi hij (by omega) hd
   ·exfalso
    rw [div_in (c:=c) (i:=j) (by omega) (by omega)] at hd
    have:=Nat.div_mul_le_self i (2 * k)
    rw [hd] at this
    omega
 ·rw[hr.same.out i (by omega),hr.same.out j (by omega)]
  exact h.rest i j (by omega) hij hj hd
 ·rw[hr.same.out i (by omega)]
  exact h.small i (by omega) hin
theorem Mg.over{L:Nat→Nat→Prop}{k n c:Nat}{p:Nat→Nat}(hk:0<k)(h:Mg L k n c p)(hn:n≤c * (2 * k)+k):Lc (2 * k) 0 n p∧Rs L (2 * k) 0 n p:=by
 refine⟨h.big,fun i j hi hij hj hd=>?_⟩
 have e:c * (2 * k)=(c * 2) * k:=by rw[Nat.mul_assoc]
 by_cases hjc:j<c * (2 * k)
 ·exact h.done i j hi hij (by omega) hd
 ·have hj2:=div_in (k:=2 * k) (c:=c) (i:=j) (by omega) (by omega)
  by_cases hic:c * (2 * k)≤i
  ·refine h.rest i j hic hij hj ?_
   rw[div_in (c:=c * 2) (by omega) (by omega),div_in (c:=c * 2) (by omega) (by omega)]
  ·exfalso
   rw [hj2] at hd
   have:=Nat.div_mul_le_self i (2 * k)
   rw [hd] at this
   omega
structure Fst(L:Nat→Nat→Prop)(k n c:Nat)(p:Nat→Nat):Prop where
 inj:Inj n p
 loc:Lc k 0 n p
 done:Rs L k 0 (min (c * k) n) p
 rest:∀ i,c * k≤i→p i=i
theorem Fst.zero{L:Nat→Nat→Prop}(k n:Nat):Fst L k n 0 id:=⟨⟨fun i h=>h,fun i j _ _ h=>h⟩,fun i _ _=>rfl,fun i j hi hij hj _=>by omega,fun i _=>rfl⟩
theorem Fst.next{L:Nat→Nat→Prop}{k n c b:Nat}{p r:Nat→Nat}(h:Fst L k n c p)(hb:b≤n)(hb2:b≤c * k+k)(hb3:b=n∨b=c * k+k)(hr:Merged (L:=L) p r n (c * k) b):Fst L k n (c+1) r:=by
 have e:(c+1) * k=c * k+k:=by rw[Nat.succ_mul]
 refine⟨hr.inj,fun i hi hin=>?_,fun i j hi hij hj hd=>?_,fun i hi=>?_⟩
 ·by_cases hc:c * k≤i∧i<b
  ·obtain⟨j,b1,b2,b3⟩:=hr.same.fwd i hc.1 hc.2
   rw[b3,h.rest j b1,div_in (c:=c) b1 (by omega),div_in (c:=c) hc.1 (by omega)]
  ·rw[hr.same.out i hc];exact h.loc i hi hin
 ·by_cases hc:c * k≤i
  ·exact hr.rise i j hc hij (by omega)
  ·by_cases hjc:j<c * k
   ·rw[hr.same.out i (by omega),hr.same.out j (by omega)]
    exact h.done i j hi hij (by omega) hd
   ·exfalso
    rw [div_in (c:=c) (i:=j) (by omega) (by omega)] at hd
    have:=Nat.div_mul_le_self i k
    rw [hd] at this
    omega
 ·rw[hr.same.out i (by omega)]
  exact h.rest i (by omega)
theorem Rs.all{L:Nat→Nat→Prop}{k n:Nat}{p:Nat→Nat}(h:Rs L k 0 n p)(hk:n≤k):Rise L p 0 n:=fun i j hi hij hj=>h i j hi hij hj (by rw[Nat.div_eq_of_lt (by omega),Nat.div_eq_of_lt (by omega)])
end Go.Proofs.Ytnfoihdifohkeaa
namespace Go.Proofs.Ytnfoihdifohkeaa
open Go Go.Eng
theorem u8_tri(a b:UInt8)(h1:¬ a<b)(h2:¬ b<a):a=b:=by
 rw [UInt8.lt_iff_toNat_lt] at h1 h2
 exact UInt8.toNat_inj.1 (by omega)
theorem bl_irr:∀ a:List UInt8,Op.bytesLess a a=false
 |[]=>rfl
 |a :: l=>by
  have:¬ a<a:=by rw[UInt8.lt_iff_toNat_lt];omega
  simp[Op.bytesLess,this,bl_irr l]
theorem bl_trans:∀ a b c:List UInt8,Op.bytesLess a b=true→Op.bytesLess b c=true→Op.bytesLess a c=true
 |_,_,[]=>fun _ h=>by simp [Op.bytesLess] at h
 |_,[],_ :: _=>fun h _=>by simp [Op.bytesLess] at h
 |[],_ :: _,_ :: _=>fun _ _=>rfl
 |a :: l,b :: m,c :: n=>fun h k=>by
  have ih:=bl_trans l m n
  simp only [Op.bytesLess,Bool.or_eq_true,Bool.and_eq_true,decide_eq_true_eq,beq_iff_eq] at h k ⊢
  rcases h with h|⟨rfl,h⟩ <;> rcases k with k|⟨rfl,k⟩
  ·left;rw [UInt8.lt_iff_toNat_lt] at *;omega
  ·exact .inl h
  ·exact .inl k
  ·exact .inr ⟨rfl,ih h k⟩
theorem bl_asym(a b:List UInt8)(h:Op.bytesLess a b=true):Op.bytesLess b a=false:=by
 cases e:Op.bytesLess b a
 ·rfl
 ·have:=bl_trans a b a h e
  rw [bl_irr] at this;cases this
theorem bl_tri:∀ a b:List UInt8,Op.bytesLess a b=false→Op.bytesLess b a=false→a=b
 |[],[]=>fun _ _=>rfl
 |[],_ :: _=>fun h _=>by simp [Op.bytesLess] at h
 |_ :: _,[]=>fun _ h=>by simp [Op.bytesLess] at h
 |a :: l,b :: m=>fun h k=>by
  have ih:=bl_tri l m
  simp only [Op.bytesLess,Bool.or_eq_false_iff,Bool.and_eq_false_iff,decide_eq_false_iff_not,beq_eq_false_iff_ne] at h k
  have e:a=b:=u8_tri a b h.1 k.1
  subst e
  rw[ih (h.2.resolve_left (fun h=>h rfl)) (k.2.resolve_left (fun h=>h rfl))]
theorem bl_ntrans(a b c:List UInt8)(h:Op.bytesLess a b=false)(k:Op.bytesLess b c=false):Op.bytesLess a c=false:=by
 cases e:Op.bytesLess a c
 ·rfl
 ·cases e2:Op.bytesLess b a
  ·rw [bl_tri a b h e2] at e;rw [e] at k;cases k
  ·rw [bl_trans b a c e2 e] at k;cases k
theorem cmp_bl:∀ a b:List UInt8,Lib.compareBytes a b=if Op.bytesLess a b then -1 else if Op.bytesLess b a then 1 else 0
 |[],[]=>rfl
 |[],_ :: _=>rfl
 |_ :: _,[]=>rfl
 |a :: l,b :: m=>by
  have ih:=cmp_bl l m
  unfold Lib.compareBytes
  by_cases h1:a<b
  ·simp[Op.bytesLess,h1]
  ·by_cases h2:b<a
   ·have:¬ a=b:=fun e=>by rw [UInt8.lt_iff_toNat_lt,e] at h2;omega
    simp[Op.bytesLess,h1,h2,this]
   ·have e:=u8_tri a b h1 h2
    subst e
    simp[Op.bytesLess,h1,ih]
theorem cmp_lt(a b:List UInt8):(Lib.compareBytes a b<0)↔Op.bytesLess a b=true:=by
 rw[cmp_bl]
 cases h:Op.bytesLess a b
 ·cases h2:Op.bytesLess b a <;> simp
 ·simp
theorem cmp_eq0(a b:List UInt8):(Lib.compareBytes a b=0)↔a=b:=by
 rw[cmp_bl]
 constructor
 ·intro h
  cases h1:Op.bytesLess a b
  ·cases h2:Op.bytesLess b a
   ·exact bl_tri a b h1 h2
   ·rw [h1,h2] at h;simp at h
  ·rw [h1] at h;simp at h
 ·rintro rfl;rw[bl_irr];rfl
def ltF(F:Nat→List UInt8)(i j:Nat):Bool:=Op.bytesLess (F i) (F j)
theorem ltF_weak(n:Nat)(F:Nat→List UInt8):Weak n (ltF F) :=
 ⟨fun _ _ _ _ h=>bl_asym _ _ h,fun _ _ _ _ _ _ h k=>bl_trans _ _ _ h k,fun _ _ _ _ _ _ h k=>bl_ntrans _ _ _ h k⟩
structure Firsts(F:List UInt8→List UInt8)(xs D:List (List UInt8)):Prop where
 rise:D.Pairwise (fun a b=>Op.bytesLess (F a) (F b)=true)
 mem:∀ x,x ∈ D↔∃ i:Nat,xs[i]? = some x∧∀ (j:Nat) (y:List UInt8),j<i→xs[j]? = some y→F y≠F x
theorem rise_uniq(F:List UInt8→List UInt8):∀ (A B:List (List UInt8)),A.Pairwise (fun a b=>Op.bytesLess (F a) (F b)=true)→B.Pairwise (fun a b=>Op.bytesLess (F a) (F b)=true)→(∀ x,x ∈ A↔x ∈ B)→A=B
 |[],[]=>fun _ _ _=>rfl
 |[],b :: B=>fun _ _ h=>by have:=(h b).2 (by simp);simp at this
 |a :: A,[]=>fun _ _ h=>by have:=(h a).1 (by simp);simp at this
 |a :: A,b :: B=>fun hA hB h=>by
  obtain⟨a1,a2⟩:=List.pairwise_cons.1 hA
  obtain⟨b1,b2⟩:=List.pairwise_cons.1 hB
  have e:a=b:=by
   rcases List.mem_cons.1 ((h a).1 (by simp)) with e|e
   ·exact e
   ·rcases List.mem_cons.1 ((h b).2 (by simp)) with e'|e'
    ·exact e'.symm
    ·have:=bl_asym _ _ (b1 a e)
     rw [a1 b e'] at this;cases this
  subst e
  have:A=B:=rise_uniq F A B a2 b2 fun x=>by
   constructor
   ·intro hx
    rcases List.mem_cons.1 ((h x).1 (List.mem_cons_of_mem _ hx)) with e|e
    ·subst e;have:=a1 x hx;rw [bl_irr] at this;cases this
    ·exact e
   ·intro hx
    rcases List.mem_cons.1 ((h x).2 (List.mem_cons_of_mem _ hx)) with e|e
    ·subst e;have:=b1 x hx;rw [bl_irr] at this;cases this
    ·exact e
  rw[this]
theorem Firsts.uniq{F:List UInt8→List UInt8}{xs A B:List (List UInt8)}(h:Firsts F xs A)(k:Firsts F xs B):A=B :=
 rise_uniq F A B h.rise k.rise fun x=>(h.mem x).trans (k.mem x).symm
theorem Firsts.self{F:List UInt8→List UInt8}{xs:List (List UInt8)}(h:xs.Pairwise (fun a b=>Op.bytesLess (F a) (F b)=true)):Firsts F xs xs:=by
 refine⟨h,fun x=>⟨fun hx=>?_,fun⟨i,hi,_⟩=>List.mem_of_getElem? hi⟩⟩
 obtain⟨i,hi⟩:=List.getElem?_of_mem hx
 refine⟨i,hi,fun j y hj hy e=>?_⟩
 obtain⟨hi1,rfl⟩:=List.getElem?_eq_some_iff.1 hi
 obtain⟨hj1,rfl⟩:=List.getElem?_eq_some_iff.1 hy
 have:=List.pairwise_iff_getElem.1 h j i hj1 hi1 hj
 rw [e,bl_irr] at this;cases this
theorem Firsts.cover{F:List UInt8→List UInt8}{xs D:List (List UInt8)}(h:Firsts F xs D):∀ (i:Nat) (y:List UInt8),xs[i]? = some y→∃ a ∈ D,F a=F y:=by
 intro i
 induction i using Nat.strongRecOn with
 |_ i ih =>
  intro y hy
  by_cases hx:∃ j z,j<i∧xs[j]? = some z∧F z=F y
  ·obtain⟨j,z,hj,hz,e⟩:=hx
   obtain⟨a,ha,e2⟩:=ih j hj z hz
   exact⟨a,ha,e2.trans e⟩
  ·exact⟨y,(h.mem y).2 ⟨i,hy,fun j z hj hz e=>hx ⟨j,z,hj,hz,e⟩⟩,rfl⟩
theorem Firsts.from{F:List UInt8→List UInt8}{xs D:List (List UInt8)}(h:Firsts F xs D){a:List UInt8}(ha:a ∈ D):∃ i:Nat,xs[i]? = some a:=by
 obtain⟨i,hi,_⟩:=(h.mem a).1 ha
 exact⟨i,hi⟩
theorem Firsts.skip{F:List UInt8→List UInt8}{xs D:List (List UInt8)}(h:Firsts F xs D){x a:List UInt8}(ha:a ∈ D)(e:F a=F x):Firsts F (xs++[x]) D:=by
 refine⟨h.rise,fun z=>(h.mem z).trans ⟨fun⟨i,hi,hf⟩=>?_,fun⟨i,hi,hf⟩=>?_⟩⟩
 ·have hil:=(List.getElem?_eq_some_iff.1 hi).1
  refine⟨i,by rw[List.getElem?_append_left hil];exact hi,fun j y hj hy=>hf j y hj ?_⟩
  rwa [List.getElem?_append_left (by omega)] at hy
 ·rcases Nat.lt_or_ge i xs.length with hl|hl
  ·rw [List.getElem?_append_left hl] at hi
   exact⟨i,hi,fun j y hj hy=>hf j y hj (by rw[List.getElem?_append_left (by omega)];exact hy)⟩
  ·exfalso
   obtain⟨q,hq⟩:=h.from ha
   have hql:=(List.getElem?_eq_some_iff.1 hq).1
   have hx:z=x:=by
    rw [List.getElem?_append_right hl] at hi
    have:i - xs.length=0:=by
     rcases Nat.eq_zero_or_pos (i - xs.length) with h|h
     ·exact h
     ·rw [List.getElem?_eq_none (by simp;omega)] at hi;cases hi
    rw [this] at hi
    exact(Option.some.inj hi).symm
   refine hf q a (by omega) (by rw[List.getElem?_append_left hql];exact hq) (by rw[hx];exact e)
theorem Firsts.put{F:List UInt8→List UInt8}{xs A B:List (List UInt8)}(h:Firsts F xs (A++B)){x:List UInt8}(hA:∀ a ∈ A,Op.bytesLess (F a) (F x)=true)(hB:∀ b ∈ B,Op.bytesLess (F x) (F b)=true):Firsts F (xs++[x]) (A++x :: B):=by
 have hr:=List.pairwise_append.1 h.rise
 have hno:∀ i y,xs[i]? = some y→F y≠F x:=fun i y hy e=>by
  obtain⟨a,ha,e2⟩:=h.cover i y hy
  rcases List.mem_append.1 ha with ha|ha
  ·have:=hA a ha;rw [e2,e,bl_irr] at this;cases this
  ·have:=hB a ha;rw [e2,e,bl_irr] at this;cases this
 refine⟨?_,fun z=>?_⟩
 ·refine List.pairwise_append.2 ⟨hr.1,List.pairwise_cons.2 ⟨hB,hr.2.1⟩,fun a ha b hb=>?_⟩
  rcases List.mem_cons.1 hb with rfl|hb
  ·exact hA a ha
  ·exact hr.2.2 a ha b hb
 ·have:z ∈ A++x :: B↔z ∈ A++B∨z=x:=by
   simp only[List.mem_append,List.mem_cons]
   constructor
   ·rintro (h|h|h)
    ·exact .inl (.inl h)
    ·exact .inr h
    ·exact .inl (.inr h)
   ·rintro ((h|h)|h)
    ·exact .inl h
    ·exact .inr (.inr h)
    ·exact .inr (.inl h)
  rw[this,h.mem z]
  constructor
  ·rintro (⟨i,hi,hf⟩|rfl)
   ·have hil:=(List.getElem?_eq_some_iff.1 hi).1
    refine⟨i,by rw[List.getElem?_append_left hil];exact hi,fun j y hj hy=>hf j y hj ?_⟩
    rwa [List.getElem?_append_left (by omega)] at hy
   ·refine⟨xs.length,by simp,fun j y hj hy=>hno j y ?_⟩
    rwa [List.getElem?_append_left hj] at hy
  ·rintro ⟨i,hi,hf⟩
   rcases Nat.lt_or_ge i xs.length with hl|hl
   ·left
    rw [List.getElem?_append_left hl] at hi
    exact⟨i,hi,fun j y hj hy=>hf j y hj (by rw[List.getElem?_append_left (by omega)];exact hy)⟩
   ·right
    rw [List.getElem?_append_right hl] at hi
    have:i - xs.length=0:=by
     rcases Nat.eq_zero_or_pos (i - xs.length) with h|h
     ·exact h
     ·rw [List.getElem?_eq_none (by simp;omega)] at hi;cases hi
    rw [this] at hi
    exact(Option.some.inj hi).symm
theorem Firsts.len{F:List UInt8→List UInt8}{xs D:List (List UInt8)}(h:Firsts F xs D)(hx:xs≠[]):0<D.length:=by
 cases xs with
 |nil=>exact absurd rfl hx
 |cons x l =>
  obtain⟨a,ha,_⟩:=h.cover 0 x rfl
  exact List.length_pos_of_mem ha
def insF(F:List UInt8→List UInt8):List (List UInt8)→List UInt8→List (List UInt8)
 |[],x=>[x]
 |d :: D,x=>if Op.bytesLess (F d) (F x) then d :: insF F D x else if F d=F x then d :: D else x :: d :: D
theorem insF_cases(F:List UInt8→List UInt8):∀ (D:List (List UInt8)) (x:List UInt8),D.Pairwise (fun a b=>Op.bytesLess (F a) (F b)=true) →
 (insF F D x=D∧∃ a ∈ D,F a=F x)∨∃ A B,D=A++B∧insF F D x=A++x :: B∧(∀ a ∈ A,Op.bytesLess (F a) (F x)=true)∧∀ b ∈ B,Op.bytesLess (F x) (F b)=true
 |[],x=>fun _=>.inr ⟨[],[],rfl,rfl,fun _ h=>(by cases h),fun _ h=>(by cases h)⟩
 |d :: D,x=>fun h=>by
  obtain⟨h1,h2⟩:=List.pairwise_cons.1 h
  unfold insF
  cases e:Op.bytesLess (F d) (F x)
  ·by_cases e2:F d=F x
   ·left
    rw[if_neg (by simp),if_pos e2]
    exact⟨rfl,d,by simp,e2⟩
   ·right
    rw[if_neg (by simp),if_neg e2]
    have e3:Op.bytesLess (F x) (F d)=true:=by
     cases e4:Op.bytesLess (F x) (F d)
     ·exact absurd (bl_tri _ _ e e4) e2
     ·rfl
    refine⟨[],d :: D,rfl,rfl,fun _ h=>by(cases h),fun b hb=>?_⟩
    rcases List.mem_cons.1 hb with rfl|hb
    ·exact e3
    ·exact bl_trans _ _ _ e3 (h1 b hb)
  ·rw[if_pos rfl]
   rcases insF_cases F D x h2 with⟨h3,a,ha,h4⟩|⟨A,B,h3,h4,h5,h6⟩
   ·left
    rw[h3]
    exact⟨rfl,a,by simp[ha],h4⟩
   ·right
    refine⟨d :: A,B,by rw[h3];rfl,by rw[h4];rfl,fun a ha=>?_,h6⟩
    rcases List.mem_cons.1 ha with rfl|ha
    ·exact e
    ·exact h5 a ha
theorem Firsts.ins{F:List UInt8→List UInt8}{xs D:List (List UInt8)}(h:Firsts F xs D)(x:List UInt8):Firsts F (xs++[x]) (insF F D x):=by
 rcases insF_cases F D x h.rise with⟨h3,a,ha,h4⟩|⟨A,B,h3,h4,h5,h6⟩
 ·rw[h3];exact h.skip ha h4
 ·rw[h4];exact Firsts.put (h3 ▸ h) h5 h6
def firstsOf(F:List UInt8→List UInt8)(xs:List (List UInt8)):List (List UInt8):=xs.foldl (insF F) []
theorem firsts_from(F:List UInt8→List UInt8):∀ (ys xs D:List (List UInt8)),Firsts F xs D→Firsts F (xs++ys) (ys.foldl (insF F) D)
 |[],xs,D=>fun h=>by rw[List.append_nil];exact h
 |y :: ys,xs,D=>fun h=>by
  have:=firsts_from F ys (xs++[y]) (insF F D y) (h.ins y)
  rw [List.append_assoc] at this
  exact this
theorem firsts_of(F:List UInt8→List UInt8)(xs:List (List UInt8)):Firsts F xs (firstsOf F xs):=by
 have:=firsts_from F xs [] [] ⟨.nil,fun x=>⟨fun h=>(by cases h),fun ⟨i,hi,_⟩=>(by simp at hi)⟩⟩
 exact this
def kept(F:Nat→List UInt8)(p:Nat→Nat):Nat→List Nat
 |0=>[]
 |n+1=>if n=0∨F (p n)≠F (p (n - 1)) then kept F p n++[p n] else kept F p n
theorem kept_le(F:Nat→List UInt8)(p:Nat→Nat):∀ n,(kept F p n).length≤n
 |0=>Nat.le_refl _
 |n+1=>by
  have:=kept_le F p n
  unfold kept;split
  ·simp;omega
  ·omega
theorem kept_pos(F:Nat→List UInt8)(p:Nat→Nat):∀ n,0<n→0<(kept F p n).length
 |0=>fun h=>absurd h (by omega)
 |1=>fun _=>by simp[kept]
 |n+2=>fun _=>by
  have:=kept_pos F p (n+1) (by omega)
  unfold kept;split
  ·simp
  ·exact this
theorem kept_spec{n:Nat}{F:Nat→List UInt8}{p:Nat→Nat}(hp:Inj n p)(hr:Rise (LL (ltF F)) p 0 n):∀ m,m≤n →
 (kept F p m).Pairwise (fun a b=>Op.bytesLess (F a) (F b)=true)∧(∀ a ∈ kept F p m,∃ i,i<m∧a=p i∧∀ j,j<n→F j=F a→a≤j)∧(∀ i,i<m→∃ a ∈ kept F p m,F a=F (p i))
 |0=>fun _=>⟨.nil,fun _ h=>(by cases h),fun i h=>absurd h (by omega)⟩
 |m+1=>fun hm=>by
  obtain⟨h1,h2,h3⟩:=kept_spec hp hr m (by omega)
  have surj:∀ j,j<n→∃ i,i<n∧p i=j:=Inj.surj hp
  unfold kept
  split
  ·rename_i hne
   have hne2:∀ i,i<m→Op.bytesLess (F (p i)) (F (p m))=true:=fun i hi=>by
    have hne:F (p m)≠F (p (m - 1)):=hne.resolve_left (by omega)
    have e1:Op.bytesLess (F (p (m - 1))) (F (p m))=true:=by
     rcases hr (m - 1) m (by omega) (by omega) (by omega) with h|⟨h,_⟩
     ·exact h
     ·cases e:Op.bytesLess (F (p (m - 1))) (F (p m))
      ·exact absurd (bl_tri _ _ h e) hne
      ·rfl
    rcases Nat.lt_or_ge i (m - 1) with hl|hl
    ·rcases hr i (m - 1) (by omega) hl (by omega) with h|⟨h,_⟩
     ·exact bl_trans _ _ _ h e1
     ·cases e:Op.bytesLess (F (p i)) (F (p m))
      ·have:=bl_ntrans _ _ _ h e;rw [e1] at this;cases this
      ·rfl
    ·have:i=m - 1:=by omega
     rw[this];exact e1
   refine⟨List.pairwise_append.2 ⟨h1,by simp,fun a ha b hb=>?_⟩,fun a ha=>?_,fun i hi=>?_⟩
   ·simp only [List.mem_singleton] at hb
    subst hb
    obtain⟨i,hi,rfl,_⟩:=h2 a ha
    exact hne2 i hi
   ·rcases List.mem_append.1 ha with ha|ha
    ·obtain⟨i,hi,e⟩:=h2 a ha
     exact⟨i,by omega,e⟩
    ·simp only [List.mem_singleton] at ha
     subst ha
     refine⟨m,by omega,rfl,fun j hj he=>?_⟩
     obtain⟨i,hi,rfl⟩:=surj j hj
     rcases Nat.lt_trichotomy i m with h|h|h
     ·have:=hne2 i h;rw [he,bl_irr] at this;cases this
     ·rw[h];exact Nat.le_refl _
     ·rcases hr m i (by omega) h hi with h'|⟨_,h'⟩
      ·unfold ltF at h';rw [he,bl_irr] at h';cases h'
      ·omega
   ·rcases Nat.lt_or_ge i m with h|h
    ·obtain⟨a,ha,e⟩:=h3 i h
     exact⟨a,List.mem_append_left _ ha,e⟩
    ·have:i=m:=by omega
     exact⟨p m,by simp,by rw[this]⟩
  ·rename_i hne
   refine⟨h1,fun a ha=>?_,fun i hi=>?_⟩
   ·obtain⟨i,hi,e⟩:=h2 a ha
    exact⟨i,by omega,e⟩
   ·rcases Nat.lt_or_ge i m with h|h
    ·exact h3 i h
    ·have hm0:¬ m=0:=fun e=>hne (.inl e)
     have he:F (p m)=F (p (m - 1)):=Classical.byContradiction fun e=>hne (.inr e)
     have:i=m:=by omega
     rw[this,he]
     exact h3 (m - 1) (by omega)
theorem kept_firsts{F:List UInt8→List UInt8}{xs:List (List UInt8)}{p:Nat→Nat}(hp:Inj xs.length p)(hr:Rise (LL (ltF fun i=>F (xs[i]?.getD []))) p 0 xs.length):Firsts F xs ((kept (fun i=>F (xs[i]?.getD [])) p xs.length).map fun i=>xs[i]?.getD []):=by
 obtain⟨h1,h2,h3⟩:=kept_spec hp hr xs.length (Nat.le_refl _)
 refine⟨?_,fun x=>?_⟩
 ·rw[List.pairwise_map];exact h1
 ·rw[List.mem_map]
  constructor
  ·rintro ⟨a,ha,rfl⟩
   obtain⟨i,hi,rfl,hmin⟩:=h2 a ha
   have hlt:=hp.lt i hi
   refine⟨p i,by rw[List.getElem?_eq_getElem hlt];rfl,fun j y hj hy e=>?_⟩
   have:=hmin j (by omega) (by rw[hy];exact e)
   omega
  ·rintro ⟨i,hi,hf⟩
   have hil:i<xs.length:=(List.getElem?_eq_some_iff.1 hi).1
   obtain⟨k,hk,e⟩:=Inj.surj hp i hil
   obtain⟨a,ha,e2⟩:=h3 k hk
   obtain⟨q,hq,e3,hmin⟩:=h2 a ha
   have h4:=hmin i hil (by rw[e2,e])
   refine⟨a,ha,?_⟩
   rcases Nat.lt_or_ge a i with h|h
   ·have hal:a<xs.length:=by omega
    exfalso
    refine hf a (xs[a]?.getD []) h (by rw[List.getElem?_eq_getElem hal];rfl) ?_
    rw[e2,e,hi];rfl
   ·have:a=i:=by omega
    rw[this,hi];rfl
end Go.Proofs.Ytnfoihdifohkeaa
namespace Go.Proofs.Ytnfoihdifohkeaa
open Go Go.Eng
def cel(x:Nat):List DV:=[.int .i64 (x:Int)]
def rowP(n:Nat)(z:Z)(p:Nat→Nat):KB:=.row 3 1 n z (fun i=>cel (p i))
theorem oneF_cel(q:Nat→Nat)(j y:Nat):oneF j 0 (cel y) (fun i=>cel (q i))=fun i=>cel (upd q j y i):=by
 funext i
 unfold oneF upd
 split
 ·rfl
 ·rfl
theorem upd_two{α:Type}(q:Nat→α)(j k:Nat)(h:j<k):upd (upd q j (q k)) k (q j)=swp q j k 1:=by
 funext x;unfold upd swp;(try dsimp only);repeat' split
 all_goals first|rfl|(exfalso;omega)|(congr 1;omega)
theorem puts_two(q:Nat→Nat)(j k:Nat)(h:j<k):oneF k 0 (cel (q j)) (oneF j 0 (cel (q k)) (fun x=>cel (q x)))=fun x=>cel (swp q j k 1 x):=by
 rw[oneF_cel,oneF_cel,upd_two q j k h]
theorem puts_two'(q:Nat→Nat)(j k:Nat)(h:j<k):oneF j 0 (cel (q k)) (oneF k 0 (cel (q j)) (fun x=>cel (q x)))=fun x=>cel (swp q j k 1 x):=by
 rw[oneF_cel,oneF_cel,←upd_two q j k h]
 funext x;unfold upd;repeat' split
 all_goals first|rfl|omega|(congr 1;omega)
set_option maxRecDepth 100000
set_option maxHeartbeats 4000000 in
theorem swap_ok(n:Nat)(hn:n<1152921504606846976)(z:Z)(p:Nat→Nat)(a b m:Nat)(ha:a+m≤n)(hb:b+m≤n)(hab:a+m≤b):COk Try.prog 101 [.all 0,iV a,iV b,iV m,.any] [rowP n z p] (fun s k=>s = .tup []∧k=[rowP n z (swp p a b m)]):=by
 refine cOk_of_run (TT:=TT) (IN:=lookI []) TT_ok INok_nil mixed 1000 Try.func101 rfl (enters Try.func101 (by kernel_rfl) rfl) 33 (by kernel_rfl) ?_
 conv=>whnf
 refine .inv Nat (fun i=>i≤m) (fun i=>[(10,iV i)]) (fun i=>[(0,rowP n z (swp p a b i))]) (fun i=>m - i) ⟨0,[0],by omega,?_⟩ ?_
 ·conv=>whnf
  rw[swp_zero]
  repeat'(first|exact ⟨⟩|exact rfl|exact subZ_self _|exact Or.inr rfl|exact fun _ _=>rfl|exact fun _ h=>absurd h (Nat.not_lt_zero _)|apply And.intro)
 intro i hi
 conv=>whnf
 refine⟨fun h1=>?_,fun h1=>?_⟩
 ·have h1:i<m:=by
   have h:(i:Int)<m:=of_decide_eq_true h1
   omega
  have e1:IntKind.i64.wrap ((a:Int)+(i:Int))=((a+i:Nat):Int):=by rw[w64_in _ (by omega)];omega
  have e2:IntKind.i64.wrap ((b:Int)+(i:Int))=((b+i:Nat):Int):=by rw[w64_in _ (by omega)];omega
  conv=>whnf
  refine⟨?_,?_,?_,?_⟩
  rotate_left 2
  ·conv=>whnf
   rw[e1,e2]
   repeat'(first|exact⟨rfl,rfl⟩|(refine⟨⟨by omega,by omega⟩,?_⟩;conv=>whnf)|exact ⟨⟩|apply And.intro|(conv=>whnf))
  ·conv=>whnf
   refine⟨i+1,[0],by omega,by show m - (i+1)<m - i;omega,?_⟩
   have e3:IntKind.i64.wrap ((i:Int)+1)=((i+1:Nat):Int):=by rw[w64_in _ (by omega)];omega
   rw[e3]
   conv=>whnf
   repeat'(first|exact ⟨⟩|exact rfl|exact subZ_self _|exact Or.inr rfl|exact fun _ _=>rfl|exact fun _ h=>absurd h (Nat.not_lt_zero _)|apply And.intro)
   intro x hx
   rw[e1]
   exact(congrFun (puts_two (swp p a b i) (a+i) (b+i) (by omega)) x).trans (congrArg (fun f=>cel (f x)) (swp_one p a b i (by omega)))
 ·have h1:i=m:=by
   have h:¬ ((i:Int)<m):=of_decide_eq_false h1
   omega
  subst h1
  conv=>whnf
  refine⟨[0],_,_,rfl,rfl,?_,?_,rfl,rfl⟩
  ·exact rfl
  ·conv=>whnf
   repeat'(first|exact ⟨⟩|exact rfl|exact subZ_self _|exact Or.inr rfl|exact fun _ _=>rfl|exact fun _ h=>absurd h (Nat.not_lt_zero _)|apply And.intro)
set_option maxHeartbeats 4000000 in
theorem rotate_ok(n:Nat)(hn:n<1152921504606846976)(z:Z)(p:Nat→Nat)(a m b:Nat)(ha:a<m)(hb:m<b)(hbn:b≤n):COk Try.prog 99 [.all 0,iV a,iV m,iV b,.any] [rowP n z p] (fun s k=>s = .tup []∧k=[rowP n z (rot p a m b)]):=by
 refine cOk_of_run (TT:=TT) (IN:=lookI []) TT_ok INok_nil mixed 1000 Try.func99 rfl (enters Try.func99 (by kernel_rfl) rfl) 53 (by kernel_rfl) ?_
 have e1:IntKind.i64.wrap ((m:Int) - (a:Int))=((m - a:Nat):Int):=by rw[w64_in _ (by omega)];omega
 have e2:IntKind.i64.wrap ((b:Int) - (m:Int))=((b - m:Nat):Int):=by rw[w64_in _ (by omega)];omega
 conv=>whnf
 rw[e1,e2]
 refine .inv (Nat × Nat × (Nat→Nat)) (fun s=>0<s.1∧0<s.2.1∧s.1≤m - a∧s.2.1≤b - m∧rot s.2.2 (m - s.1) m (m+s.2.1)=rot p a m b) (fun s=>[(10,iV s.1),(11,iV s.2.1)]) (fun s=>[(0,rowP n z s.2.2)]) (fun s=>s.1+s.2.1) ⟨(m - a,b - m,p),[0],show 0<m - a∧0<b - m∧m - a≤m - a∧b - m≤b - m∧rot p (m - (m - a)) m (m+(b - m))=rot p a m b from⟨by omega,by omega,by omega,by omega,?_⟩,?_⟩ ?_
 ·rw[show m - (m - a)=a by omega,show m+(b - m)=b by omega]
 ·conv=>whnf
  repeat'(first|exact ⟨⟩|exact rfl|exact subZ_self _|exact Or.inr rfl|exact fun _ _=>rfl|exact fun _ h=>absurd h (Nat.not_lt_zero _)|apply And.intro)
 intro s hs
 obtain⟨i,j,q⟩:=s
 obtain⟨h0,h00,him,hjb,hq⟩:=hs
 dsimp only at h0 h00 him hjb hq
 conv=>whnf
 refine⟨fun h1=>?_,fun h1=>?_⟩
 ·have h1:¬ i=j:=fun e=>by subst e;simp at h1
  conv=>whnf
  refine⟨fun h2=>?_,fun h2=>?_⟩
  ·have h2:j<i:=by
    have h:(i:Int) > j:=of_decide_eq_true h2
    omega
   have e3:IntKind.i64.wrap ((m:Int) - (i:Int))=((m - i:Nat):Int):=by rw[w64_in _ (by omega)];omega
   conv=>whnf
   rw[e3]
   refine .rel _ (swap_ok n hn z q (m - i) m j (by omega) (by omega) (by omega)) (fun r ks' hR=>?_)
   obtain⟨rfl,rfl⟩:=hR
   have e4:IntKind.i64.wrap ((i:Int) - (j:Int))=((i - j:Nat):Int):=by rw[w64_in _ (by omega)];omega
   conv=>whnf
   rw[e4]
   refine⟨(i - j,j,swp q (m - i) m j),[0],(show 0<i - j∧0<j∧i - j≤m - a∧j≤b - m∧rot (swp q (m - i) m j) (m - (i - j)) m (m+j)=rot p a m b from⟨by omega,by omega,by omega,by omega,(rot_left q m i j h2 (by omega)).trans hq⟩),by show i - j+j<i+j;omega,?_⟩
   conv=>whnf
   repeat'(first|exact ⟨⟩|exact rfl|exact subZ_self _|exact Or.inr rfl|exact fun _ _=>rfl|exact fun _ h=>absurd h (Nat.not_lt_zero _)|apply And.intro)
  ·have h2:i<j:=by
    have h:¬ ((i:Int) > j):=of_decide_eq_false h2
    omega
   have e3:IntKind.i64.wrap ((m:Int) - (i:Int))=((m - i:Nat):Int):=by rw[w64_in _ (by omega)];omega
   have e5:IntKind.i64.wrap (IntKind.i64.wrap ((m:Int)+(j:Int)) - (i:Int))=((m+j - i:Nat):Int):=by rw[w64_in ((m:Int)+j) (by omega),w64_in _ (by omega)];omega
   conv=>whnf
   rw[e3,e5]
   refine .rel _ (swap_ok n hn z q (m - i) (m+j - i) i (by omega) (by omega) (by omega)) (fun r ks' hR=>?_)
   obtain⟨rfl,rfl⟩:=hR
   have e4:IntKind.i64.wrap ((j:Int) - (i:Int))=((j - i:Nat):Int):=by rw[w64_in _ (by omega)];omega
   conv=>whnf
   rw[e4]
   refine⟨(i,j - i,swp q (m - i) (m+j - i) i),[0],(show 0<i∧0<j - i∧i≤m - a∧j - i≤b - m∧rot (swp q (m - i) (m+j - i) i) (m - i) m (m+(j - i))=rot p a m b from⟨by omega,by omega,by omega,by omega,(rot_right q m i j h2 (by omega)).trans hq⟩),by show i+(j - i)<i+j;omega,?_⟩
   conv=>whnf
   repeat'(first|exact ⟨⟩|exact rfl|exact subZ_self _|exact Or.inr rfl|exact fun _ _=>rfl|exact fun _ h=>absurd h (Nat.not_lt_zero _)|apply And.intro)
 ·have h1:i=j:=by simp at h1;omega
  subst h1
  have e3:IntKind.i64.wrap ((m:Int) - (i:Int))=((m - i:Nat):Int):=by rw[w64_in _ (by omega)];omega
  conv=>whnf
  rw[e3]
  refine .rel _ (swap_ok n hn z q (m - i) m i (by omega) (by omega) (by omega)) (fun r ks' hR=>?_)
  obtain⟨rfl,rfl⟩:=hR
  rw[rot_same q m i (by omega),hq]
  conv=>whnf
  refine⟨[0],_,_,rfl,rfl,?_,?_,rfl,rfl⟩
  ·exact rfl
  ·conv=>whnf
   repeat'(first|exact ⟨⟩|exact rfl|exact subZ_self _|exact Or.inr rfl|exact fun _ _=>rfl|exact fun _ h=>absurd h (Nat.not_lt_zero _)|apply And.intro)
end Go.Proofs.Ytnfoihdifohkeaa
namespace Go.Proofs.Ytnfoihdifohkeaa
open Go Go.Eng
def upN(n:List UInt8):List UInt8:=n.drop (1+bt n 0)
def parentR(n:List UInt8):List UInt8 × Int:=if isName n then (if n=[0] then ([],3) else (upN n,0)) else ([],2)
theorem name_bt{n:List UInt8}(h:isName n)(hn:n≠[0]):1+bt n 0≤n.length∧bt n 0≤63:=by
 obtain⟨h1,h2,h3⟩:=labN_of h
 cases hl:labN n with
 |nil=>rw [hl] at h3;exact absurd h3 hn
 |cons l ls =>
  rw [hl] at h2 h3
  have hok:=h2 l (by simp)
  have hb:bt n 0=l.length:=by rw[h3];exact bt_lab l (mk ls) hok
  rw[hb]
  have:=hok.2
  refine⟨?_,this⟩
  conv=>rhs;rw[h3]
  show _≤(lab l++mk ls).length
  rw[List.length_append,lab_len];omega
set_option maxHeartbeats 4000000 in
theorem parent_ok(n:List UInt8):FnOk Try.prog 90 [.d (.str n)] (.tup [.d (.str (parentR n).1),.d (.int .i64 (parentR n).2)]):=by
 refine fnOk_of_run (TT:=TT) (IN:=lookI []) TT_ok INok_nil mixed 1000 Try.func90 rfl (enters Try.func90 (by kernel_rfl) rfl) rfl 14 (by kernel_rfl) ?_
 conv=>whnf
 refine .one (.data _ (check_ok n) rfl rfl ?_)
 by_cases hn:isName n
 ·rw[if_pos hn]
  conv=>whnf
  refine brF rfl ?_
  conv=>whnf
  refine⟨fun h1=>?_,fun h1=>?_⟩
  ·have h1:n=[0]:=by simpa using h1
   rw[show parentR n=([],3) by unfold parentR;rw[if_pos hn,if_pos h1]]
   conv=>whnf
   repeat'(first|exact ⟨⟩|exact rfl|exact⟨rfl,rfl,.inr rfl,fun _ _=>rfl⟩|exact⟨rfl,rfl,.inl rfl,fun i hi=>absurd hi (Nat.not_lt_zero _)⟩|apply And.intro)
  ·have h1:n≠[0]:=by simpa using h1
   rw[show parentR n=(upN n,0) by unfold parentR;rw[if_pos hn,if_neg h1]]
   obtain⟨k1,k2⟩:=name_bt hn h1
   have hpos:=hn.1
   have e1:IntKind.i64.wrap (1+IntKind.i64.wrap (byteAt n 0))=((1+bt n 0:Nat):Int):=by
    have:=bt_eq n 0
    rw [show ((0:Nat):Int)=0 from rfl] at this
    rw[this,w64_in (bt n 0:Int) (by omega),w64_in _ (by omega)];omega
   conv=>whnf
   refine⟨by omega,?_⟩
   conv=>whnf
   rw[e1]
   refine⟨by omega,?_⟩
   conv=>whnf
   rw[sub_drop]
   repeat'(first|exact ⟨⟩|exact rfl|exact⟨rfl,rfl,.inr rfl,fun _ _=>rfl⟩|exact⟨rfl,rfl,.inl rfl,fun i hi=>absurd hi (Nat.not_lt_zero _)⟩|apply And.intro)
 ·rw[if_neg hn]
  rw[show parentR n=([],2) by unfold parentR;rw[if_neg hn]]
  conv=>whnf
  refine brT rfl ?_
  conv=>whnf
  repeat'(first|exact ⟨⟩|exact rfl|exact⟨rfl,rfl,.inr rfl,fun _ _=>rfl⟩|exact⟨rfl,rfl,.inl rfl,fun i hi=>absurd hi (Nat.not_lt_zero _)⟩|apply And.intro)
end Go.Proofs.Ytnfoihdifohkeaa
namespace Go.Proofs.Ytnfoihdifohkeaa
open Go Go.Eng
set_option maxRecDepth 100000
theorem aenc_map{K V:Type}{ek:K→List DV}{ev:V→List SV}{σ:Nat→Nat}(hv:∀ v,mapL σ (ev v)=ev v):∀ l:List (K × V),mapM σ (aenc ek ev l)=aenc ek ev l
 |[]=>rfl
 |e :: l=>by
  show(ek e.1,mapL σ (ev e.2)) :: mapM σ (aenc ek ev l)=(ek e.1,ev e.2) :: aenc ek ev l
  rw[hv,aenc_map hv l]
theorem aenc_ren{K V:Type}{ek:K→List DV}{ev:V→List SV}{ρ:List Nat}(hv:∀ v,renL ρ (ev v)=ev v):∀ l:List (K × V),renM ρ (aenc ek ev l)=aenc ek ev l
 |[]=>rfl
 |e :: l=>by
  show(ek e.1,renL ρ (ev e.2)) :: renM ρ (aenc ek ev l)=(ek e.1,ev e.2) :: aenc ek ev l
  rw[hv,aenc_ren hv l]
def intV(n:Nat):List SV:=[.d (.int .i64 (n:Nat))]
def lookB(z:Zo)(i:Nat):KB:=.cells 76 [.d (.str z.apex),.d (rrsD z.z z.rrs),.map i,.map (i+1)]
def saidB(S:List ((List UInt8 × Int × Int × List UInt8) × Nat)):KB:=.map [.str,.int .u16,.int .u16,.str] true false (aenc saidK intV S)
def nameB(N:List (List UInt8 × Hd))(st:MS):KB:=.mapx [.str] false true (aenc strK Hd.enc N) st
def lookK(z:Zo)(S:List ((List UInt8 × Int × Int × List UInt8) × Nat))(N:List (List UInt8 × Hd))(st:MS):List KB:=[lookB z 1,saidB S,nameB N st]
theorem said_ren{ρ:List Nat}(S:List ((List UInt8 × Int × Int × List UInt8) × Nat)):renM ρ (aenc saidK intV S)=aenc saidK intV S:=aenc_ren (fun _=>rfl) S
theorem name_ren{ρ:List Nat}(N:List (List UInt8 × Hd)):renM ρ (aenc strK Hd.enc N)=aenc strK Hd.enc N:=aenc_ren (fun _=>rfl) N
theorem said_map{σ:Nat→Nat}(S:List ((List UInt8 × Int × Int × List UInt8) × Nat)):mapM σ (aenc saidK intV S)=aenc saidK intV S:=aenc_map (fun _=>rfl) S
theorem name_map{σ:Nat→Nat}(N:List (List UInt8 × Hd)):mapM σ (aenc strK Hd.enc N)=aenc strK Hd.enc N:=aenc_map (fun _=>rfl) N
theorem up_name{n:List UInt8}(h:isName n)(hn:n≠[0]):isName (upN n):=by
 obtain⟨h1,h2,h3⟩:=labN_of h
 cases hl:labN n with
 |nil=>rw [hl] at h3;exact absurd h3 hn
 |cons l ls =>
  rw [hl] at h2 h3
  have hok:=h2 l (by simp)
  have hb:bt n 0=l.length:=by rw[h3];exact bt_lab l (mk ls) hok
  have hu:upN n=mk ls:=by
   unfold upN
   rw[hb,h3]
   show(UInt8.ofNat l.length :: (l++mk ls)).drop (1+l.length)=_
   rw[Nat.add_comm,List.drop_succ_cons,List.drop_left]
  rw[hu]
  refine(isName_iff _).2 ⟨?_,ls,fun x hx=>h2 x (by simp[hx]),rfl⟩
  rw [h3] at h1
  have:(mk (l :: ls)).length=(lab l).length+(mk ls).length:=by
   show(lab l++mk ls).length=_
   rw[List.length_append]
  omega
theorem nameB_sub(N:List (List UInt8 × Hd))(st:MS)(ρ:List Nat):SubK (renK ρ (nameB N st)) (nameB N st):=by
 cases st
 ·exact⟨⟨rfl,rfl,rfl⟩,name_ren N⟩
 ·exact⟨⟨⟨rfl,rfl,rfl⟩,name_ren N⟩,rfl⟩
 ·exact⟨⟨⟨rfl,rfl,rfl⟩,name_ren N⟩,rfl⟩
theorem cnt_le(p:RR→Bool)(l:List RR)(n:List UInt8):cntZ p l n≤l.length:=List.length_filter_le _ _
set_option maxHeartbeats 8000000 in
theorem fits_ok(z:Zo)(S:List ((List UInt8 × Int × Int × List UInt8) × Nat))(l:List RR)(hl:l.length≤300)(st:MS)(name top:List UInt8)(hn:isName name) :
 COk Try.prog 62 [.ptr 0 0,.d (.str name),.d (.str top),.agg (holdsOf l name).enc] (lookK z S (namesL l) st) (fun s k=>s = .d (.bool (fitsZ l top name))∧k=lookK z S (namesL l) st):=by
 refine cOk_of_run (TT:=TT) (IN:=lookI [(80,Try.f80,1),(89,Try.f89,2)]) TT_ok (INok_cons (INok_cons INok_nil Try.func89 (by kernel_rfl) (by kernel_rfl)) Try.func80 (by kernel_rfl) (by kernel_rfl)) mixed 1000 Try.func62 rfl (enters Try.func62 (by kernel_rfl) rfl) 59 (by kernel_rfl) ?_
 have b1:=cnt_le anyR l name
 have b2:=cnt_le isSoa l name
 have b3:=cnt_le isNs l name
 have b4:=cnt_le isAlias l name
 have b5:=cnt_le isAddr l name
 conv=>whnf
 refine⟨fun h1=>?_,fun h1=>?_⟩
 ·have h1:0<cntZ isAlias l name:=by
   have h:((cntZ isAlias l name:Nat):Int) > 0:=of_decide_eq_true h1
   omega
  conv=>whnf
  refine⟨fun h2=>?_,fun h2=>?_⟩
  ·have h2:1<cntZ anyR l name:=by
    have h:((cntZ anyR l name:Nat):Int) > 1:=of_decide_eq_true h2
    omega
   have hf:fitsZ l top name=false:=by unfold fitsZ;rw[if_pos ⟨h1,h2⟩]
   conv=>whnf
   rw[hf]
   refine⟨[0,1,2],_,lookK z S (namesL l) st,rfl,rfl,?_,?_,rfl,rfl⟩
   ·exact rfl
   ·conv=>whnf
    repeat'(first|exact ⟨⟩|exact rfl|exact subZ_self _|exact Or.inr rfl|exact fun _ _=>rfl|exact fun _ h=>absurd h (Nat.not_lt_zero _)|apply And.intro)
    all_goals first
     |exact said_ren _
     |exact name_ren _
     |exact nameB_sub _ _ _
  ·have h2:¬ 1<cntZ anyR l name:=by
    have h:¬ ((cntZ anyR l name:Nat):Int) > 1:=of_decide_eq_false h2
    omega
   have hA:¬ (0<cntZ isAlias l name∧1<cntZ anyR l name):=fun h=>h2 h.2
   conv=>whnf
   refine⟨fun h3=>?_,fun h3=>?_⟩
   ·have h3:name=top:=by simpa using h3
    have hf:fitsZ l top name=true:=by unfold fitsZ;rw[if_neg hA,if_pos h3]
    conv=>whnf
    rw[hf]
    refine⟨[0,1,2],_,lookK z S (namesL l) st,rfl,rfl,?_,?_,rfl,rfl⟩
    ·exact rfl
    ·conv=>whnf
     repeat'(first|exact ⟨⟩|exact rfl|exact subZ_self _|exact Or.inr rfl|exact fun _ _=>rfl|exact fun _ h=>absurd h (Nat.not_lt_zero _)|apply And.intro)
     all_goals first
      |exact said_ren _
      |exact name_ren _
      |exact nameB_sub _ _ _
   ·have h3:name≠top:=by simpa using h3
    conv=>whnf
    refine⟨fun h4=>?_,fun h4=>?_⟩
    ·have h4:0<cntZ isSoa l name:=by
      have h:((cntZ isSoa l name:Nat):Int) > 0:=of_decide_eq_true h4
      omega
     have hf:fitsZ l top name=false:=by unfold fitsZ;rw[if_neg hA,if_neg h3,if_pos (.inl h4)]
     conv=>whnf
     rw[hf]
     refine⟨[0,1,2],_,lookK z S (namesL l) st,rfl,rfl,?_,?_,rfl,rfl⟩
     ·exact rfl
     ·conv=>whnf
      repeat'(first|exact ⟨⟩|exact rfl|exact subZ_self _|exact Or.inr rfl|exact fun _ _=>rfl|exact fun _ h=>absurd h (Nat.not_lt_zero _)|apply And.intro)
      all_goals first
       |exact said_ren _
       |exact name_ren _
       |exact nameB_sub _ _ _
    ·have h4:¬ 0<cntZ isSoa l name:=by
      have h:¬ ((cntZ isSoa l name:Nat):Int) > 0:=of_decide_eq_false h4
      omega
     conv=>whnf
     refine⟨fun h5=>?_,fun h5=>?_⟩
     ·have h5:0<cntZ isNs l name:=by
       have h:((cntZ isNs l name:Nat):Int) > 0:=of_decide_eq_true h5
       omega
      have hw:IntKind.i64.wrap (((holdsOf l name).ns:Nat)+((holdsOf l name).addr:Nat):Int)=((cntZ isNs l name+cntZ isAddr l name:Nat):Int):=by
       show IntKind.i64.wrap (((cntZ isNs l name:Nat):Int)+((cntZ isAddr l name:Nat):Int))=_
       rw[w64_in _ (by omega)];omega
      conv=>whnf
      rw[hw]
      refine⟨fun h6=>?_,fun h6=>?_⟩
      ·have h6:cntZ isNs l name+cntZ isAddr l name<cntZ anyR l name:=by
        have h:((cntZ anyR l name:Nat):Int) > ((cntZ isNs l name+cntZ isAddr l name:Nat):Int):=of_decide_eq_true h6
        omega
       have hf:fitsZ l top name=false:=by unfold fitsZ;rw[if_neg hA,if_neg h3,if_pos (.inr ⟨h5,h6⟩)]
       conv=>whnf
       rw[hf]
       refine⟨[0,1,2],_,lookK z S (namesL l) st,rfl,rfl,?_,?_,rfl,rfl⟩
       ·exact rfl
       ·conv=>whnf
        repeat'(first|exact ⟨⟩|exact rfl|exact subZ_self _|exact Or.inr rfl|exact fun _ _=>rfl|exact fun _ h=>absurd h (Nat.not_lt_zero _)|apply And.intro)
        all_goals first
         |exact said_ren _
         |exact name_ren _
         |exact nameB_sub _ _ _
      ·have h6:¬ cntZ isNs l name+cntZ isAddr l name<cntZ anyR l name:=by
        have h:¬ ((cntZ anyR l name:Nat):Int) > ((cntZ isNs l name+cntZ isAddr l name:Nat):Int):=of_decide_eq_false h6
        omega
       have hf:fitsZ l top name=climbZ l name top (upsN name):=by unfold fitsZ;rw[if_neg hA,if_neg h3,if_neg (fun h=>h.elim h4 (fun h=>h6 h.2))]
       conv=>whnf
       refine .one (.data _ (check_ok name) rfl rfl ?_)
       rw[if_pos hn]
       conv=>whnf
       refine brF rfl ?_
       conv=>whnf
       refine .inv (List UInt8 × Nat) (fun s=>isName s.1∧s.1.length≤s.2∧climbZ l name top (upsF s.2 s.1)=fitsZ l top name) (fun s=>[(3,.d (.str s.1))]) (fun s=>[]) (fun s=>s.2) ⟨(name,name.length),[0,1,2,3,4,5,6,7,8,9],⟨hn,Nat.le_refl _,by rw[hf];unfold upsN;rw[if_pos hn]⟩,?_⟩ ?_
       ·conv=>whnf
        repeat'(first|exact ⟨⟩|exact rfl|exact subZ_self _|exact Or.inr rfl|exact fun _ _=>rfl|exact fun _ h=>absurd h (Nat.not_lt_zero _)|apply And.intro)
        all_goals first
         |exact said_ren _
         |exact name_ren _
         |exact nameB_sub _ _ _
       clear hf
       intro s hs
       obtain⟨g1,g2,g3⟩:=hs
       conv=>whnf
       generalize s.1=n at g1 g2 g3 ⊢
       generalize s.2=k at g2 g3 ⊢
       obtain⟨k,rfl⟩:∃ k',k=k'+1:=⟨k - 1,by have:=g1.1;omega⟩
       have hc:climbZ l name top (upsF (k+1) n)=if n=top then true else if n≠name∧0<cntZ isNs l n then cntZ anyR l name == cntZ isAddr l name else climbZ l name top (if n=[0] then [] else upsF k (n.drop (1+bt n 0))):=rfl
       refine⟨fun g4=>?_,fun g4=>?_⟩
       ·have g4:n=top:=by simpa using g4
        have hf:fitsZ l top name=true:=by rw[←g3,hc,if_pos g4]
        conv=>whnf
        rw[hf]
        refine⟨[0,1,2],_,lookK z S (namesL l) st,rfl,rfl,?_,?_,rfl,rfl⟩
        ·exact rfl
        ·conv=>whnf
         repeat'(first|exact ⟨⟩|exact rfl|exact subZ_self _|exact Or.inr rfl|exact fun _ _=>rfl|exact fun _ h=>absurd h (Nat.not_lt_zero _)|apply And.intro)
         all_goals first
          |exact said_ren _
          |exact name_ren _
          |exact nameB_sub _ _ _
       ·have g4:n≠top:=by simpa using g4
        rw [if_neg g4] at hc
        conv=>whnf
        refine⟨fun g5=>?_,fun g5=>?_⟩
        ·have g5:n≠name:=by simpa using g5
         conv=>whnf
         have hg:=names_get l n
         cases ha:aget (namesL l) n with
         |none =>
          rw [ha] at hg
          have hns:cntZ isNs l n=0:=(congrArg Hd.ns hg).symm
          rw [if_neg (fun h=>by rw [hns] at h;exact absurd h.2 (Nat.lt_irrefl 0))] at hc
          refine ⟨none,by have:=find_enc (ev:=Hd.enc) strK_eq (namesL l) n;rw [ha] at this;exact this,?_⟩
          conv=>whnf
          refine brF rfl ?_
          conv=>whnf
          refine .one (.data _ (parent_ok n) rfl rfl ?_)
          by_cases hz:n=[0]
          ·have hp:parentR n=([],3):=by unfold parentR;rw[if_pos g1,if_pos hz]
           have hf:fitsZ l top name=true:=by rw[←g3,hc,if_pos hz];rfl
           rw[hp]
           conv=>whnf
           refine brT rfl ?_
           conv=>whnf
           rw[hf]
           refine⟨[0,1,2],_,lookK z S (namesL l) st,rfl,rfl,?_,?_,rfl,rfl⟩
           ·exact rfl
           ·conv=>whnf
            repeat'(first|exact ⟨⟩|exact rfl|exact subZ_self _|exact Or.inr rfl|exact fun _ _=>rfl|exact fun _ h=>absurd h (Nat.not_lt_zero _)|apply And.intro)
            all_goals first
             |exact said_ren _
             |exact name_ren _
             |exact nameB_sub _ _ _
          ·have hp:parentR n=(upN n,0):=by unfold parentR;rw[if_pos g1,if_neg hz]
           rw [if_neg hz] at hc
           rw[hp]
           conv=>whnf
           refine brF rfl ?_
           conv=>whnf
           refine⟨(upN n,k),[0,1,2,3,4,5,6,7,8,9],⟨up_name g1 hz,?_,?_⟩,Nat.lt_succ_self k,?_⟩
           ·have:=name_bt g1 hz
            show(upN n).length≤k
            unfold upN
            rw[List.length_drop]
            omega
           ·exact(by rw[←g3,hc];rfl)
           ·conv=>whnf
            repeat'(first|exact ⟨⟩|exact rfl|exact subZ_self _|exact Or.inr rfl|exact fun _ _=>rfl|exact fun _ h=>absurd h (Nat.not_lt_zero _)|apply And.intro)
            all_goals first
             |exact said_ren _
             |exact name_ren _
             |exact nameB_sub _ _ _
         |some h0 =>
          rw [ha] at hg
          have hns:h0.ns=cntZ isNs l n:=congrArg Hd.ns hg
          refine ⟨some h0.enc,by have:=find_enc (ev:=Hd.enc) strK_eq (namesL l) n;rw [ha] at this;exact this,?_⟩
          conv=>whnf
          refine⟨fun g6=>?_,fun g6=>?_⟩
          ·have g6:0<cntZ isNs l n:=by
            have h:((h0.ns:Nat):Int) > 0:=of_decide_eq_true g6
            omega
           have hf:fitsZ l top name=((((holdsOf l name).all:Nat):Int) == (((holdsOf l name).addr:Nat):Int)):=by
            rw[←g3,hc,if_pos ⟨g5,g6⟩,Bool.eq_iff_iff,beq_iff_eq,beq_iff_eq]
            show(cntZ anyR l name=cntZ isAddr l name)↔((cntZ anyR l name:Nat):Int)=((cntZ isAddr l name:Nat):Int)
            omega
           conv=>whnf
           rw[hf]
           refine⟨[0,1,2],_,lookK z S (namesL l) st,rfl,rfl,?_,?_,rfl,rfl⟩
           ·exact rfl
           ·conv=>whnf
            repeat'(first|exact ⟨⟩|exact rfl|exact subZ_self _|exact Or.inr rfl|exact fun _ _=>rfl|exact fun _ h=>absurd h (Nat.not_lt_zero _)|apply And.intro)
            all_goals first
             |exact said_ren _
             |exact name_ren _
             |exact nameB_sub _ _ _
          ·have g6:¬ 0<cntZ isNs l n:=by
            have h:¬ ((h0.ns:Nat):Int) > 0:=of_decide_eq_false g6
            omega
           rw [if_neg (fun h=>g6 h.2)] at hc
           conv=>whnf
           refine .one (.data _ (parent_ok n) rfl rfl ?_)
           by_cases hz:n=[0]
           ·have hp:parentR n=([],3):=by unfold parentR;rw[if_pos g1,if_pos hz]
            have hf:fitsZ l top name=true:=by rw[←g3,hc,if_pos hz];rfl
            rw[hp]
            conv=>whnf
            refine brT rfl ?_
            conv=>whnf
            rw[hf]
            refine⟨[0,1,2],_,lookK z S (namesL l) st,rfl,rfl,?_,?_,rfl,rfl⟩
            ·exact rfl
            ·conv=>whnf
             repeat'(first|exact ⟨⟩|exact rfl|exact subZ_self _|exact Or.inr rfl|exact fun _ _=>rfl|exact fun _ h=>absurd h (Nat.not_lt_zero _)|apply And.intro)
             all_goals first
              |exact said_ren _
              |exact name_ren _
              |exact nameB_sub _ _ _
           ·have hp:parentR n=(upN n,0):=by unfold parentR;rw[if_pos g1,if_neg hz]
            rw [if_neg hz] at hc
            rw[hp]
            conv=>whnf
            refine brF rfl ?_
            conv=>whnf
            refine⟨(upN n,k),[0,1,2,3,4,5,6,7,8,9],⟨up_name g1 hz,?_,?_⟩,Nat.lt_succ_self k,?_⟩
            ·have:=name_bt g1 hz
             show(upN n).length≤k
             unfold upN
             rw[List.length_drop]
             omega
            ·exact(by rw[←g3,hc];rfl)
            ·conv=>whnf
             repeat'(first|exact ⟨⟩|exact rfl|exact subZ_self _|exact Or.inr rfl|exact fun _ _=>rfl|exact fun _ h=>absurd h (Nat.not_lt_zero _)|apply And.intro)
             all_goals first
              |exact said_ren _
              |exact name_ren _
              |exact nameB_sub _ _ _
        ·have g5:n=name:=by simpa using g5
         rw [if_neg (fun h=>h.1 g5)] at hc
         conv=>whnf
         refine .one (.data _ (parent_ok n) rfl rfl ?_)
         by_cases hz:n=[0]
         ·have hp:parentR n=([],3):=by unfold parentR;rw[if_pos g1,if_pos hz]
          have hf:fitsZ l top name=true:=by rw[←g3,hc,if_pos hz];rfl
          rw[hp]
          conv=>whnf
          refine brT rfl ?_
          conv=>whnf
          rw[hf]
          refine⟨[0,1,2],_,lookK z S (namesL l) st,rfl,rfl,?_,?_,rfl,rfl⟩
          ·exact rfl
          ·conv=>whnf
           repeat'(first|exact ⟨⟩|exact rfl|exact subZ_self _|exact Or.inr rfl|exact fun _ _=>rfl|exact fun _ h=>absurd h (Nat.not_lt_zero _)|apply And.intro)
           all_goals first
            |exact said_ren _
            |exact name_ren _
            |exact nameB_sub _ _ _
         ·have hp:parentR n=(upN n,0):=by unfold parentR;rw[if_pos g1,if_neg hz]
          rw [if_neg hz] at hc
          rw[hp]
          conv=>whnf
          refine brF rfl ?_
          conv=>whnf
          refine⟨(upN n,k),[0,1,2,3,4,5,6,7,8,9],⟨up_name g1 hz,?_,?_⟩,Nat.lt_succ_self k,?_⟩
          ·have:=name_bt g1 hz
           show(upN n).length≤k
           unfold upN
           rw[List.length_drop]
           omega
          ·exact(by rw[←g3,hc];rfl)
          ·conv=>whnf
           repeat'(first|exact ⟨⟩|exact rfl|exact subZ_self _|exact Or.inr rfl|exact fun _ _=>rfl|exact fun _ h=>absurd h (Nat.not_lt_zero _)|apply And.intro)
           all_goals first
            |exact said_ren _
            |exact name_ren _
            |exact nameB_sub _ _ _
     ·have h5:¬ 0<cntZ isNs l name:=by
       have h:¬ ((cntZ isNs l name:Nat):Int) > 0:=of_decide_eq_false h5
       omega
      have hf:fitsZ l top name=climbZ l name top (upsN name):=by unfold fitsZ;rw[if_neg hA,if_neg h3,if_neg (fun h=>h.elim h4 (fun h=>h5 h.1))]
      conv=>whnf
      refine .one (.data _ (check_ok name) rfl rfl ?_)
      rw[if_pos hn]
      conv=>whnf
      refine brF rfl ?_
      conv=>whnf
      refine .inv (List UInt8 × Nat) (fun s=>isName s.1∧s.1.length≤s.2∧climbZ l name top (upsF s.2 s.1)=fitsZ l top name) (fun s=>[(3,.d (.str s.1))]) (fun s=>[]) (fun s=>s.2) ⟨(name,name.length),[0,1,2,3,4,5,6,7,8,9],⟨hn,Nat.le_refl _,by rw[hf];unfold upsN;rw[if_pos hn]⟩,?_⟩ ?_
      ·conv=>whnf
       repeat'(first|exact ⟨⟩|exact rfl|exact subZ_self _|exact Or.inr rfl|exact fun _ _=>rfl|exact fun _ h=>absurd h (Nat.not_lt_zero _)|apply And.intro)
       all_goals first
        |exact said_ren _
        |exact name_ren _
        |exact nameB_sub _ _ _
      clear hf
      intro s hs
      obtain⟨g1,g2,g3⟩:=hs
      conv=>whnf
      generalize s.1=n at g1 g2 g3 ⊢
      generalize s.2=k at g2 g3 ⊢
      obtain⟨k,rfl⟩:∃ k',k=k'+1:=⟨k - 1,by have:=g1.1;omega⟩
      have hc:climbZ l name top (upsF (k+1) n)=if n=top then true else if n≠name∧0<cntZ isNs l n then cntZ anyR l name == cntZ isAddr l name else climbZ l name top (if n=[0] then [] else upsF k (n.drop (1+bt n 0))):=rfl
      refine⟨fun g4=>?_,fun g4=>?_⟩
      ·have g4:n=top:=by simpa using g4
       have hf:fitsZ l top name=true:=by rw[←g3,hc,if_pos g4]
       conv=>whnf
       rw[hf]
       refine⟨[0,1,2],_,lookK z S (namesL l) st,rfl,rfl,?_,?_,rfl,rfl⟩
       ·exact rfl
       ·conv=>whnf
        repeat'(first|exact ⟨⟩|exact rfl|exact subZ_self _|exact Or.inr rfl|exact fun _ _=>rfl|exact fun _ h=>absurd h (Nat.not_lt_zero _)|apply And.intro)
        all_goals first
         |exact said_ren _
         |exact name_ren _
         |exact nameB_sub _ _ _
      ·have g4:n≠top:=by simpa using g4
       rw [if_neg g4] at hc
       conv=>whnf
       refine⟨fun g5=>?_,fun g5=>?_⟩
       ·have g5:n≠name:=by simpa using g5
        conv=>whnf
        have hg:=names_get l n
        cases ha:aget (namesL l) n with
        |none =>
         rw [ha] at hg
         have hns:cntZ isNs l n=0:=(congrArg Hd.ns hg).symm
         rw [if_neg (fun h=>by rw [hns] at h;exact absurd h.2 (Nat.lt_irrefl 0))] at hc
         refine ⟨none,by have:=find_enc (ev:=Hd.enc) strK_eq (namesL l) n;rw [ha] at this;exact this,?_⟩
         conv=>whnf
         refine brF rfl ?_
         conv=>whnf
         refine .one (.data _ (parent_ok n) rfl rfl ?_)
         by_cases hz:n=[0]
         ·have hp:parentR n=([],3):=by unfold parentR;rw[if_pos g1,if_pos hz]
          have hf:fitsZ l top name=true:=by rw[←g3,hc,if_pos hz];rfl
          rw[hp]
          conv=>whnf
          refine brT rfl ?_
          conv=>whnf
          rw[hf]
          refine⟨[0,1,2],_,lookK z S (namesL l) st,rfl,rfl,?_,?_,rfl,rfl⟩
          ·exact rfl
          ·conv=>whnf
           repeat'(first|exact ⟨⟩|exact rfl|exact subZ_self _|exact Or.inr rfl|exact fun _ _=>rfl|exact fun _ h=>absurd h (Nat.not_lt_zero _)|apply And.intro)
           all_goals first
            |exact said_ren _
            |exact name_ren _
            |exact nameB_sub _ _ _
         ·have hp:parentR n=(upN n,0):=by unfold parentR;rw[if_pos g1,if_neg hz]
          rw [if_neg hz] at hc
          rw[hp]
          conv=>whnf
          refine brF rfl ?_
          conv=>whnf
          refine⟨(upN n,k),[0,1,2,3,4,5,6,7,8,9],⟨up_name g1 hz,?_,?_⟩,Nat.lt_succ_self k,?_⟩
          ·have:=name_bt g1 hz
           show(upN n).length≤k
           unfold upN
           rw[List.length_drop]
           omega
          ·exact(by rw[←g3,hc];rfl)
          ·conv=>whnf
           repeat'(first|exact ⟨⟩|exact rfl|exact subZ_self _|exact Or.inr rfl|exact fun _ _=>rfl|exact fun _ h=>absurd h (Nat.not_lt_zero _)|apply And.intro)
           all_goals first
            |exact said_ren _
            |exact name_ren _
            |exact nameB_sub _ _ _
        |some h0 =>
         rw [ha] at hg
         have hns:h0.ns=cntZ isNs l n:=congrArg Hd.ns hg
         refine ⟨some h0.enc,by have:=find_enc (ev:=Hd.enc) strK_eq (namesL l) n;rw [ha] at this;exact this,?_⟩
         conv=>whnf
         refine⟨fun g6=>?_,fun g6=>?_⟩
         ·have g6:0<cntZ isNs l n:=by
           have h:((h0.ns:Nat):Int) > 0:=of_decide_eq_true g6
           omega
          have hf:fitsZ l top name=((((holdsOf l name).all:Nat):Int) == (((holdsOf l name).addr:Nat):Int)):=by
           rw[←g3,hc,if_pos ⟨g5,g6⟩,Bool.eq_iff_iff,beq_iff_eq,beq_iff_eq]
           show(cntZ anyR l name=cntZ isAddr l name)↔((cntZ anyR l name:Nat):Int)=((cntZ isAddr l name:Nat):Int)
           omega
          conv=>whnf
          rw[hf]
          refine⟨[0,1,2],_,lookK z S (namesL l) st,rfl,rfl,?_,?_,rfl,rfl⟩
          ·exact rfl
          ·conv=>whnf
           repeat'(first|exact ⟨⟩|exact rfl|exact subZ_self _|exact Or.inr rfl|exact fun _ _=>rfl|exact fun _ h=>absurd h (Nat.not_lt_zero _)|apply And.intro)
           all_goals first
            |exact said_ren _
            |exact name_ren _
            |exact nameB_sub _ _ _
         ·have g6:¬ 0<cntZ isNs l n:=by
           have h:¬ ((h0.ns:Nat):Int) > 0:=of_decide_eq_false g6
           omega
          rw [if_neg (fun h=>g6 h.2)] at hc
          conv=>whnf
          refine .one (.data _ (parent_ok n) rfl rfl ?_)
          by_cases hz:n=[0]
          ·have hp:parentR n=([],3):=by unfold parentR;rw[if_pos g1,if_pos hz]
           have hf:fitsZ l top name=true:=by rw[←g3,hc,if_pos hz];rfl
           rw[hp]
           conv=>whnf
           refine brT rfl ?_
           conv=>whnf
           rw[hf]
           refine⟨[0,1,2],_,lookK z S (namesL l) st,rfl,rfl,?_,?_,rfl,rfl⟩
           ·exact rfl
           ·conv=>whnf
            repeat'(first|exact ⟨⟩|exact rfl|exact subZ_self _|exact Or.inr rfl|exact fun _ _=>rfl|exact fun _ h=>absurd h (Nat.not_lt_zero _)|apply And.intro)
            all_goals first
             |exact said_ren _
             |exact name_ren _
             |exact nameB_sub _ _ _
          ·have hp:parentR n=(upN n,0):=by unfold parentR;rw[if_pos g1,if_neg hz]
           rw [if_neg hz] at hc
           rw[hp]
           conv=>whnf
           refine brF rfl ?_
           conv=>whnf
           refine⟨(upN n,k),[0,1,2,3,4,5,6,7,8,9],⟨up_name g1 hz,?_,?_⟩,Nat.lt_succ_self k,?_⟩
           ·have:=name_bt g1 hz
            show(upN n).length≤k
            unfold upN
            rw[List.length_drop]
            omega
           ·exact(by rw[←g3,hc];rfl)
           ·conv=>whnf
            repeat'(first|exact ⟨⟩|exact rfl|exact subZ_self _|exact Or.inr rfl|exact fun _ _=>rfl|exact fun _ h=>absurd h (Nat.not_lt_zero _)|apply And.intro)
            all_goals first
             |exact said_ren _
             |exact name_ren _
             |exact nameB_sub _ _ _
       ·have g5:n=name:=by simpa using g5
        rw [if_neg (fun h=>h.1 g5)] at hc
        conv=>whnf
        refine .one (.data _ (parent_ok n) rfl rfl ?_)
        by_cases hz:n=[0]
        ·have hp:parentR n=([],3):=by unfold parentR;rw[if_pos g1,if_pos hz]
         have hf:fitsZ l top name=true:=by rw[←g3,hc,if_pos hz];rfl
         rw[hp]
         conv=>whnf
         refine brT rfl ?_
         conv=>whnf
         rw[hf]
         refine⟨[0,1,2],_,lookK z S (namesL l) st,rfl,rfl,?_,?_,rfl,rfl⟩
         ·exact rfl
         ·conv=>whnf
          repeat'(first|exact ⟨⟩|exact rfl|exact subZ_self _|exact Or.inr rfl|exact fun _ _=>rfl|exact fun _ h=>absurd h (Nat.not_lt_zero _)|apply And.intro)
          all_goals first
           |exact said_ren _
           |exact name_ren _
           |exact nameB_sub _ _ _
        ·have hp:parentR n=(upN n,0):=by unfold parentR;rw[if_pos g1,if_neg hz]
         rw [if_neg hz] at hc
         rw[hp]
         conv=>whnf
         refine brF rfl ?_
         conv=>whnf
         refine⟨(upN n,k),[0,1,2,3,4,5,6,7,8,9],⟨up_name g1 hz,?_,?_⟩,Nat.lt_succ_self k,?_⟩
         ·have:=name_bt g1 hz
          show(upN n).length≤k
          unfold upN
          rw[List.length_drop]
          omega
         ·exact(by rw[←g3,hc];rfl)
         ·conv=>whnf
          repeat'(first|exact ⟨⟩|exact rfl|exact subZ_self _|exact Or.inr rfl|exact fun _ _=>rfl|exact fun _ h=>absurd h (Nat.not_lt_zero _)|apply And.intro)
          all_goals first
           |exact said_ren _
           |exact name_ren _
           |exact nameB_sub _ _ _
 ·have h1:¬ 0<cntZ isAlias l name:=by
   have h:¬ ((cntZ isAlias l name:Nat):Int) > 0:=of_decide_eq_false h1
   omega
  have hA:¬ (0<cntZ isAlias l name∧1<cntZ anyR l name):=fun h=>h1 h.1
  conv=>whnf
  refine⟨fun h3=>?_,fun h3=>?_⟩
  ·have h3:name=top:=by simpa using h3
   have hf:fitsZ l top name=true:=by unfold fitsZ;rw[if_neg hA,if_pos h3]
   conv=>whnf
   rw[hf]
   refine⟨[0,1,2],_,lookK z S (namesL l) st,rfl,rfl,?_,?_,rfl,rfl⟩
   ·exact rfl
   ·conv=>whnf
    repeat'(first|exact ⟨⟩|exact rfl|exact subZ_self _|exact Or.inr rfl|exact fun _ _=>rfl|exact fun _ h=>absurd h (Nat.not_lt_zero _)|apply And.intro)
    all_goals first
     |exact said_ren _
     |exact name_ren _
     |exact nameB_sub _ _ _
  ·have h3:name≠top:=by simpa using h3
   conv=>whnf
   refine⟨fun h4=>?_,fun h4=>?_⟩
   ·have h4:0<cntZ isSoa l name:=by
     have h:((cntZ isSoa l name:Nat):Int) > 0:=of_decide_eq_true h4
     omega
    have hf:fitsZ l top name=false:=by unfold fitsZ;rw[if_neg hA,if_neg h3,if_pos (.inl h4)]
    conv=>whnf
    rw[hf]
    refine⟨[0,1,2],_,lookK z S (namesL l) st,rfl,rfl,?_,?_,rfl,rfl⟩
    ·exact rfl
    ·conv=>whnf
     repeat'(first|exact ⟨⟩|exact rfl|exact subZ_self _|exact Or.inr rfl|exact fun _ _=>rfl|exact fun _ h=>absurd h (Nat.not_lt_zero _)|apply And.intro)
     all_goals first
      |exact said_ren _
      |exact name_ren _
      |exact nameB_sub _ _ _
   ·have h4:¬ 0<cntZ isSoa l name:=by
     have h:¬ ((cntZ isSoa l name:Nat):Int) > 0:=of_decide_eq_false h4
     omega
    conv=>whnf
    refine⟨fun h5=>?_,fun h5=>?_⟩
    ·have h5:0<cntZ isNs l name:=by
      have h:((cntZ isNs l name:Nat):Int) > 0:=of_decide_eq_true h5
      omega
     have hw:IntKind.i64.wrap (((holdsOf l name).ns:Nat)+((holdsOf l name).addr:Nat):Int)=((cntZ isNs l name+cntZ isAddr l name:Nat):Int):=by
      show IntKind.i64.wrap (((cntZ isNs l name:Nat):Int)+((cntZ isAddr l name:Nat):Int))=_
      rw[w64_in _ (by omega)];omega
     conv=>whnf
     rw[hw]
     refine⟨fun h6=>?_,fun h6=>?_⟩
     ·have h6:cntZ isNs l name+cntZ isAddr l name<cntZ anyR l name:=by
       have h:((cntZ anyR l name:Nat):Int) > ((cntZ isNs l name+cntZ isAddr l name:Nat):Int):=of_decide_eq_true h6
       omega
      have hf:fitsZ l top name=false:=by unfold fitsZ;rw[if_neg hA,if_neg h3,if_pos (.inr ⟨h5,h6⟩)]
      conv=>whnf
      rw[hf]
      refine⟨[0,1,2],_,lookK z S (namesL l) st,rfl,rfl,?_,?_,rfl,rfl⟩
      ·exact rfl
      ·conv=>whnf
       repeat'(first|exact ⟨⟩|exact rfl|exact subZ_self _|exact Or.inr rfl|exact fun _ _=>rfl|exact fun _ h=>absurd h (Nat.not_lt_zero _)|apply And.intro)
       all_goals first
        |exact said_ren _
        |exact name_ren _
        |exact nameB_sub _ _ _
     ·have h6:¬ cntZ isNs l name+cntZ isAddr l name<cntZ anyR l name:=by
       have h:¬ ((cntZ anyR l name:Nat):Int) > ((cntZ isNs l name+cntZ isAddr l name:Nat):Int):=of_decide_eq_false h6
       omega
      have hf:fitsZ l top name=climbZ l name top (upsN name):=by unfold fitsZ;rw[if_neg hA,if_neg h3,if_neg (fun h=>h.elim h4 (fun h=>h6 h.2))]
      conv=>whnf
      refine .one (.data _ (check_ok name) rfl rfl ?_)
      rw[if_pos hn]
      conv=>whnf
      refine brF rfl ?_
      conv=>whnf
      refine .inv (List UInt8 × Nat) (fun s=>isName s.1∧s.1.length≤s.2∧climbZ l name top (upsF s.2 s.1)=fitsZ l top name) (fun s=>[(3,.d (.str s.1))]) (fun s=>[]) (fun s=>s.2) ⟨(name,name.length),[0,1,2,3,4,5,6,7,8,9],⟨hn,Nat.le_refl _,by rw[hf];unfold upsN;rw[if_pos hn]⟩,?_⟩ ?_
      ·conv=>whnf
       repeat'(first|exact ⟨⟩|exact rfl|exact subZ_self _|exact Or.inr rfl|exact fun _ _=>rfl|exact fun _ h=>absurd h (Nat.not_lt_zero _)|apply And.intro)
       all_goals first
        |exact said_ren _
        |exact name_ren _
        |exact nameB_sub _ _ _
      clear hf
      intro s hs
      obtain⟨g1,g2,g3⟩:=hs
      conv=>whnf
      generalize s.1=n at g1 g2 g3 ⊢
      generalize s.2=k at g2 g3 ⊢
      obtain⟨k,rfl⟩:∃ k',k=k'+1:=⟨k - 1,by have:=g1.1;omega⟩
      have hc:climbZ l name top (upsF (k+1) n)=if n=top then true else if n≠name∧0<cntZ isNs l n then cntZ anyR l name == cntZ isAddr l name else climbZ l name top (if n=[0] then [] else upsF k (n.drop (1+bt n 0))):=rfl
      refine⟨fun g4=>?_,fun g4=>?_⟩
      ·have g4:n=top:=by simpa using g4
       have hf:fitsZ l top name=true:=by rw[←g3,hc,if_pos g4]
       conv=>whnf
       rw[hf]
       refine⟨[0,1,2],_,lookK z S (namesL l) st,rfl,rfl,?_,?_,rfl,rfl⟩
       ·exact rfl
       ·conv=>whnf
        repeat'(first|exact ⟨⟩|exact rfl|exact subZ_self _|exact Or.inr rfl|exact fun _ _=>rfl|exact fun _ h=>absurd h (Nat.not_lt_zero _)|apply And.intro)
        all_goals first
         |exact said_ren _
         |exact name_ren _
         |exact nameB_sub _ _ _
      ·have g4:n≠top:=by simpa using g4
       rw [if_neg g4] at hc
       conv=>whnf
       refine⟨fun g5=>?_,fun g5=>?_⟩
       ·have g5:n≠name:=by simpa using g5
        conv=>whnf
        have hg:=names_get l n
        cases ha:aget (namesL l) n with
        |none =>
         rw [ha] at hg
         have hns:cntZ isNs l n=0:=(congrArg Hd.ns hg).symm
         rw [if_neg (fun h=>by rw [hns] at h;exact absurd h.2 (Nat.lt_irrefl 0))] at hc
         refine ⟨none,by have:=find_enc (ev:=Hd.enc) strK_eq (namesL l) n;rw [ha] at this;exact this,?_⟩
         conv=>whnf
         refine brF rfl ?_
         conv=>whnf
         refine .one (.data _ (parent_ok n) rfl rfl ?_)
         by_cases hz:n=[0]
         ·have hp:parentR n=([],3):=by unfold parentR;rw[if_pos g1,if_pos hz]
          have hf:fitsZ l top name=true:=by rw[←g3,hc,if_pos hz];rfl
          rw[hp]
          conv=>whnf
          refine brT rfl ?_
          conv=>whnf
          rw[hf]
          refine⟨[0,1,2],_,lookK z S (namesL l) st,rfl,rfl,?_,?_,rfl,rfl⟩
          ·exact rfl
          ·conv=>whnf
           repeat'(first|exact ⟨⟩|exact rfl|exact subZ_self _|exact Or.inr rfl|exact fun _ _=>rfl|exact fun _ h=>absurd h (Nat.not_lt_zero _)|apply And.intro)
           all_goals first
            |exact said_ren _
            |exact name_ren _
            |exact nameB_sub _ _ _
         ·have hp:parentR n=(upN n,0):=by unfold parentR;rw[if_pos g1,if_neg hz]
          rw [if_neg hz] at hc
          rw[hp]
          conv=>whnf
          refine brF rfl ?_
          conv=>whnf
          refine⟨(upN n,k),[0,1,2,3,4,5,6,7,8,9],⟨up_name g1 hz,?_,?_⟩,Nat.lt_succ_self k,?_⟩
          ·have:=name_bt g1 hz
           show(upN n).length≤k
           unfold upN
           rw[List.length_drop]
           omega
          ·exact(by rw[←g3,hc];rfl)
          ·conv=>whnf
           repeat'(first|exact ⟨⟩|exact rfl|exact subZ_self _|exact Or.inr rfl|exact fun _ _=>rfl|exact fun _ h=>absurd h (Nat.not_lt_zero _)|apply And.intro)
           all_goals first
            |exact said_ren _
            |exact name_ren _
            |exact nameB_sub _ _ _
        |some h0 =>
         rw [ha] at hg
         have hns:h0.ns=cntZ isNs l n:=congrArg Hd.ns hg
         refine ⟨some h0.enc,by have:=find_enc (ev:=Hd.enc) strK_eq (namesL l) n;rw [ha] at this;exact this,?_⟩
         conv=>whnf
         refine⟨fun g6=>?_,fun g6=>?_⟩
         ·have g6:0<cntZ isNs l n:=by
           have h:((h0.ns:Nat):Int) > 0:=of_decide_eq_true g6
           omega
          have hf:fitsZ l top name=((((holdsOf l name).all:Nat):Int) == (((holdsOf l name).addr:Nat):Int)):=by
           rw[←g3,hc,if_pos ⟨g5,g6⟩,Bool.eq_iff_iff,beq_iff_eq,beq_iff_eq]
           show(cntZ anyR l name=cntZ isAddr l name)↔((cntZ anyR l name:Nat):Int)=((cntZ isAddr l name:Nat):Int)
           omega
          conv=>whnf
          rw[hf]
          refine⟨[0,1,2],_,lookK z S (namesL l) st,rfl,rfl,?_,?_,rfl,rfl⟩
          ·exact rfl
          ·conv=>whnf
           repeat'(first|exact ⟨⟩|exact rfl|exact subZ_self _|exact Or.inr rfl|exact fun _ _=>rfl|exact fun _ h=>absurd h (Nat.not_lt_zero _)|apply And.intro)
           all_goals first
            |exact said_ren _
            |exact name_ren _
            |exact nameB_sub _ _ _
         ·have g6:¬ 0<cntZ isNs l n:=by
           have h:¬ ((h0.ns:Nat):Int) > 0:=of_decide_eq_false g6
           omega
          rw [if_neg (fun h=>g6 h.2)] at hc
          conv=>whnf
          refine .one (.data _ (parent_ok n) rfl rfl ?_)
          by_cases hz:n=[0]
          ·have hp:parentR n=([],3):=by unfold parentR;rw[if_pos g1,if_pos hz]
           have hf:fitsZ l top name=true:=by rw[←g3,hc,if_pos hz];rfl
           rw[hp]
           conv=>whnf
           refine brT rfl ?_
           conv=>whnf
           rw[hf]
           refine⟨[0,1,2],_,lookK z S (namesL l) st,rfl,rfl,?_,?_,rfl,rfl⟩
           ·exact rfl
           ·conv=>whnf
            repeat'(first|exact ⟨⟩|exact rfl|exact subZ_self _|exact Or.inr rfl|exact fun _ _=>rfl|exact fun _ h=>absurd h (Nat.not_lt_zero _)|apply And.intro)
            all_goals first
             |exact said_ren _
             |exact name_ren _
             |exact nameB_sub _ _ _
          ·have hp:parentR n=(upN n,0):=by unfold parentR;rw[if_pos g1,if_neg hz]
           rw [if_neg hz] at hc
           rw[hp]
           conv=>whnf
           refine brF rfl ?_
           conv=>whnf
           refine⟨(upN n,k),[0,1,2,3,4,5,6,7,8,9],⟨up_name g1 hz,?_,?_⟩,Nat.lt_succ_self k,?_⟩
           ·have:=name_bt g1 hz
            show(upN n).length≤k
            unfold upN
            rw[List.length_drop]
            omega
           ·exact(by rw[←g3,hc];rfl)
           ·conv=>whnf
            repeat'(first|exact ⟨⟩|exact rfl|exact subZ_self _|exact Or.inr rfl|exact fun _ _=>rfl|exact fun _ h=>absurd h (Nat.not_lt_zero _)|apply And.intro)
            all_goals first
             |exact said_ren _
             |exact name_ren _
             |exact nameB_sub _ _ _
       ·have g5:n=name:=by simpa using g5
        rw [if_neg (fun h=>h.1 g5)] at hc
        conv=>whnf
        refine .one (.data _ (parent_ok n) rfl rfl ?_)
        by_cases hz:n=[0]
        ·have hp:parentR n=([],3):=by unfold parentR;rw[if_pos g1,if_pos hz]
         have hf:fitsZ l top name=true:=by rw[←g3,hc,if_pos hz];rfl
         rw[hp]
         conv=>whnf
         refine brT rfl ?_
         conv=>whnf
         rw[hf]
         refine⟨[0,1,2],_,lookK z S (namesL l) st,rfl,rfl,?_,?_,rfl,rfl⟩
         ·exact rfl
         ·conv=>whnf
          repeat'(first|exact ⟨⟩|exact rfl|exact subZ_self _|exact Or.inr rfl|exact fun _ _=>rfl|exact fun _ h=>absurd h (Nat.not_lt_zero _)|apply And.intro)
          all_goals first
           |exact said_ren _
           |exact name_ren _
           |exact nameB_sub _ _ _
        ·have hp:parentR n=(upN n,0):=by unfold parentR;rw[if_pos g1,if_neg hz]
         rw [if_neg hz] at hc
         rw[hp]
         conv=>whnf
         refine brF rfl ?_
         conv=>whnf
         refine⟨(upN n,k),[0,1,2,3,4,5,6,7,8,9],⟨up_name g1 hz,?_,?_⟩,Nat.lt_succ_self k,?_⟩
         ·have:=name_bt g1 hz
          show(upN n).length≤k
          unfold upN
          rw[List.length_drop]
          omega
         ·exact(by rw[←g3,hc];rfl)
         ·conv=>whnf
          repeat'(first|exact ⟨⟩|exact rfl|exact subZ_self _|exact Or.inr rfl|exact fun _ _=>rfl|exact fun _ h=>absurd h (Nat.not_lt_zero _)|apply And.intro)
          all_goals first
           |exact said_ren _
           |exact name_ren _
           |exact nameB_sub _ _ _
    ·have h5:¬ 0<cntZ isNs l name:=by
      have h:¬ ((cntZ isNs l name:Nat):Int) > 0:=of_decide_eq_false h5
      omega
     have hf:fitsZ l top name=climbZ l name top (upsN name):=by unfold fitsZ;rw[if_neg hA,if_neg h3,if_neg (fun h=>h.elim h4 (fun h=>h5 h.1))]
     conv=>whnf
     refine .one (.data _ (check_ok name) rfl rfl ?_)
     rw[if_pos hn]
     conv=>whnf
     refine brF rfl ?_
     conv=>whnf
     refine .inv (List UInt8 × Nat) (fun s=>isName s.1∧s.1.length≤s.2∧climbZ l name top (upsF s.2 s.1)=fitsZ l top name) (fun s=>[(3,.d (.str s.1))]) (fun s=>[]) (fun s=>s.2) ⟨(name,name.length),[0,1,2,3,4,5,6,7,8,9],⟨hn,Nat.le_refl _,by rw[hf];unfold upsN;rw[if_pos hn]⟩,?_⟩ ?_
     ·conv=>whnf
      repeat'(first|exact ⟨⟩|exact rfl|exact subZ_self _|exact Or.inr rfl|exact fun _ _=>rfl|exact fun _ h=>absurd h (Nat.not_lt_zero _)|apply And.intro)
      all_goals first
       |exact said_ren _
       |exact name_ren _
       |exact nameB_sub _ _ _
     clear hf
     intro s hs
     obtain⟨g1,g2,g3⟩:=hs
     conv=>whnf
     generalize s.1=n at g1 g2 g3 ⊢
     generalize s.2=k at g2 g3 ⊢
     obtain⟨k,rfl⟩:∃ k',k=k'+1:=⟨k - 1,by have:=g1.1;omega⟩
     have hc:climbZ l name top (upsF (k+1) n)=if n=top then true else if n≠name∧0<cntZ isNs l n then cntZ anyR l name == cntZ isAddr l name else climbZ l name top (if n=[0] then [] else upsF k (n.drop (1+bt n 0))):=rfl
     refine⟨fun g4=>?_,fun g4=>?_⟩
     ·have g4:n=top:=by simpa using g4
      have hf:fitsZ l top name=true:=by rw[←g3,hc,if_pos g4]
      conv=>whnf
      rw[hf]
      refine⟨[0,1,2],_,lookK z S (namesL l) st,rfl,rfl,?_,?_,rfl,rfl⟩
      ·exact rfl
      ·conv=>whnf
       repeat'(first|exact ⟨⟩|exact rfl|exact subZ_self _|exact Or.inr rfl|exact fun _ _=>rfl|exact fun _ h=>absurd h (Nat.not_lt_zero _)|apply And.intro)
       all_goals first
        |exact said_ren _
        |exact name_ren _
        |exact nameB_sub _ _ _
     ·have g4:n≠top:=by simpa using g4
      rw [if_neg g4] at hc
      conv=>whnf
      refine⟨fun g5=>?_,fun g5=>?_⟩
      ·have g5:n≠name:=by simpa using g5
       conv=>whnf
       have hg:=names_get l n
       cases ha:aget (namesL l) n with
       |none =>
        rw [ha] at hg
        have hns:cntZ isNs l n=0:=(congrArg Hd.ns hg).symm
        rw [if_neg (fun h=>by rw [hns] at h;exact absurd h.2 (Nat.lt_irrefl 0))] at hc
        refine ⟨none,by have:=find_enc (ev:=Hd.enc) strK_eq (namesL l) n;rw [ha] at this;exact this,?_⟩
        conv=>whnf
        refine brF rfl ?_
        conv=>whnf
        refine .one (.data _ (parent_ok n) rfl rfl ?_)
        by_cases hz:n=[0]
        ·have hp:parentR n=([],3):=by unfold parentR;rw[if_pos g1,if_pos hz]
         have hf:fitsZ l top name=true:=by rw[←g3,hc,if_pos hz];rfl
         rw[hp]
         conv=>whnf
         refine brT rfl ?_
         conv=>whnf
         rw[hf]
         refine⟨[0,1,2],_,lookK z S (namesL l) st,rfl,rfl,?_,?_,rfl,rfl⟩
         ·exact rfl
         ·conv=>whnf
          repeat'(first|exact ⟨⟩|exact rfl|exact subZ_self _|exact Or.inr rfl|exact fun _ _=>rfl|exact fun _ h=>absurd h (Nat.not_lt_zero _)|apply And.intro)
          all_goals first
           |exact said_ren _
           |exact name_ren _
           |exact nameB_sub _ _ _
        ·have hp:parentR n=(upN n,0):=by unfold parentR;rw[if_pos g1,if_neg hz]
         rw [if_neg hz] at hc
         rw[hp]
         conv=>whnf
         refine brF rfl ?_
         conv=>whnf
         refine⟨(upN n,k),[0,1,2,3,4,5,6,7,8,9],⟨up_name g1 hz,?_,?_⟩,Nat.lt_succ_self k,?_⟩
         ·have:=name_bt g1 hz
          show(upN n).length≤k
          unfold upN
          rw[List.length_drop]
          omega
         ·exact(by rw[←g3,hc];rfl)
         ·conv=>whnf
          repeat'(first|exact ⟨⟩|exact rfl|exact subZ_self _|exact Or.inr rfl|exact fun _ _=>rfl|exact fun _ h=>absurd h (Nat.not_lt_zero _)|apply And.intro)
          all_goals first
           |exact said_ren _
           |exact name_ren _
           |exact nameB_sub _ _ _
       |some h0 =>
        rw [ha] at hg
        have hns:h0.ns=cntZ isNs l n:=congrArg Hd.ns hg
        refine ⟨some h0.enc,by have:=find_enc (ev:=Hd.enc) strK_eq (namesL l) n;rw [ha] at this;exact this,?_⟩
        conv=>whnf
        refine⟨fun g6=>?_,fun g6=>?_⟩
        ·have g6:0<cntZ isNs l n:=by
          have h:((h0.ns:Nat):Int) > 0:=of_decide_eq_true g6
          omega
         have hf:fitsZ l top name=((((holdsOf l name).all:Nat):Int) == (((holdsOf l name).addr:Nat):Int)):=by
          rw[←g3,hc,if_pos ⟨g5,g6⟩,Bool.eq_iff_iff,beq_iff_eq,beq_iff_eq]
          show(cntZ anyR l name=cntZ isAddr l name)↔((cntZ anyR l name:Nat):Int)=((cntZ isAddr l name:Nat):Int)
          omega
         conv=>whnf
         rw[hf]
         refine⟨[0,1,2],_,lookK z S (namesL l) st,rfl,rfl,?_,?_,rfl,rfl⟩
         ·exact rfl
         ·conv=>whnf
          repeat'(first|exact ⟨⟩|exact rfl|exact subZ_self _|exact Or.inr rfl|exact fun _ _=>rfl|exact fun _ h=>absurd h (Nat.not_lt_zero _)|apply And.intro)
          all_goals first
           |exact said_ren _
           |exact name_ren _
           |exact nameB_sub _ _ _
        ·have g6:¬ 0<cntZ isNs l n:=by
          have h:¬ ((h0.ns:Nat):Int) > 0:=of_decide_eq_false g6
          omega
         rw [if_neg (fun h=>g6 h.2)] at hc
         conv=>whnf
         refine .one (.data _ (parent_ok n) rfl rfl ?_)
         by_cases hz:n=[0]
         ·have hp:parentR n=([],3):=by unfold parentR;rw[if_pos g1,if_pos hz]
          have hf:fitsZ l top name=true:=by rw[←g3,hc,if_pos hz];rfl
          rw[hp]
          conv=>whnf
          refine brT rfl ?_
          conv=>whnf
          rw[hf]
          refine⟨[0,1,2],_,lookK z S (namesL l) st,rfl,rfl,?_,?_,rfl,rfl⟩
          ·exact rfl
          ·conv=>whnf
           repeat'(first|exact ⟨⟩|exact rfl|exact subZ_self _|exact Or.inr rfl|exact fun _ _=>rfl|exact fun _ h=>absurd h (Nat.not_lt_zero _)|apply And.intro)
           all_goals first
            |exact said_ren _
            |exact name_ren _
            |exact nameB_sub _ _ _
         ·have hp:parentR n=(upN n,0):=by unfold parentR;rw[if_pos g1,if_neg hz]
          rw [if_neg hz] at hc
          rw[hp]
          conv=>whnf
          refine brF rfl ?_
          conv=>whnf
          refine⟨(upN n,k),[0,1,2,3,4,5,6,7,8,9],⟨up_name g1 hz,?_,?_⟩,Nat.lt_succ_self k,?_⟩
          ·have:=name_bt g1 hz
           show(upN n).length≤k
           unfold upN
           rw[List.length_drop]
           omega
          ·exact(by rw[←g3,hc];rfl)
          ·conv=>whnf
           repeat'(first|exact ⟨⟩|exact rfl|exact subZ_self _|exact Or.inr rfl|exact fun _ _=>rfl|exact fun _ h=>absurd h (Nat.not_lt_zero _)|apply And.intro)
           all_goals first
            |exact said_ren _
            |exact name_ren _
            |exact nameB_sub _ _ _
      ·have g5:n=name:=by simpa using g5
       rw [if_neg (fun h=>h.1 g5)] at hc
       conv=>whnf
       refine .one (.data _ (parent_ok n) rfl rfl ?_)
       by_cases hz:n=[0]
       ·have hp:parentR n=([],3):=by unfold parentR;rw[if_pos g1,if_pos hz]
        have hf:fitsZ l top name=true:=by rw[←g3,hc,if_pos hz];rfl
        rw[hp]
        conv=>whnf
        refine brT rfl ?_
        conv=>whnf
        rw[hf]
        refine⟨[0,1,2],_,lookK z S (namesL l) st,rfl,rfl,?_,?_,rfl,rfl⟩
        ·exact rfl
        ·conv=>whnf
         repeat'(first|exact ⟨⟩|exact rfl|exact subZ_self _|exact Or.inr rfl|exact fun _ _=>rfl|exact fun _ h=>absurd h (Nat.not_lt_zero _)|apply And.intro)
         all_goals first
          |exact said_ren _
          |exact name_ren _
          |exact nameB_sub _ _ _
       ·have hp:parentR n=(upN n,0):=by unfold parentR;rw[if_pos g1,if_neg hz]
        rw [if_neg hz] at hc
        rw[hp]
        conv=>whnf
        refine brF rfl ?_
        conv=>whnf
        refine⟨(upN n,k),[0,1,2,3,4,5,6,7,8,9],⟨up_name g1 hz,?_,?_⟩,Nat.lt_succ_self k,?_⟩
        ·have:=name_bt g1 hz
         show(upN n).length≤k
         unfold upN
         rw[List.length_drop]
         omega
        ·exact(by rw[←g3,hc];rfl)
        ·conv=>whnf
         repeat'(first|exact ⟨⟩|exact rfl|exact subZ_self _|exact Or.inr rfl|exact fun _ _=>rfl|exact fun _ h=>absurd h (Nat.not_lt_zero _)|apply And.intro)
         all_goals first
          |exact said_ren _
          |exact name_ren _
          |exact nameB_sub _ _ _
end Go.Proofs.Ytnfoihdifohkeaa
namespace Go.Proofs.Ytnfoihdifohkeaa
open Go Go.Eng
set_option maxRecDepth 100000
def tookZ(z:Zo)(l:List RR)(r:RR):Bool:=takeZ z.apex r && !l.any fun x=>keyZ x == keyZ r
theorem opnM_new:∀ {l:List (List DV × List SV)} {key:List DV} (z:List SV),findM l key=none→opnM l key z=(l++[(key,z)],z,l.length)
 |[],_,_,_=>rfl
 |(k,v) :: l,key,z,h=>by
  unfold findM at h
  split at h
  ·cases h
  ·rename_i hk
   unfold opnM
   rw[if_neg hk,opnM_new z h]
   rfl
theorem findM_end{key:List DV}{v:List SV}(hk:keyEq key key=true):∀ {l:List (List DV × List SV)},findM l key=none→findM (l++[(key,v)]) key=some v
 |[],_=>by
  show(if keyEq key key then some v else findM [] key)=some v
  rw[if_pos hk]
 |(k,u) :: l,h=>by
  unfold findM at h
  split at h
  ·cases h
  ·rename_i hn
   show(if keyEq key k then some u else findM (l++[(key,v)]) key)=some v
   rw[if_neg hn]
   exact findM_end hk h
theorem lookE{zero:List SV}{o:Option Hd}{F:SV→Prop}(hz:zero=Hd.no.enc)(hF:Eng.lookK false true zero (some (o.getD Hd.no).enc) F):Eng.lookK false true zero (o.map Hd.enc) F:=by
 cases o with
 |none=>subst hz;exact hF
 |some h=>exact hF
theorem putQ_end(k:List DV)(v v':List SV):∀ l:List (List DV × List SV),putQ (l++[(k,v)]) l.length v'=l++[(k,v')]
 |[]=>rfl
 |p :: l=>by
  show p :: putQ (l++[(k,v)]) l.length v'=_
  rw[putQ_end k v v' l]
  rfl
set_option maxHeartbeats 8000000 in
theorem take_ok(z:Zo)(l:List RR)(hl:l.length≤300)(r:RR)(hr:r.nm.length≤100000) :
 COk Try.prog 42 [.ptr 0 0,.agg (r.enc.map .d)] (lookK z (saidL l) (namesL l) .free) (fun s k=>s = .d (.bool (tookZ z l r))∧k=if tookZ z l r then lookK z (saidL (l++[r])) (namesL (l++[r])) .free else lookK z (saidL l) (namesL l) .free):=by
 refine cOk_of_run (TT:=TT) (IN:=lookI []) TT_ok INok_nil mixed 1000 Try.func42 rfl (enters Try.func42 (by kernel_rfl) rfl) 106 (by kernel_rfl) ?_
 conv=>whnf
 refine⟨fun h1=>?_,fun h1=>?_⟩
 ·have hb:tookZ z l r=false:=by unfold tookZ takeZ;rw[show(r.cl == 1)=false by simpa using h1];rfl
  conv=>whnf
  rw[hb]
  refine⟨[0,1,2],_,lookK z (saidL l) (namesL l) .free,rfl,rfl,?_,?_,rfl,rfl⟩
  ·exact rfl
  ·conv=>whnf
   repeat'(first|exact ⟨⟩|exact rfl|exact subZ_self _|exact Or.inr rfl|exact fun _ _=>rfl|exact fun _ h=>absurd h (Nat.not_lt_zero _)|apply And.intro)
   all_goals first
    |exact said_ren _
    |exact name_ren _
    |exact nameB_sub _ _ _
 have h1:(r.cl == 1)=true:=by simpa using h1
 conv=>whnf
 refine⟨fun h2=>?_,fun h2=>?_⟩
 ·have hb:tookZ z l r=false:=by unfold tookZ takeZ;rw[h1,show(r.ty != 41)=false by simpa using h2];rfl
  conv=>whnf
  rw[hb]
  refine⟨[0,1,2],_,lookK z (saidL l) (namesL l) .free,rfl,rfl,?_,?_,rfl,rfl⟩
  ·exact rfl
  ·conv=>whnf
   repeat'(first|exact ⟨⟩|exact rfl|exact subZ_self _|exact Or.inr rfl|exact fun _ _=>rfl|exact fun _ h=>absurd h (Nat.not_lt_zero _)|apply And.intro)
   all_goals first
    |exact said_ren _
    |exact name_ren _
    |exact nameB_sub _ _ _
 have h2:(r.ty != 41)=true:=by simpa using h2
 conv=>whnf
 refine⟨fun h3=>?_,fun h3=>?_⟩
 ·have hb:tookZ z l r=false:=by unfold tookZ takeZ;rw[h1,h2,show(r.ttl != 0)=false by simpa using h3];rfl
  conv=>whnf
  rw[hb]
  refine⟨[0,1,2],_,lookK z (saidL l) (namesL l) .free,rfl,rfl,?_,?_,rfl,rfl⟩
  ·exact rfl
  ·conv=>whnf
   repeat'(first|exact ⟨⟩|exact rfl|exact subZ_self _|exact Or.inr rfl|exact fun _ _=>rfl|exact fun _ h=>absurd h (Nat.not_lt_zero _)|apply And.intro)
   all_goals first
    |exact said_ren _
    |exact name_ren _
    |exact nameB_sub _ _ _
 have h3:(r.ttl != 0)=true:=by simpa using h3
 conv=>whnf
 refine .data _ (reccheck_ok r) rfl rfl ?_
 cases h4:r.check with
 |false =>
  have hb:tookZ z l r=false:=by unfold tookZ takeZ;rw[h1,h2,h3,h4];rfl
  conv=>whnf
  refine brT rfl ?_
  conv=>whnf
  rw[hb]
  refine⟨[0,1,2],_,lookK z (saidL l) (namesL l) .free,rfl,rfl,?_,?_,rfl,rfl⟩
  ·exact rfl
  ·conv=>whnf
   repeat'(first|exact ⟨⟩|exact rfl|exact subZ_self _|exact Or.inr rfl|exact fun _ _=>rfl|exact fun _ h=>absurd h (Nat.not_lt_zero _)|apply And.intro)
   all_goals first
    |exact said_ren _
    |exact name_ren _
    |exact nameB_sub _ _ _
 |true =>
  conv=>whnf
  refine brF rfl ?_
  conv=>whnf
  refine .data _ (within_ok _ _) rfl rfl ?_
  cases h5:withinN r.nm z.apex with
  |false =>
   have hb:tookZ z l r=false:=by unfold tookZ takeZ;rw[h1,h2,h3,h4,h5];rfl
   conv=>whnf
   refine brT rfl ?_
   conv=>whnf
   rw[hb]
   refine⟨[0,1,2],_,lookK z (saidL l) (namesL l) .free,rfl,rfl,?_,?_,rfl,rfl⟩
   ·exact rfl
   ·conv=>whnf
    repeat'(first|exact ⟨⟩|exact rfl|exact subZ_self _|exact Or.inr rfl|exact fun _ _=>rfl|exact fun _ h=>absurd h (Nat.not_lt_zero _)|apply And.intro)
    all_goals first
     |exact said_ren _
     |exact name_ren _
     |exact nameB_sub _ _ _
  |true =>
   have hb:tookZ z l r = !l.any fun x=>keyZ x == keyZ r:=by unfold tookZ takeZ;rw[h1,h2,h3,h4,h5];rfl
   conv=>whnf
   refine brF rfl ?_
   conv=>whnf
   refine .one (.data _ (fold_ok r.nm (by omega)) rfl rfl ?_)
   conv=>whnf
   refine .data _ (rfold_ok r.ty r.d) rfl rfl ?_
   conv=>whnf
   have hfs:findM (aenc saidK intV (saidL l)) [.str (fold r.nm),.int .u16 r.ty,.int .u16 r.cl,.str (rfold r.ty r.d)]=(aget (saidL l) (keyZ r)).map intV:=find_enc saidK_eq (saidL l) (keyZ r)
   rw [said_get] at hfs
   cases h6:l.any fun x=>keyZ x == keyZ r with
   |true =>
    rw [h6] at hfs hb
    refine⟨_,hfs,?_⟩
    conv=>whnf
    refine brT rfl ?_
    conv=>whnf
    rw[hb]
    refine⟨[0,1,2],_,lookK z (saidL l) (namesL l) .free,rfl,rfl,?_,?_,rfl,rfl⟩
    ·exact rfl
    ·conv=>whnf
     repeat'(first|exact ⟨⟩|exact rfl|exact subZ_self _|exact Or.inr rfl|exact fun _ _=>rfl|exact fun _ h=>absurd h (Nat.not_lt_zero _)|apply And.intro)
     all_goals first
      |exact said_ren _
      |exact name_ren _
      |exact nameB_sub _ _ _
   |false =>
    rw [h6] at hfs hb
    refine⟨_,hfs,?_⟩
    conv=>whnf
    refine brF rfl ?_
    conv=>whnf
    have hop:=opnM_new [SV.d (.int .i64 0)] hfs
    have hfs2:findM (aenc saidK intV (saidL l)++[(saidK (keyZ r),[SV.d (.int .i64 0)])]) [.str (fold r.nm),.int .u16 r.ty,.int .u16 r.cl,.str (rfold r.ty r.d)]=some [SV.d (.int .i64 0)]:=findM_end ((saidK_eq (keyZ r) (keyZ r)).trans (decide_eq_true rfl)) hfs
    have hss:putQ (aenc saidK intV (saidL l)++[(saidK (keyZ r),[SV.d (.int .i64 0)])]) (aenc saidK intV (saidL l)).length [SV.d (.int .i64 1)]=aenc saidK intV (saidL (l++[r])):=by
     rw[putQ_end,said_snoc]
     unfold aenc
     rw[List.map_append]
     rfl
    apply Exists.intro
    refine⟨?_,?_⟩
    ·conv=>whnf
     repeat'(first|exact ⟨⟩|exact⟨rfl,rfl⟩|refine⟨_,hfs,?_⟩|refine⟨_,hfs2,?_⟩|refine⟨_,_,_,hop,?_⟩|intro s|refine⟨rfl,_,hss,?_⟩|apply And.intro|(conv=>whnf))
    conv=>whnf
    rw[hb]
    have hfn:findM (aenc strK Hd.enc (namesL l)) [.str (fold r.nm)]=(aget (namesL l) (fold r.nm)).map Hd.enc:=find_enc strK_eq (namesL l) (fold r.nm)
    have hg:=names_get l (fold r.nm)
    have b1:=cnt_le anyR l (fold r.nm)
    have b2:=cnt_le isSoa l (fold r.nm)
    have b3:=cnt_le isNs l (fold r.nm)
    have b4:=cnt_le isAlias l (fold r.nm)
    have b5:=cnt_le isAddr l (fold r.nm)
    have hh:(aget (namesL l) (fold r.nm)).getD Hd.no=holdsOf l (fold r.nm):=hg
    refine⟨_,hfn,?_⟩
    refine lookE rfl ?_
    rw[hh]
    have hg:holdsOf l (fold r.nm)=holdsOf l (fold r.nm):=rfl
    generalize hgen:holdsOf l (fold r.nm)=h at hh ⊢
    clear hg
    have hg:h=holdsOf l (fold r.nm):=hgen.symm
    have c1:h.all≤300:=by rw[hg];exact Nat.le_trans b1 hl
    have c2:h.soa≤300:=by rw[hg];exact Nat.le_trans b2 hl
    have c3:h.ns≤300:=by rw[hg];exact Nat.le_trans b3 hl
    have c4:h.alias≤300:=by rw[hg];exact Nat.le_trans b4 hl
    have c5:h.addr≤300:=by rw[hg];exact Nat.le_trans b5 hl
    have e0:IntKind.i64.wrap ((h.all:Int)+1)=((h.all+1:Nat):Int):=by rw[w64_in _ (by omega)];omega
    have e1:IntKind.i64.wrap ((h.soa:Int)+1)=((h.soa+1:Nat):Int):=by rw[w64_in _ (by omega)];omega
    have e2:IntKind.i64.wrap ((h.ns:Int)+1)=((h.ns+1:Nat):Int):=by rw[w64_in _ (by omega)];omega
    have e3:IntKind.i64.wrap ((h.alias:Int)+1)=((h.alias+1:Nat):Int):=by rw[w64_in _ (by omega)];omega
    have e4:IntKind.i64.wrap ((h.addr:Int)+1)=((h.addr+1:Nat):Int):=by rw[w64_in _ (by omega)];omega
    conv=>whnf
    rw[e0]
    refine⟨fun k1=>?_,fun k1=>?_⟩
    ·have k1:r.ty=6:=by simpa using k1
     have hadd:h.add r=⟨h.all+1,h.soa+1,h.ns,h.alias,h.addr⟩:=by unfold Hd.add;rw[k1];rfl
     conv=>whnf
     rw[e1]
     have hput:putM (aenc strK Hd.enc (namesL l)) [.str (fold r.nm)] (h.add r).enc=aenc strK Hd.enc (namesL (l++[r])):=by
      have:=put_enc (ev:=Hd.enc) strK_eq (namesL l) (fold r.nm) (h.add r)
      rw[namesL_snoc,hh]
      exact this
     rw [hadd] at hput
     refine⟨_,hput,?_⟩
     conv=>whnf
     refine⟨[0,1,2],_,lookK z (saidL (l++[r])) (namesL (l++[r])) .free,rfl,rfl,?_,?_,rfl,rfl⟩
     ·exact rfl
     ·conv=>whnf
      repeat'(first|exact ⟨⟩|exact rfl|exact subZ_self _|exact Or.inr rfl|exact fun _ _=>rfl|exact fun _ h=>absurd h (Nat.not_lt_zero _)|apply And.intro)
      all_goals first
       |exact said_ren _
       |exact name_ren _
       |exact nameB_sub _ _ _
    have k1:r.ty≠6:=by simpa using k1
    conv=>whnf
    refine⟨fun k2=>?_,fun k2=>?_⟩
    ·have k2:r.ty=2:=by simpa using k2
     have hadd:h.add r=⟨h.all+1,h.soa,h.ns+1,h.alias,h.addr⟩:=by unfold Hd.add;rw[k2];rfl
     conv=>whnf
     rw[e2]
     have hput:putM (aenc strK Hd.enc (namesL l)) [.str (fold r.nm)] (h.add r).enc=aenc strK Hd.enc (namesL (l++[r])):=by
      have:=put_enc (ev:=Hd.enc) strK_eq (namesL l) (fold r.nm) (h.add r)
      rw[namesL_snoc,hh]
      exact this
     rw [hadd] at hput
     refine⟨_,hput,?_⟩
     conv=>whnf
     refine⟨[0,1,2],_,lookK z (saidL (l++[r])) (namesL (l++[r])) .free,rfl,rfl,?_,?_,rfl,rfl⟩
     ·exact rfl
     ·conv=>whnf
      repeat'(first|exact ⟨⟩|exact rfl|exact subZ_self _|exact Or.inr rfl|exact fun _ _=>rfl|exact fun _ h=>absurd h (Nat.not_lt_zero _)|apply And.intro)
      all_goals first
       |exact said_ren _
       |exact name_ren _
       |exact nameB_sub _ _ _
    have k2:r.ty≠2:=by simpa using k2
    conv=>whnf
    refine⟨fun k3=>?_,fun k3=>?_⟩
    ·have k3:r.ty=5:=by simpa using k3
     have hadd:h.add r=⟨h.all+1,h.soa,h.ns,h.alias+1,h.addr⟩:=by unfold Hd.add;rw[k3];rfl
     conv=>whnf
     rw[e3]
     have hput:putM (aenc strK Hd.enc (namesL l)) [.str (fold r.nm)] (h.add r).enc=aenc strK Hd.enc (namesL (l++[r])):=by
      have:=put_enc (ev:=Hd.enc) strK_eq (namesL l) (fold r.nm) (h.add r)
      rw[namesL_snoc,hh]
      exact this
     rw [hadd] at hput
     refine⟨_,hput,?_⟩
     conv=>whnf
     refine⟨[0,1,2],_,lookK z (saidL (l++[r])) (namesL (l++[r])) .free,rfl,rfl,?_,?_,rfl,rfl⟩
     ·exact rfl
     ·conv=>whnf
      repeat'(first|exact ⟨⟩|exact rfl|exact subZ_self _|exact Or.inr rfl|exact fun _ _=>rfl|exact fun _ h=>absurd h (Nat.not_lt_zero _)|apply And.intro)
      all_goals first
       |exact said_ren _
       |exact name_ren _
       |exact nameB_sub _ _ _
    have k3:r.ty≠5:=by simpa using k3
    conv=>whnf
    refine⟨fun k4=>?_,fun k4=>?_⟩
    ·have k4':=k4
     have k4:r.ty=1:=by simpa using k4
     have hadd:h.add r=⟨h.all+1,h.soa,h.ns,h.alias,h.addr+1⟩:=by unfold Hd.add;rw[k4];rfl
     conv=>whnf
     refine brT k4' ?_
     conv=>whnf
     rw[e4]
     have hput:putM (aenc strK Hd.enc (namesL l)) [.str (fold r.nm)] (h.add r).enc=aenc strK Hd.enc (namesL (l++[r])):=by
      have:=put_enc (ev:=Hd.enc) strK_eq (namesL l) (fold r.nm) (h.add r)
      rw[namesL_snoc,hh]
      exact this
     rw [hadd] at hput
     refine⟨_,hput,?_⟩
     conv=>whnf
     refine⟨[0,1,2],_,lookK z (saidL (l++[r])) (namesL (l++[r])) .free,rfl,rfl,?_,?_,rfl,rfl⟩
     ·exact rfl
     ·conv=>whnf
      repeat'(first|exact ⟨⟩|exact rfl|exact subZ_self _|exact Or.inr rfl|exact fun _ _=>rfl|exact fun _ h=>absurd h (Nat.not_lt_zero _)|apply And.intro)
      all_goals first
       |exact said_ren _
       |exact name_ren _
       |exact nameB_sub _ _ _
    have k4:r.ty≠1:=by simpa using k4
    conv=>whnf
    refine⟨fun k5=>?_,fun k5=>?_⟩
    ·have k5:r.ty=28:=by simpa using k5
     have hadd:h.add r=⟨h.all+1,h.soa,h.ns,h.alias,h.addr+1⟩:=by unfold Hd.add;rw[k5];rfl
     conv=>whnf
     rw[e4]
     have hput:putM (aenc strK Hd.enc (namesL l)) [.str (fold r.nm)] (h.add r).enc=aenc strK Hd.enc (namesL (l++[r])):=by
      have:=put_enc (ev:=Hd.enc) strK_eq (namesL l) (fold r.nm) (h.add r)
      rw[namesL_snoc,hh]
      exact this
     rw [hadd] at hput
     refine⟨_,hput,?_⟩
     conv=>whnf
     refine⟨[0,1,2],_,lookK z (saidL (l++[r])) (namesL (l++[r])) .free,rfl,rfl,?_,?_,rfl,rfl⟩
     ·exact rfl
     ·conv=>whnf
      repeat'(first|exact ⟨⟩|exact rfl|exact subZ_self _|exact Or.inr rfl|exact fun _ _=>rfl|exact fun _ h=>absurd h (Nat.not_lt_zero _)|apply And.intro)
      all_goals first
       |exact said_ren _
       |exact name_ren _
       |exact nameB_sub _ _ _
    have k5:r.ty≠28:=by simpa using k5
    have hadd:h.add r=⟨h.all+1,h.soa,h.ns,h.alias,h.addr⟩:=by unfold Hd.add;rw[if_neg k1,if_neg k2,if_neg k3,if_neg (fun h=>h.elim k4 k5)]
    conv=>whnf
    have hput:putM (aenc strK Hd.enc (namesL l)) [.str (fold r.nm)] (h.add r).enc=aenc strK Hd.enc (namesL (l++[r])):=by
     have:=put_enc (ev:=Hd.enc) strK_eq (namesL l) (fold r.nm) (h.add r)
     rw[namesL_snoc,hh]
     exact this
    rw [hadd] at hput
    refine⟨_,hput,?_⟩
    conv=>whnf
    refine⟨[0,1,2],_,lookK z (saidL (l++[r])) (namesL (l++[r])) .free,rfl,rfl,?_,?_,rfl,rfl⟩
    ·exact rfl
    ·conv=>whnf
     repeat'(first|exact ⟨⟩|exact rfl|exact subZ_self _|exact Or.inr rfl|exact fun _ _=>rfl|exact fun _ h=>absurd h (Nat.not_lt_zero _)|apply And.intro)
     all_goals first
      |exact said_ren _
      |exact name_ren _
      |exact nameB_sub _ _ _
end Go.Proofs.Ytnfoihdifohkeaa
namespace Go.Proofs.Ytnfoihdifohkeaa
open Go Go.Eng
set_option maxRecDepth 100000
theorem sound_law{z:Zo}(h1:cntZ isSoa z.rrs (fold z.apex)=1)(h2:cntZ isNs z.rrs (fold z.apex)≠0):soundZ z=(namesL z.rrs).all fun e=>fitsZ z.rrs (fold z.apex) e.1:=by
 unfold soundZ
 rw[h1,names_all z.rrs (fun n=>fitsZ z.rrs (fold z.apex) n)]
 have:(cntZ isNs z.rrs (fold z.apex) != 0)=true:=by simpa using h2
 rw[this]
 rfl
instance:Inhabited Hd:=⟨Hd.no⟩
theorem lookK_map(z:Zo)(S:List ((List UInt8 × Int × Int × List UInt8) × Nat))(N:List (List UInt8 × Hd))(st:MS){σ:Nat→Nat}(h1:σ 1=1)(h2:σ 2=2):mapB σ (lookK z S N st)=lookK z S N st:=by
 show[KB.cells _ [_,_,SV.map (σ 1),SV.map (σ 2)],KB.mapx _ _ _ (mapM _ (aenc saidK intV S)) _,KB.mapx _ _ _ (mapM _ (aenc strK Hd.enc N)) _]=_
 rw[h1,h2,said_map,name_map]
 rfl
set_option maxHeartbeats 8000000 in
theorem sound_ok(z:Zo)(S:List ((List UInt8 × Int × Int × List UInt8) × Nat))(hl:z.rrs.length≤300)(hn:∀ r ∈ z.rrs,isName r.nm)(ha:z.apex.length≤100000) :
 COk Try.prog 43 [.ptr 0 0] (lookK z S (namesL z.rrs) .free) (fun s k=>s = .d (.bool (soundZ z))∧k=lookK z S (namesL z.rrs) .free):=by
 refine cOk_of_run (TT:=TT) (IN:=lookI []) TT_ok INok_nil mixed 1000 Try.func43 rfl (enters Try.func43 (by kernel_rfl) rfl) 42 (by kernel_rfl) ?_
 conv=>whnf
 refine .one (.data _ (fold_ok z.apex (by omega)) rfl rfl ?_)
 conv=>whnf
 have hfn:findM (aenc strK Hd.enc (namesL z.rrs)) [.str (fold z.apex)]=(aget (namesL z.rrs) (fold z.apex)).map Hd.enc:=find_enc strK_eq (namesL z.rrs) (fold z.apex)
 have hg:=names_get z.rrs (fold z.apex)
 refine⟨_,hfn,?_⟩
 refine lookE rfl ?_
 rw[hg]
 conv=>whnf
 refine⟨fun h1=>?_,fun h1=>?_⟩
 ·have hb:soundZ z=false:=by
   have h1:((cntZ isSoa z.rrs (fold z.apex):Nat):Int)≠1:=(show(((holdsOf z.rrs (fold z.apex)).soa:Nat):Int)≠1 by simpa using h1)
   unfold soundZ
   rw[show(cntZ isSoa z.rrs (fold z.apex) == 1)=false by rw[beq_eq_false_iff_ne];omega]
   rfl
  conv=>whnf
  rw[hb]
  refine⟨[0,1,2],_,lookK z S (namesL z.rrs) .free,rfl,rfl,?_,?_,rfl,rfl⟩
  ·exact rfl
  ·conv=>whnf
   repeat'(first|exact ⟨⟩|exact rfl|exact subZ_self _|exact Or.inr rfl|exact fun _ _=>rfl|exact fun _ h=>absurd h (Nat.not_lt_zero _)|apply And.intro)
   all_goals first
    |exact said_ren _
    |exact name_ren _
    |exact nameB_sub _ _ _
 have h1:cntZ isSoa z.rrs (fold z.apex)=1:=by
  have h2:(((holdsOf z.rrs (fold z.apex)).soa:Nat):Int)=1:=by simpa using h1
  have h3:((cntZ isSoa z.rrs (fold z.apex):Nat):Int)=1:=h2
  omega
 conv=>whnf
 refine⟨fun h2=>?_,fun h2=>?_⟩
 ·have hb:soundZ z=false:=by
   have h2:(((holdsOf z.rrs (fold z.apex)).ns:Nat):Int)=0:=by simpa using h2
   have h3:((cntZ isNs z.rrs (fold z.apex):Nat):Int)=0:=h2
   unfold soundZ
   rw[show(cntZ isNs z.rrs (fold z.apex) != 0)=false by rw[bne_eq_false_iff_eq];omega]
   rw[Bool.false_and,Bool.and_false]
  conv=>whnf
  rw[hb]
  refine⟨[0,1,2],_,lookK z S (namesL z.rrs) .free,rfl,rfl,?_,?_,rfl,rfl⟩
  ·exact rfl
  ·conv=>whnf
   repeat'(first|exact ⟨⟩|exact rfl|exact subZ_self _|exact Or.inr rfl|exact fun _ _=>rfl|exact fun _ h=>absurd h (Nat.not_lt_zero _)|apply And.intro)
   all_goals first
    |exact said_ren _
    |exact name_ren _
    |exact nameB_sub _ _ _
 have h2:cntZ isNs z.rrs (fold z.apex)≠0:=by
  have h2:¬ (((holdsOf z.rrs (fold z.apex)).ns:Nat):Int)=0:=by simpa using h2
  have h3:¬ ((cntZ isNs z.rrs (fold z.apex):Nat):Int)=0:=h2
  omega
 have hlaw:=sound_law h1 h2
 conv=>whnf
 intro bs c rem hbl hrem
 conv=>whnf
 refine .inv (List Nat × Nat) (fun s=>s.1.Nodup∧(∀ q ∈ s.1,q<(namesL z.rrs).length)∧∀ q,q<(namesL z.rrs).length→q ∉ s.1→fitsZ z.rrs (fold z.apex) ((namesL z.rrs).getD q default).1=true) (fun s=>[]) (fun s=>[(4,.iter 2 bs c s.1 s.2)]) (fun s=>s.1.length) ⟨(rem,bs.length),[0,1,2,3,4],?_,?_⟩ ?_
 ·have hL:(aenc strK Hd.enc (namesL z.rrs)).length=(namesL z.rrs).length:=List.length_map ..
  refine⟨?_,fun q hq=>?_,fun q hq hn=>?_⟩
  ·rw[←hrem];exact List.nodup_range
  ·rw [←hrem,hL] at hq;exact List.mem_range.1 hq
  ·exact absurd (by rw[←hrem,hL];exact List.mem_range.2 hq) hn
 ·conv=>whnf
  repeat'(first|exact ⟨⟩|exact rfl|exact subZ_self _|exact Or.inr rfl|exact fun _ _=>rfl|exact fun _ h=>absurd h (Nat.not_lt_zero _)|apply And.intro)
  all_goals first
   |exact said_ren _
   |exact name_ren _
   |exact nameB_sub _ _ _
 intro s hs
 conv=>whnf
 obtain⟨s1,s2,s3⟩:=hs
 generalize s.1=R at s1 s2 s3 ⊢
 generalize s.2=lst
 refine⟨⟨rfl,rfl⟩,fun q hq=>?_,fun h0=>?_⟩
 ·have hql:=s2 q hq
  have hqe:(namesL z.rrs)[q]? = some (namesL z.rrs)[q]:=List.getElem?_eq_getElem hql
  have hgd:(namesL z.rrs).getD q default=(namesL z.rrs)[q]:=by rw[List.getD_eq_getElem?_getD,hqe];rfl
  have hmem:=List.getElem_mem hql
  generalize (namesL z.rrs)[q]=e at hqe hgd hmem
  have hae:(aenc strK Hd.enc (namesL z.rrs))[q]? = some (strK e.1,e.2.enc):=by unfold aenc;rw[List.getElem?_map,hqe];rfl
  have he2:=namesL_mem hmem
  obtain⟨r,hr,hre⟩:=namesL_of hmem
  have hen:isName e.1:=by rw[←hre];exact isName_fold (hn r hr)
  refine⟨_,_,hae,?_⟩
  conv=>whnf
  intro R' hR'
  conv=>whnf
  refine⟨⟨rfl,rfl⟩,_,_,hae,?_⟩
  conv=>whnf
  rw[he2]
  refine .rel _ (COk.frameX (fits_ok z S z.rrs hl (.born bs c) e.1 (fold z.apex) hen) [0,1,2] rfl rfl (lookK_map z S (namesL z.rrs) (.born bs c) rfl rfl).symm) (fun x ks' hR=>?_)
  obtain⟨s0,k0,⟨rfl,rfl⟩,rfl,rfl⟩:=hR
  rw[lookK_map z S (namesL z.rrs) (.born bs c) rfl rfl]
  cases hfit:fitsZ z.rrs (fold z.apex) e.1 with
  |false =>
   have hb:soundZ z=false:=by
    rw[hlaw,List.all_eq_false]
    exact⟨e,hmem,by rw[hfit];decide⟩
   conv=>whnf
   refine brT rfl ?_
   conv=>whnf
   rw[hb]
   refine⟨[0,1,2],_,lookK z S (namesL z.rrs) .free,rfl,rfl,?_,?_,rfl,rfl⟩
   ·exact rfl
   ·conv=>whnf
    repeat'(first|exact ⟨⟩|exact rfl|exact subZ_self _|exact Or.inr rfl|exact fun _ _=>rfl|exact fun _ h=>absurd h (Nat.not_lt_zero _)|apply And.intro)
    all_goals first
     |exact said_ren _
     |exact name_ren _
     |exact nameB_sub _ _ _
  |true =>
   conv=>whnf
   refine brF rfl ?_
   conv=>whnf
   refine⟨(R',q),[0,1,2,3,4],⟨?_,?_,?_⟩,?_,?_⟩
   ·rw[←hR'];exact s1.erase q
   ·intro q' hq'
    rw [←hR'] at hq'
    exact s2 q' (List.mem_of_mem_erase hq')
   ·intro q' hq' hn'
    by_cases hqq:q'=q
    ·subst hqq;rw[hgd];exact hfit
    ·exact s3 q' hq' (fun hm=>hn' (by rw[←hR'];exact(List.mem_erase_of_ne hqq).2 hm))
   ·rw[←hR']
    show(R.erase q).length<R.length
    rw[List.length_erase_of_mem hq]
    have:=List.length_pos_of_mem hq
    omega
   ·conv=>whnf
    repeat'(first|exact ⟨⟩|exact rfl|exact subZ_self _|exact Or.inr rfl|exact fun _ _=>rfl|exact fun _ h=>absurd h (Nat.not_lt_zero _)|apply And.intro)
    all_goals first
     |exact said_ren _
     |exact name_ren _
     |exact nameB_sub _ _ _
 ·have hb:soundZ z=true:=by
   rw[hlaw,List.all_eq_true]
   intro e he
   obtain⟨q,hq,rfl⟩:=List.mem_iff_getElem.1 he
   have:=s3 q hq (by rw[h0];simp)
   rw [List.getD_eq_getElem?_getD,List.getElem?_eq_getElem hq] at this
   exact this
  conv=>whnf
  rw[hb]
  refine⟨[0,1,2],_,lookK z S (namesL z.rrs) .free,rfl,rfl,?_,?_,rfl,rfl⟩
  ·exact rfl
  ·conv=>whnf
   repeat'(first|exact ⟨⟩|exact rfl|exact subZ_self _|exact Or.inr rfl|exact fun _ _=>rfl|exact fun _ h=>absurd h (Nat.not_lt_zero _)|apply And.intro)
   all_goals first
    |exact said_ren _
    |exact name_ren _
    |exact nameB_sub _ _ _
end Go.Proofs.Ytnfoihdifohkeaa
namespace Go.Proofs.Ytnfoihdifohkeaa
open Go Go.Eng
theorem DenTo.tup[Dr]{l m:List SV}(h:DenToL l m):DenTo (.tup l) (.tup m):=fun w M β v hd=>by
 cases hd with
 |tup _ vs h1 h2 =>
  refine .tup _ vs (by rw[←h.len];exact h1) (fun j t u ht hu=>?_)
  have hj:j<l.length:=by rw[h.len];exact(List.getElem?_eq_some_iff.1 ht).1
  exact h.at j _ t (List.getElem?_eq_getElem hj) ht _ _ _ _ (h2 j _ u (List.getElem?_eq_getElem hj) hu)
theorem COk.resD[Dr]{P:Program}{f:FuncId}{args:List SV}{ks:List KB}{R R':SV→List KB→Prop}(h:COk P f args ks R)(hR:∀ s k,R s k→∃ s',DenTo s s'∧R' s' k):COk P f args ks R' :=
 ⟨h.1,fun X w β fp vs hM hl hd=>(h.2 X w β fp vs hM hl hd).mono (fun e w' h=>by
  obtain⟨r,s,ks',β',fp',h1,h2,h3,h4⟩:=h
  obtain⟨s',hs,hR'⟩:=hR s ks' h2
  exact⟨r,s',ks',β',fp',h1,hR',h3,hs _ _ _ _ h4⟩)⟩
end Go.Proofs.Ytnfoihdifohkeaa
namespace Go.Proofs.Ytnfoihdifohkeaa
open Go Go.Eng
set_option maxRecDepth 100000
structure Fo where
 zz:Bool
 zones:List Zo
 hz:Bool
 hosts:List (Int × Bool × List Int)
def placeZ(zs:List Zo)(n:List UInt8):Option Nat:=zs.findIdx? fun z=>fold z.apex == n
def topCut(name:List UInt8):List (List UInt8)→Option (List UInt8)
 |[]=>none
 |c :: l=>if withinN name c then (match topCut name l with
  |none=>some (fold c)
  |some b=>if countN c≤countN b then some (fold c) else some b) else topCut name l
def Zo.cut(z:Zo)(name:List UInt8):Option (List UInt8):=topCut name z.cutL
theorem within_name{n c:List UInt8}(h:withinN n c=true):isName n∧isName c:=by
 unfold withinN at h
 simp only [Bool.and_eq_true,decide_eq_true_eq] at h
 exact⟨h.1,h.2.1⟩
theorem countN_fold{c:List UInt8}(hc:isName c):countN (fold c)=countN c:=by
 unfold countN
 rw[if_pos hc,if_pos (isName_fold hc),labN_fold hc]
 unfold fl
 rw[List.length_map]
theorem topCut_some{name:List UInt8}:∀ {l:List (List UInt8)} {b:List UInt8},topCut name l=some b→(∃ c ∈ l,fold c=b∧withinN name c=true)∧∀ c ∈ l,withinN name c=true→countN b≤countN c
 |[],b,h=>by cases h
 |c :: l,b,h=>by
  unfold topCut at h
  split at h
  ·rename_i hw
   cases hl:topCut name l with
   |none =>
    rw [hl] at h
    simp only [Option.some.injEq] at h
    subst h
    have hno:∀ x ∈ l,withinN name x=false:=fun x hx=>by
     cases hxw:withinN name x
     ·rfl
     ·exfalso
      have:∀ m:List (List UInt8),topCut name m=none→∀ x ∈ m,withinN name x=false:=by
       intro m
       induction m with
       |nil=>intro _ x hx;cases hx
       |cons y m ih =>
        intro hm x hx
        unfold topCut at hm
        split at hm
        ·split at hm
         ·cases hm
         ·split at hm <;> cases hm
        ·rename_i hy
         rcases List.mem_cons.1 hx with rfl|hx
         ·simpa using hy
         ·exact ih hm x hx
      rw [this l hl x hx] at hxw
      cases hxw
    refine⟨⟨c,List.mem_cons_self ..,rfl,hw⟩,fun x hx hxw=>?_⟩
    rcases List.mem_cons.1 hx with rfl|hx
    ·rw[countN_fold (within_name hw).2];exact Nat.le_refl _
    ·rw [hno x hx] at hxw;cases hxw
   |some b' =>
    rw [hl] at h
    obtain⟨⟨c',hc',e',w'⟩,hmin⟩:=topCut_some hl
    simp only at h
    split at h
    ·rename_i hle
     simp only [Option.some.injEq] at h
     subst h
     refine⟨⟨c,List.mem_cons_self ..,rfl,hw⟩,fun x hx hxw=>?_⟩
     rw[countN_fold (within_name hw).2]
     rcases List.mem_cons.1 hx with rfl|hx
     ·exact Nat.le_refl _
     ·exact Nat.le_trans hle (hmin x hx hxw)
    ·rename_i hle
     simp only [Option.some.injEq] at h
     subst h
     refine⟨⟨c',List.mem_cons_of_mem _ hc',e',w'⟩,fun x hx hxw=>?_⟩
     rcases List.mem_cons.1 hx with rfl|hx
     ·omega
     ·exact hmin x hx hxw
  ·rename_i hw
   obtain⟨⟨c',hc',e',w'⟩,hmin⟩:=topCut_some h
   refine⟨⟨c',List.mem_cons_of_mem _ hc',e',w'⟩,fun x hx hxw=>?_⟩
   rcases List.mem_cons.1 hx with rfl|hx
   ·exact absurd hxw hw
   ·exact hmin x hx hxw
def downF(zs:List Zo)(name:List UInt8):Nat→Nat→Option Nat
 |0,_=>none
 |k+1,at_=>match zs[at_]? with
  |none=>none
  |some z=>match z.cut name with
   |none=>some at_
   |some c=>match placeZ zs c with
    |none=>none
    |some next=>downF zs name k next
theorem fl_of_fold{a b:List UInt8}(ha:isName a)(hb:isName b)(h:fold a=fold b):fl a=fl b:=by
 rw[←labN_fold ha,←labN_fold hb,h]
theorem within_of_fold{n a b:List UInt8}(ha:isName a)(h:fold a=fold b)(hw:withinN n b=true):withinN n a=true:=by
 have hb:=(within_name hw).2
 unfold withinN at hw ⊢
 rw[fl_of_fold ha hb h,decide_eq_true ha]
 rwa [decide_eq_true hb] at hw
theorem within_count{n z:List UInt8}(h:withinN n z=true):countN z≤countN n:=by
 obtain⟨hn,hz⟩:=within_name h
 unfold withinN at h
 simp only [Bool.and_eq_true,List.isSuffixOf_iff_suffix] at h
 have hl:=h.2.2.length_le
 unfold fl at hl
 rw [List.length_map,List.length_map] at hl
 unfold countN
 rw[if_pos hn,if_pos hz]
 exact hl
theorem within_strict{n z:List UInt8}(h:withinN n z=true)(hs:sameN n z=false):countN z<countN n:=by
 obtain⟨hn,hz⟩:=within_name h
 have hle:=within_count h
 apply Classical.byContradiction
 intro hc
 unfold withinN at h
 simp only [Bool.and_eq_true,List.isSuffixOf_iff_suffix] at h
 have hlen:(fl z).length=(fl n).length:=by
  unfold countN at hle hc
  rw [if_pos hn,if_pos hz] at hle hc
  unfold fl
  rw[List.length_map,List.length_map]
  omega
 have e:=h.2.2.eq_of_length hlen
 have:sameN n z=true:=by
  unfold sameN
  rw[decide_eq_true hn,decide_eq_true hz,Bool.true_and,Bool.true_and,beq_iff_eq,fold_fl hn,fold_fl hz,e]
 rw [this] at hs
 cases hs
theorem Zo.ok_name{z:Zo}(h:z.ok=true):isName z.apex:=by
 unfold Zo.ok at h
 simp only [Bool.and_eq_true,decide_eq_true_eq] at h
 exact h.1
theorem Zo.ok_take{z:Zo}(h:z.ok=true){r:RR}(hr:r ∈ z.rrs):takeZ z.apex r=true:=by
 unfold Zo.ok at h
 simp only [Bool.and_eq_true,List.all_eq_true] at h
 exact h.2.2.1 r hr
theorem Zo.cut_spec{z:Zo}(hz:z.ok=true){name b:List UInt8}(h:z.cut name=some b):∃ c,fold c=b∧withinN name c=true∧withinN c z.apex=true∧sameN c z.apex=false:=by
 obtain⟨⟨c,hc,e,hw⟩,_⟩:=topCut_some h
 unfold Zo.cutL at hc
 obtain⟨r,hr,rfl⟩:=List.mem_map.1 hc
 obtain⟨hr,hp⟩:=List.mem_filter.1 hr
 have ht:=z.ok_take hz hr
 unfold takeZ at ht
 simp only [Bool.and_eq_true] at ht hp
 exact⟨r.nm,e,hw,ht.2.2.2.2,by simpa using hp.2⟩
theorem place_spec{zs:List Zo}{b:List UInt8}{i:Nat}(h:placeZ zs b=some i):∃ z,zs[i]? = some z∧fold z.apex=b:=by
 unfold placeZ at h
 obtain⟨hi,h1,_⟩:=List.findIdx?_eq_some_iff_getElem.1 h
 exact⟨zs[i],List.getElem?_eq_getElem hi,by simpa using h1⟩
theorem down_spec{zs:List Zo}(hz:∀ z ∈ zs,z.ok=true){name:List UInt8}:∀ (k at_:Nat) (z:Zo),zs[at_]? = some z→withinN name z.apex=true→countN name<k+countN z.apex →
 downF zs name (k+1) at_=downF zs name k at_∧∀ at',downF zs name k at_=some at'→∃ z',zs[at']? = some z'∧withinN name z'.apex=true∧z'.cut name=none
 |0,at_,z,h,hw,hc=>by
  have:=within_count hw
  omega
 |k+1,at_,z,h,hw,hc=>by
  have hzm:=hz z (List.mem_of_getElem? h)
  have e1:∀ j,downF zs name (j+1) at_=match z.cut name with
   |none=>some at_
   |some c=>match placeZ zs c with
    |none=>none
    |some next=>downF zs name j next:=fun j=>by
   show(match zs[at_]? with|none=>none|some z=>_)=_
   rw[h]
  rw[e1 (k+1),e1 k]
  cases hcut:z.cut name with
  |none=>exact ⟨rfl,fun at' e=>by simp only [Option.some.injEq] at e;subst e;exact ⟨z,h,hw,hcut⟩⟩
  |some c =>
   simp only
   cases hp:placeZ zs c with
   |none=>exact⟨rfl,fun at' e=>by cases e⟩
   |some next =>
    simp only
    obtain⟨y,hy,ey⟩:=place_spec hp
    obtain⟨c',ec,w1,w2,w3⟩:=z.cut_spec hzm hcut
    have hyn:=Zo.ok_name (hz y (List.mem_of_getElem? hy))
    have hyc:fold y.apex=fold c':=by rw[ey,ec]
    have wy:=within_of_fold hyn hyc w1
    have hlt:=within_strict w2 w3
    have hcc:countN y.apex=countN c':=by
     rw[←countN_fold hyn,←countN_fold (within_name w1).2,hyc]
    exact down_spec hz k next y hy wy (by omega)
end Go.Proofs.Ytnfoihdifohkeaa
namespace Go.Proofs.Ytnfoihdifohkeaa
open Go Go.Eng
set_option maxRecDepth 100000
def Zo.V(z:Zo):SV:=.agg [.d (.str z.apex),.d (rrsD z.z z.rrs)]
theorem took_next(z:Zo){i:Nat}{r:RR}(h:z.rrs[i]? = some r):takenZ z.apex (z.rrs.take (i+1))=(takenZ z.apex (z.rrs.take i) && tookZ z (z.rrs.take i) r):=by
 rw[List.take_add_one,h]
 exact taken_snoc _ _ _
theorem lookK_mapX(z:Zo)(S:List ((List UInt8 × Int × Int × List UInt8) × Nat))(N:List (List UInt8 × Hd))(st:MS)(σ:Nat→Nat):mapB σ (lookK z S N st)=[.cells 76 [.d (.str z.apex),.d (rrsD z.z z.rrs),.map (σ 1),.map (σ 2)],saidB S,nameB N st]:=by
 show[KB.cells _ [_,_,SV.map (σ 1),SV.map (σ 2)],KB.mapx _ _ _ (mapM _ (aenc saidK intV S)) _,KB.mapx _ _ _ (mapM _ (aenc strK Hd.enc N)) _]=_
 rw[said_map,name_map]
 rfl
set_option maxHeartbeats 8000000 in
theorem see_raw(z:Zo)(hz:∀ r ∈ z.rrs,r.nm.length≤100000∧r.d.length≤100000) :
 COk Try.prog 24 [z.V] [] (fun s k=>∃ S N b,s = .tup [.agg [.d (.str z.apex),.d (rrsD z.z z.rrs),.map 0,.map 1],.d b]∧DenTo (.d b) (.d (.bool z.ok))∧k=[saidB S,nameB N .free]):=by
 refine cOk_of_run (TT:=TT) (IN:=lookI []) TT_ok INok_nil mixed 1000 Try.func24 rfl (enters Try.func24 (by kernel_rfl) rfl) 38 (by kernel_rfl) ?_
 conv=>whnf
 refine .one (.data _ (check_ok z.apex) rfl rfl ?_)
 by_cases hn:isName z.apex
 case neg =>
  rw[if_neg hn]
  have hb:z.ok=false:=by rw[z.ok_eq,decide_eq_false hn];rfl
  conv=>whnf
  refine brT rfl ?_
  conv=>whnf
  rw[hb]
  refine⟨[2,3],_,[saidB [],nameB [] .free],rfl,rfl,?_,?_,[],[],.ff,rfl,DenTo.ff,rfl⟩
  ·exact rfl
  ·conv=>whnf
   repeat'(first|exact ⟨⟩|exact rfl|exact subZ_self _|exact Or.inr rfl|exact fun _ _=>rfl|exact fun _ h=>absurd h (Nat.not_lt_zero _)|apply And.intro)
 rw[if_pos hn]
 conv=>whnf
 refine brF rfl ?_
 conv=>whnf
 refine⟨fun h1=>?_,fun h1=>?_⟩
 ·have h1:¬ z.rrs.length≤256:=by
   have h:(z.rrs.length:Int) > 256:=of_decide_eq_true h1
   omega
  have hb:z.ok=false:=by rw[z.ok_eq,decide_eq_false h1,Bool.false_and,Bool.and_false]
  rw[hb]
  conv=>whnf
  refine⟨[2,3],_,[saidB [],nameB [] .free],rfl,rfl,?_,?_,[],[],.ff,rfl,DenTo.ff,rfl⟩
  ·exact rfl
  ·conv=>whnf
   repeat'(first|exact ⟨⟩|exact rfl|exact subZ_self _|exact Or.inr rfl|exact fun _ _=>rfl|exact fun _ h=>absurd h (Nat.not_lt_zero _)|apply And.intro)
 have h1:z.rrs.length≤256:=by
  have h:¬ (z.rrs.length:Int) > 256:=of_decide_eq_false h1
  omega
 have hok:z.ok=(takenZ z.apex z.rrs && soundZ z):=by rw[z.ok_eq,decide_eq_true hn,decide_eq_true h1];rfl
 conv=>whnf
 refine .inv Nat (fun i=>i≤z.rrs.length∧takenZ z.apex (z.rrs.take i)=true) (fun i=>[(28,iV i)]) (fun i=>[(2,saidB (saidL (z.rrs.take i))),(3,nameB (namesL (z.rrs.take i)) .free)]) (fun i=>z.rrs.length - i) ⟨0,[0,1,2,3,4],⟨Nat.zero_le _,rfl⟩,?_⟩ ?_
 ·conv=>whnf
  repeat'(first|exact ⟨⟩|exact rfl|exact subZ_self _|exact Or.inr rfl|exact fun _ _=>rfl|exact fun _ h=>absurd h (Nat.not_lt_zero _)|apply And.intro)
 intro i hi
 obtain⟨hi,hti⟩:=hi
 conv=>whnf
 refine⟨fun h2=>?_,fun h2=>?_⟩
 ·have h2:i<z.rrs.length:=by
   have h:(i:Int)<z.rrs.length:=of_decide_eq_true h2
   omega
  have hw1:IntKind.i64.wrap ((i:Int)+1)=((i+1:Nat):Int):=by rw[w64_in _ (by omega)];omega
  obtain⟨r,hr⟩:∃ r,z.rrs.getD i default=r:=⟨_,rfl⟩
  have hrl:z.rrs[i]? = some r:=by rw[←hr,List.getD,List.getElem?_eq_getElem h2];rfl
  have hnx:=took_next z hrl
  have htk:z.rrs.take (i+1)=z.rrs.take i++[r]:=by rw[List.take_add_one,hrl];rfl
  conv=>whnf
  refine⟨by omega,?_⟩
  conv=>whnf
  rw[Int.toNat_natCast,hr]
  refine .rel _ (COk.frameX (take_ok z (z.rrs.take i) (by rw[List.length_take];omega) r (hz r (List.mem_of_getElem? hrl)).1) [4,2,3] rfl rfl (by rw[lookK_mapX];rfl)) (fun x ks' hR=>?_)
  obtain⟨s0,k0,⟨rfl,rfl⟩,rfl,rfl⟩:=hR
  cases hto:tookZ z (z.rrs.take i) r with
  |false =>
   have hb:z.ok=false:=by
    rw[hok,taken_bad (i:=i+1) (by rw[hnx,hto,Bool.and_false])]
    rfl
   rw[hb,if_neg (by decide),lookK_mapX]
   conv=>whnf
   refine brT rfl ?_
   conv=>whnf
   refine⟨[2,3],_,[saidB (saidL (z.rrs.take i)),nameB (namesL (z.rrs.take i)) .free],rfl,rfl,?_,?_,_,_,.ff,rfl,DenTo.ff,rfl⟩
   ·exact rfl
   ·conv=>whnf
    repeat'(first|exact ⟨⟩|exact rfl|exact subZ_self _|exact Or.inr rfl|exact fun _ _=>rfl|exact fun _ h=>absurd h (Nat.not_lt_zero _)|apply And.intro)
    all_goals first
     |exact said_ren _
     |exact name_ren _
     |exact nameB_sub _ _ _
  |true =>
   rw[if_pos rfl,lookK_mapX]
   conv=>whnf
   refine brF rfl ?_
   conv=>whnf
   rw[hw1]
   refine⟨i+1,[0,1,2,3,4],⟨h2,by rw[hnx,hti,hto];rfl⟩,by omega,?_⟩
   rw[htk]
   conv=>whnf
   repeat'(first|exact ⟨⟩|exact rfl|exact subZ_self _|exact Or.inr rfl|exact fun _ _=>rfl|exact fun _ h=>absurd h (Nat.not_lt_zero _)|apply And.intro)
   all_goals first
    |exact said_ren _
    |exact name_ren _
    |exact nameB_sub _ _ _
 ·have h2:i=z.rrs.length:=by
   have h:¬ (i:Int)<z.rrs.length:=of_decide_eq_false h2
   omega
  subst h2
  rw [List.take_length] at hti ⊢
  rw [hti,Bool.true_and] at hok
  have hnm:∀ r ∈ z.rrs,isName r.nm:=fun r hr=>by
   unfold takenZ at hti
   simp only [Bool.and_eq_true,List.all_eq_true] at hti
   have:=hti.1 r hr
   unfold takeZ at this
   simp only [Bool.and_eq_true] at this
   exact(within_name this.2.2.2.2).1
  have hsd:COk Try.prog 43 [.ptr 4 0] [.cells 49 [.d (.str z.apex),.d (rrsD z.z z.rrs)],.cells 76 [.d (.str []),nilS,.v (.map none),.v (.map none)],saidB (saidL z.rrs),nameB (namesL z.rrs) .free,.cells 76 [.d (.str z.apex),.d (rrsD z.z z.rrs),.map 2,.map 3]]
   (fun s k=>s = .d (.bool (soundZ z))∧k=[.cells 49 [.d (.str z.apex),.d (rrsD z.z z.rrs)],.cells 76 [.d (.str []),nilS,.v (.map none),.v (.map none)],saidB (saidL z.rrs),nameB (namesL z.rrs) .free,.cells 76 [.d (.str z.apex),.d (rrsD z.z z.rrs),.map 2,.map 3]]) :=
   (COk.frameX (sound_ok z (saidL z.rrs) (by omega) hnm (by have:=hn.2.1;omega)) [4,2,3] rfl rfl (by rw[lookK_mapX];rfl)).imp fun r k ⟨s0,k0,⟨h1,h2⟩,h3,h4⟩=>by
    subst h1 h2 h3 h4
    rw[lookK_mapX]
    exact⟨rfl,rfl⟩
  conv=>whnf
  apply Exists.intro
  apply Exists.intro
  refine⟨?_,?_⟩
  ·conv=>whnf
   repeat'(first|exact ⟨⟩|exact⟨rfl,rfl⟩|refine .mem _ _ hsd ?_|apply And.intro|(conv=>whnf))
  conv=>whnf
  refine⟨[2,3],_,[saidB (saidL z.rrs),nameB (namesL z.rrs) .free],rfl,rfl,?_,?_,_,_,_,rfl,by rw[hok];exact DenTo.refl _,rfl⟩
  ·exact rfl
  ·conv=>whnf
   repeat'(first|exact ⟨⟩|exact rfl|exact subZ_self _|exact Or.inr rfl|exact fun _ _=>rfl|exact fun _ h=>absurd h (Nat.not_lt_zero _)|apply And.intro)
   all_goals first
    |exact said_ren _
    |exact name_ren _
    |exact nameB_sub _ _ _
theorem see_ok(z:Zo)(hz:∀ r ∈ z.rrs,r.nm.length≤100000∧r.d.length≤100000) :
 COk Try.prog 24 [z.V] [] (fun s k=>∃ S N,s = .tup [.agg [.d (.str z.apex),.d (rrsD z.z z.rrs),.map 0,.map 1],.d (.bool z.ok)]∧k=[saidB S,nameB N .free]) :=
 COk.resD (see_raw z hz) fun s k ⟨S,N,b,h1,h2,h3⟩=>⟨_,h1 ▸ DenTo.tup ⟨DenTo.refl _,h2,trivial⟩,S,N,rfl,h3⟩
end Go.Proofs.Ytnfoihdifohkeaa
