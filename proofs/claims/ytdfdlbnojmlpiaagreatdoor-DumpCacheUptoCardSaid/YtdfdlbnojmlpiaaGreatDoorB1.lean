/-
  The table of types of this seat, as the engine reads it; checked against the program by one closed fact. Written by mktt.py. label.Check tells whether a text is a name. No conditions. label.Fold puts for each capital letter its small one. No conditions but that the text is shorter than 2 to the 62. Names as lists of labels. Plain lemmas. Plain parts: lists of texts as cells; names ahead in bytes; branches. No program in sight. Plain parts: bytes as cells, maps of numbers by texts. No program in sight. Labels behind one another; the name that bytes begin with. Plain lemmas. Names split into labels. Plain lemmas. Names as their labels; what lies within what. Plain lemmas. Arguments of which less is asked. Plain lemmas. Names are decided; ends of texts. Plain. Names as texts, there and back. Plain. Contracts of the library at this program, in plain words (written by the kit's lay-plain.mjs). No conditions but those told. strings.Join of texts, as a contract over data (from the shelf). Conditions: lengths. strings.Builder: copyCheck, out of the shelf's laws; WriteString, String by the engine. strings.Builder: WriteByte. Conditions: lengths. label.Join at the root and labels. Conditions: there are labels, and they are right and short. Texts of numbers and of bytes, and how they are read. Plain lemmas; strings.IndexByte. rdata: what the functions of package rdata compute: the name with which bytes begin, texts, parts of data by their type, Check. No conditions but lengths where they are named. rdata.look, rdata.Fold, sets.Check. No conditions. label.tell, label.Print. No conditions. label.behind, label.cut, label.Parse. No conditions. A contract over few blocks used among many, its result told as it is. Plain.
-/
import Derived.Test.YtdfdlbnojmlpiaaGreatDoorRows
import Derived.KernelRfl
import Derived.Shelf.Strings.OnBuilder
import Derived.Shelf.Small.Strs
import Derived.Shelf.Strings.Builder1
import Derived.Shelf.Strconv.Itoa1
import Derived.Shelf.Strconv.Itoa2
import Derived.Shelf.Strconv.Itoa4
import Derived.Shelf.LaysM
import Derived.Shelf.Pu.ParseUintPublic10
import Derived.Shelf.Strings.Search3
import Derived.Shelf.Strings.Count
import Derived.Test.YtdfdlbnojmlpiaaGreatDoorProg
import Derived.Lib.ParseIntBCases
import Derived.Lib.Bytealg
import Derived.Lib.ItoaNum
import Derived.Test.YtdfdlbnojmlpiaaGreatDoorM4
set_option linter.unusedVariables false
set_option linter.unusedSimpArgs false
namespace Go.Proofs.YtdfdlbnojmlpiaaGreatDoor
open Go Go.Eng
def types:List (Nat × TI):=[
 (2,⟨1,8,false,[.d (.int .i64 0)],.int .i64,[]⟩),
 (3,⟨1,8,false,[.d (.int .i64 0)],.int .i64,[]⟩),
 (4,⟨1,1,false,[.d .ff],.bool,[]⟩),
 (5,⟨1,1,false,[.d (.int .u8 0)],.int .u8,[]⟩),
 (6,⟨1,1,false,[.d (.int .u8 0)],.int .u8,[]⟩),
 (7,⟨4,24,true,[.d (.int .i64 0),.d (.int .i64 0),.d .ff,.d (.int .u8 0)],.struct [(0,2),(1,3),(2,4),(3,6)],[.int .i64,.int .i64,.bool,.int .u8]⟩),
 (9,⟨1,16,false,[.d (.str [])],.str,[]⟩),
 (17,⟨1,8,false,[.v (.pointer none)],.ptr 293,[]⟩),
 (18,⟨1,8,true,[.v (.pointer none)],.struct [(0,17)],[]⟩),
 (19,⟨1,8,true,[.v (.pointer none)],.struct [(0,17)],[]⟩),
 (21,⟨1,4,false,[.d (.int .i32 0)],.int .i32,[]⟩),
 (22,⟨1,24,false,[nilS],.slice 84,[]⟩),
 (23,⟨1,24,false,[nilS],.slice 9,[]⟩),
 (24,⟨1,2,false,[.d (.int .u16 0)],.int .u16,[]⟩),
 (25,⟨1,2,false,[.d (.int .u16 0)],.int .u16,[]⟩),
 (26,⟨1,4,false,[.d (.int .u32 0)],.int .u32,[]⟩),
 (28,⟨1,8,false,[.v (.pointer none)],.ptr 171,[]⟩),
 (29,⟨1,24,false,[nilS],.slice 77,[]⟩),
 (30,⟨2,32,true,[.d (.int .i64 0),nilS],.struct [(0,3),(1,29)],[]⟩),
 (31,⟨2,32,true,[.d (.int .i64 0),nilS],.struct [(0,3),(1,29)],[]⟩),
 (34,⟨1,8,false,[.v .nilFunc],.other,[]⟩),
 (35,⟨1,8,false,[.d (.int .i64 0)],.int .i64,[]⟩),
 (43,⟨5,40,true,[.d (.str []),.d (.int .u16 0),.d (.int .u16 0),.d (.int .u32 0),.d (.str [])],.struct [(0,9),(1,25),(2,24),(3,26),(4,9)],[.str,.int .u16,.int .u16,.int .u32,.str]⟩),
 (44,⟨5,40,true,[.d (.str []),.d (.int .u16 0),.d (.int .u16 0),.d (.int .u32 0),.d (.str [])],.struct [(0,9),(1,25),(2,24),(3,26),(4,9)],[.str,.int .u16,.int .u16,.int .u32,.str]⟩),
 (45,⟨1,24,false,[nilS],.slice 44,[]⟩),
 (46,⟨1,8,false,[.v .nilFunc],.other,[]⟩),
 (47,⟨1,8,false,[.v .nilFunc],.other,[]⟩),
 (51,⟨1,8,false,[.v .nilFunc],.other,[]⟩),
 (53,⟨1,8,false,[.v .nilFunc],.other,[]⟩),
 (54,⟨1,8,false,[.v .nilFunc],.other,[]⟩),
 (55,⟨1,8,false,[.v (.pointer none)],.ptr 141,[]⟩),
 (60,⟨1,8,false,[.v (.pointer none)],.ptr 147,[]⟩),
 (63,⟨1,24,false,[nilS],.slice 4,[]⟩),
 (64,⟨1,24,false,[nilS],.slice 153,[]⟩),
 (65,⟨6,104,true,[.d (.int .u16 0),.d (.int .u16 0),nilS,nilS,nilS,nilS],.struct [(0,24),(1,24),(2,64),(3,45),(4,45),(5,45)],[]⟩),
 (66,⟨6,104,true,[.d (.int .u16 0),.d (.int .u16 0),nilS,nilS,nilS,nilS],.struct [(0,24),(1,24),(2,64),(3,45),(4,45),(5,45)],[]⟩),
 (67,⟨1,8,false,[.v .nilFunc],.other,[]⟩),
 (69,⟨1,8,false,[.v .nilFunc],.other,[]⟩),
 (71,⟨4,48,true,[.d (.str []),.d (.int .u16 0),.d (.int .u32 0),nilS],.struct [(0,9),(1,25),(2,26),(3,23)],[]⟩),
 (72,⟨4,48,true,[.d (.str []),.d (.int .u16 0),.d (.int .u32 0),nilS],.struct [(0,9),(1,25),(2,26),(3,23)],[]⟩),
 (73,⟨1,1,false,[.d (.int .u8 0)],.int .u8,[]⟩),
 (74,⟨7,56,true,[.d (.str []),.d (.int .u16 0),.d (.int .u32 0),nilS,.d (.int .u8 0),.d .ff,.d .ff],.struct [(0,72),(4,73),(5,4),(6,4)],[]⟩),
 (75,⟨7,56,true,[.d (.str []),.d (.int .u16 0),.d (.int .u32 0),nilS,.d (.int .u8 0),.d .ff,.d .ff],.struct [(0,72),(4,73),(5,4),(6,4)],[]⟩),
 (76,⟨8,64,true,[.d (.str []),.d (.int .u16 0),.d (.int .u32 0),nilS,.d (.int .u8 0),.d .ff,.d .ff,.d (.int .i64 0)],.struct [(0,75),(7,2)],[]⟩),
 (77,⟨8,64,true,[.d (.str []),.d (.int .u16 0),.d (.int .u32 0),nilS,.d (.int .u8 0),.d .ff,.d .ff,.d (.int .i64 0)],.struct [(0,75),(7,2)],[]⟩),
 (78,⟨1,8,false,[.v .nilFunc],.other,[]⟩),
 (82,⟨1,8,false,[.v .nilFunc],.other,[]⟩),
 (83,⟨6,64,true,[.d (.str []),.d (.int .u16 0),.d (.int .u32 0),nilS,.d (.int .u8 0),.d (.int .i64 0)],.struct [(0,72),(4,73),(5,2)],[]⟩),
 (84,⟨6,64,true,[.d (.str []),.d (.int .u16 0),.d (.int .u32 0),nilS,.d (.int .u8 0),.d (.int .i64 0)],.struct [(0,72),(4,73),(5,2)],[]⟩),
 (85,⟨1,8,false,[.v .nilFunc],.other,[]⟩),
 (86,⟨1,8,false,[.v .nilFunc],.other,[]⟩),
 (87,⟨1,8,false,[.v .nilFunc],.other,[]⟩),
 (88,⟨1,8,false,[.v .nilFunc],.other,[]⟩),
 (89,⟨1,8,false,[.v (.pointer none)],.ptr 92,[]⟩),
 (90,⟨1,24,false,[nilS],.slice 5,[]⟩),
 (91,⟨2,32,true,[.v (.pointer none),nilS],.struct [(0,89),(1,90)],[]⟩),
 (92,⟨2,32,true,[.v (.pointer none),nilS],.struct [(0,89),(1,90)],[]⟩),
 (93,⟨2,32,true,[.v (.pointer none),nilS],.struct [(0,92)],[]⟩),
 (94,⟨2,32,true,[.v (.pointer none),nilS],.struct [(0,92)],[]⟩),
 (97,⟨1,8,false,[.v .nilFunc],.other,[]⟩),
 (99,⟨1,8,false,[.v (.pointer none)],.ptr 106,[]⟩),
 (100,⟨8,64,true,[.d (.str []),.d (.int .u16 0),.d (.int .u32 0),nilS,.d (.int .u8 0),.d .ff,.d .ff,.d (.int .i64 0)],.struct [(0,75),(7,2)],[]⟩),
 (101,⟨8,64,true,[.d (.str []),.d (.int .u16 0),.d (.int .u32 0),nilS,.d (.int .u8 0),.d .ff,.d .ff,.d (.int .i64 0)],.struct [(0,75),(7,2)],[]⟩),
 (103,⟨2,24,true,[.d (.str []),.d (.int .u16 0)],.struct [(0,9),(1,25)],[.str,.int .u16]⟩),
 (104,⟨2,24,true,[.d (.str []),.d (.int .u16 0)],.struct [(0,9),(1,25)],[.str,.int .u16]⟩),
 (105,⟨12,104,true,[.d (.str []),.d (.int .u16 0),.d (.int .u32 0),nilS,.d (.int .u8 0),.d .ff,.d .ff,.d (.int .i64 0),.d (.str []),.d (.int .u16 0),.v (.pointer none),.v (.pointer none)],.struct [(0,101),(8,104),(10,99),(11,99)],[]⟩),
 (106,⟨12,104,true,[.d (.str []),.d (.int .u16 0),.d (.int .u32 0),nilS,.d (.int .u8 0),.d .ff,.d .ff,.d (.int .i64 0),.d (.str []),.d (.int .u16 0),.v (.pointer none),.v (.pointer none)],.struct [(0,101),(8,104),(10,99),(11,99)],[]⟩),
 (107,⟨1,8,false,[.v (.pointer none)],.ptr 109,[]⟩),
 (108,⟨2,24,true,[.d (.str []),.d .ff],.struct [(0,9),(1,4)],[.str,.bool]⟩),
 (109,⟨2,24,true,[.d (.str []),.d .ff],.struct [(0,9),(1,4)],[.str,.bool]⟩),
 (111,⟨1,8,false,[.v .nilFunc],.other,[]⟩),
 (112,⟨1,8,false,[.v .nilFunc],.other,[]⟩),
 (113,⟨4,40,true,[.d (.str []),.d (.int .u16 0),.d (.int .u16 0),.d (.str [])],.struct [(0,9),(1,25),(2,24),(3,9)],[.str,.int .u16,.int .u16,.str]⟩),
 (114,⟨4,40,true,[.d (.str []),.d (.int .u16 0),.d (.int .u16 0),.d (.str [])],.struct [(0,9),(1,25),(2,24),(3,9)],[.str,.int .u16,.int .u16,.str]⟩),
 (115,⟨1,8,false,[.v .nilFunc],.other,[]⟩),
 (116,⟨1,8,false,[.v .nilFunc],.other,[]⟩),
 (117,⟨1,8,false,[.v .nilFunc],.other,[]⟩),
 (118,⟨1,8,false,[.v .nilFunc],.other,[]⟩),
 (119,⟨9,80,true,[.d (.str []),.d (.int .u16 0),.d (.int .u16 0),.d (.str []),.d (.str []),.d (.int .u16 0),.d (.int .u16 0),.d (.int .u32 0),.d (.str [])],.struct [(0,114),(4,44)],[.str,.int .u16,.int .u16,.str,.str,.int .u16,.int .u16,.int .u32,.str]⟩),
 (120,⟨9,80,true,[.d (.str []),.d (.int .u16 0),.d (.int .u16 0),.d (.str []),.d (.str []),.d (.int .u16 0),.d (.int .u16 0),.d (.int .u32 0),.d (.str [])],.struct [(0,114),(4,44)],[.str,.int .u16,.int .u16,.str,.str,.int .u16,.int .u16,.int .u32,.str]⟩),
 (121,⟨1,24,false,[nilS],.slice 120,[]⟩),
 (122,⟨1,8,false,[.v .nilFunc],.other,[]⟩),
 (124,⟨1,8,false,[.v .nilFunc],.other,[]⟩),
 (125,⟨1,8,false,[.v .nilFunc],.other,[]⟩),
 (126,⟨1,8,false,[.d (.int .u64 0)],.int .u64,[]⟩),
 (127,⟨1,8,false,[.v .nilFunc],.other,[]⟩),
 (129,⟨1,8,false,[.v .nilFunc],.other,[]⟩),
 (132,⟨1,16,false,[.v .nilIface],.iface,[]⟩),
 (136,⟨1,8,false,[.v .nilFunc],.other,[]⟩),
 (138,⟨1,8,false,[.v .nilFunc],.other,[]⟩),
 (139,⟨1,8,false,[.v (.map none)],.map 9 3,[]⟩),
 (140,⟨4,48,true,[nilS,.d (.int .i64 0),.d .ff,.v (.map none)],.struct [(0,90),(1,3),(2,4),(3,139)],[]⟩),
 (141,⟨4,48,true,[nilS,.d (.int .i64 0),.d .ff,.v (.map none)],.struct [(0,90),(1,3),(2,4),(3,139)],[]⟩),
 (142,⟨1,8,false,[.v .nilFunc],.other,[]⟩),
 (143,⟨1,8,false,[.v .nilFunc],.other,[]⟩),
 (145,⟨1,8,false,[.v .nilFunc],.other,[]⟩),
 (146,⟨3,32,true,[.d (.str []),.d (.int .i64 0),.d .ff],.struct [(0,9),(1,3),(2,4)],[.str,.int .i64,.bool]⟩),
 (147,⟨3,32,true,[.d (.str []),.d (.int .i64 0),.d .ff],.struct [(0,9),(1,3),(2,4)],[.str,.int .i64,.bool]⟩),
 (148,⟨1,8,false,[.v .nilFunc],.other,[]⟩),
 (150,⟨1,8,false,[.v .nilFunc],.other,[]⟩),
 (151,⟨6,48,true,[.d (.int .i64 0),.d (.int .i64 0),.d (.int .i64 0),.d (.int .i64 0),.d (.int .i64 0),.d (.int .i64 0)],.array 6 3,[.int .i64,.int .i64,.int .i64,.int .i64,.int .i64,.int .i64]⟩),
 (152,⟨3,24,true,[.d (.str []),.d (.int .u16 0),.d (.int .u16 0)],.struct [(0,9),(1,25),(2,24)],[.str,.int .u16,.int .u16]⟩),
 (153,⟨3,24,true,[.d (.str []),.d (.int .u16 0),.d (.int .u16 0)],.struct [(0,9),(1,25),(2,24)],[.str,.int .u16,.int .u16]⟩),
 (155,⟨1,8,false,[.v .nilFunc],.other,[]⟩),
 (157,⟨1,8,false,[.v (.pointer none)],.ptr 66,[]⟩),
 (158,⟨1,8,false,[.v (.pointer none)],.ptr 45,[]⟩),
 (159,⟨1,24,false,[nilS],.slice 3,[]⟩),
 (160,⟨1,8,false,[.v .nilFunc],.other,[]⟩),
 (162,⟨1,8,false,[.v .nilFunc],.other,[]⟩),
 (163,⟨1,8,false,[.v .nilFunc],.other,[]⟩),
 (165,⟨1,8,false,[.v .nilFunc],.other,[]⟩),
 (167,⟨1,8,false,[.v .nilFunc],.other,[]⟩),
 (169,⟨1,8,false,[.v (.map none)],.map 104 99,[]⟩),
 (170,⟨3,24,true,[.d (.int .i64 0),.v (.pointer none),.v (.map none)],.struct [(0,3),(1,99),(2,169)],[]⟩),
 (171,⟨3,24,true,[.d (.int .i64 0),.v (.pointer none),.v (.map none)],.struct [(0,3),(1,99),(2,169)],[]⟩),
 (172,⟨1,8,false,[.v .nilFunc],.other,[]⟩),
 (174,⟨1,8,false,[.v (.pointer none)],.ptr 94,[]⟩),
 (176,⟨1,8,false,[.v (.pointer none)],.ptr 5,[]⟩),
 (179,⟨1,8,false,[.v (.pointer none)],.ptr 75,[]⟩),
 (181,⟨1,8,false,[.v .nilFunc],.other,[]⟩),
 (182,⟨1,8,false,[.v .nilFunc],.other,[]⟩),
 (185,⟨3,24,true,[.d (.int .i64 0),.d (.int .i64 0),.d (.int .i64 0)],.struct [(0,3),(1,3),(2,3)],[.int .i64,.int .i64,.int .i64]⟩),
 (186,⟨3,24,true,[.d (.int .i64 0),.d (.int .i64 0),.d (.int .i64 0)],.struct [(0,3),(1,3),(2,3)],[.int .i64,.int .i64,.int .i64]⟩),
 (188,⟨1,8,false,[.v .nilFunc],.other,[]⟩),
 (189,⟨3,56,true,[.d (.str []),nilS,.d (.str [])],.struct [(0,9),(1,23),(2,9)],[]⟩),
 (190,⟨3,56,true,[.d (.str []),nilS,.d (.str [])],.struct [(0,9),(1,23),(2,9)],[]⟩),
 (192,⟨1,8,false,[.v .nilFunc],.other,[]⟩),
 (194,⟨1,8,false,[.v .nilFunc],.other,[]⟩),
 (199,⟨1,8,false,[.v .nilFunc],.other,[]⟩),
 (200,⟨1,8,false,[.v .nilFunc],.other,[]⟩),
 (201,⟨1,8,false,[.v .nilFunc],.other,[]⟩),
 (202,⟨1,8,false,[.v .nilFunc],.other,[]⟩),
 (205,⟨1,8,false,[.v .nilFunc],.other,[]⟩),
 (209,⟨1,8,false,[.d (.int .u64 0)],.int .u64,[]⟩),
 (210,⟨1,8,false,[.v .nilFunc],.other,[]⟩),
 (216,⟨1,8,false,[.v .nilFunc],.other,[]⟩),
 (218,⟨1,8,false,[.v .nilFunc],.other,[]⟩),
 (220,⟨1,8,false,[.v .nilFunc],.other,[]⟩),
 (221,⟨1,8,false,[.v .nilFunc],.other,[]⟩),
 (222,⟨1,8,false,[.v .nilFunc],.other,[]⟩),
 (223,⟨8,8,true,[.d (.int .u8 0),.d (.int .u8 0),.d (.int .u8 0),.d (.int .u8 0),.d (.int .u8 0),.d (.int .u8 0),.d (.int .u8 0),.d (.int .u8 0)],.array 8 5,[.int .u8,.int .u8,.int .u8,.int .u8,.int .u8,.int .u8,.int .u8,.int .u8]⟩),
 (224,⟨1,8,false,[.v .nilFunc],.other,[]⟩),
 (226,⟨1,8,false,[.v .nilFunc],.other,[]⟩),
 (228,⟨2,2,true,[.d (.int .u8 0),.d (.int .u8 0)],.array 2 5,[.int .u8,.int .u8]⟩),
 (231,⟨1,8,false,[.v .nilFunc],.other,[]⟩),
 (232,⟨1,24,false,[nilS],.slice 2,[]⟩),
 (233,⟨1,8,false,[.v .nilFunc],.other,[]⟩),
 (235,⟨1,8,false,[.v .nilFunc],.other,[]⟩),
 (237,⟨1,8,false,[.v .nilFunc],.other,[]⟩),
 (239,⟨1,8,false,[.v .nilFunc],.other,[]⟩),
 (240,⟨1,8,false,[.v .nilFunc],.other,[]⟩),
 (243,⟨24,24,true,[.d (.int .u8 0),.d (.int .u8 0),.d (.int .u8 0),.d (.int .u8 0),.d (.int .u8 0),.d (.int .u8 0),.d (.int .u8 0),.d (.int .u8 0),.d (.int .u8 0),.d (.int .u8 0),.d (.int .u8 0),.d (.int .u8 0),.d (.int .u8 0),.d (.int .u8 0),.d (.int .u8 0),.d (.int .u8 0),.d (.int .u8 0),.d (.int .u8 0),.d (.int .u8 0),.d (.int .u8 0),.d (.int .u8 0),.d (.int .u8 0),.d (.int .u8 0),.d (.int .u8 0)],.array 24 5,[.int .u8,.int .u8,.int .u8,.int .u8,.int .u8,.int .u8,.int .u8,.int .u8,.int .u8,.int .u8,.int .u8,.int .u8,.int .u8,.int .u8,.int .u8,.int .u8,.int .u8,.int .u8,.int .u8,.int .u8,.int .u8,.int .u8,.int .u8,.int .u8]⟩),
 (244,⟨1,8,false,[.v .nilFunc],.other,[]⟩),
 (249,⟨1,8,false,[.d (.int .i64 0)],.int .i64,[]⟩),
 (250,⟨1,8,false,[.v (.pointer none)],.ptr 267,[]⟩),
 (256,⟨1,8,false,[.v (.pointer none)],.other,[]⟩),
 (258,⟨1,8,false,[.v .nilFunc],.other,[]⟩),
 (259,⟨1,8,false,[.v .nilFunc],.other,[]⟩),
 (260,⟨20,160,true,[.d (.int .u64 0),.d (.int .u64 0),.d (.int .u64 0),.d (.int .u64 0),.d (.int .u64 0),.d (.int .u64 0),.d (.int .u64 0),.d (.int .u64 0),.d (.int .u64 0),.d (.int .u64 0),.d (.int .u64 0),.d (.int .u64 0),.d (.int .u64 0),.d (.int .u64 0),.d (.int .u64 0),.d (.int .u64 0),.d (.int .u64 0),.d (.int .u64 0),.d (.int .u64 0),.d (.int .u64 0)],.array 20 126,[.int .u64,.int .u64,.int .u64,.int .u64,.int .u64,.int .u64,.int .u64,.int .u64,.int .u64,.int .u64,.int .u64,.int .u64,.int .u64,.int .u64,.int .u64,.int .u64,.int .u64,.int .u64,.int .u64,.int .u64]⟩),
 (262,⟨1,8,false,[.v .nilFunc],.other,[]⟩),
 (265,⟨1,8,false,[.v .nilFunc],.other,[]⟩),
 (266,⟨3,48,true,[.d (.str []),.d (.str []),.v .nilIface],.struct [(0,9),(1,9),(2,132)],[]⟩),
 (267,⟨3,48,true,[.d (.str []),.d (.str []),.v .nilIface],.struct [(0,9),(1,9),(2,132)],[]⟩),
 (270,⟨1,8,false,[.v .nilFunc],.other,[]⟩),
 (271,⟨1,8,false,[.v (.pointer none)],.ptr 273,[]⟩),
 (272,⟨1,16,true,[.d (.str [])],.struct [(0,9)],[.str]⟩),
 (273,⟨1,16,true,[.d (.str [])],.struct [(0,9)],[.str]⟩),
 (277,⟨2,2,true,[.d (.int .u8 0),.d (.int .u8 0)],.struct [(0,5),(1,5)],[.int .u8,.int .u8]⟩),
 (278,⟨2,2,true,[.d (.int .u8 0),.d (.int .u8 0)],.struct [(0,5),(1,5)],[.int .u8,.int .u8]⟩),
 (281,⟨1,8,false,[.v .nilFunc],.other,[]⟩),
 (282,⟨4,40,true,[.v (.pointer none),.v (.pointer none),.v (.pointer none),.d (.str [])],.struct [(0,17),(1,17),(2,17),(3,9)],[]⟩),
 (287,⟨1,1,false,[.d (.int .u8 0)],.int .u8,[]⟩),
 (288,⟨1,1,false,[.d (.int .u8 0)],.int .u8,[]⟩),
 (290,⟨1,4,false,[.d (.int .i32 0)],.int .i32,[]⟩),
 (291,⟨1,4,false,[.d (.int .i32 0)],.int .i32,[]⟩),
 (293,⟨11,48,true,[.d (.int .u64 0),.d (.int .u64 0),.d (.int .u32 0),.d (.int .u8 0),.d (.int .u8 0),.d (.int .u8 0),.d (.int .u8 0),.v .nilFunc,.v (.pointer none),.d (.int .i32 0),.d (.int .i32 0)],.struct [(0,12),(1,12),(2,26),(3,287),(4,5),(5,5),(6,288),(7,289),(8,176),(9,290),(10,291)],[]⟩),
 (294,⟨1,8,false,[.v .nilFunc],.other,[]⟩)]
def TT(n:Nat):Option TI:=Eng.look types n
set_option maxRecDepth 100000 in
theorem TT_ok:TTok Tryz.prog TT:=TTok_of_check (P:=Tryz.prog) (l:=types) (by kernel_rfl)
theorem mixed:Tryz.prog.follows .mixedOrders=true:=by kernel_rfl
end Go.Proofs.YtdfdlbnojmlpiaaGreatDoor
namespace Go.Proofs.YtdfdlbnojmlpiaaGreatDoor
open Go Go.Eng
def bt(s:List UInt8)(k:Nat):Nat:=(s[k]?.getD 0).toNat
theorem bt_eq(s:List UInt8)(k:Nat):byteAt s (k:Int)=(bt s k:Int):=by
 unfold byteAt bt;simp
theorem bt_lt(s:List UInt8)(k:Nat):bt s k<256:=UInt8.toNat_lt _
def more(s:List UInt8)(k:Nat):Prop:=k<s.length∧¬ bt s k=0∧bt s k≤63∧bt s k<s.length - k
instance (s:List UInt8) (k:Nat):Decidable (more s k):=by unfold more;infer_instance
def endOf(s:List UInt8):Nat→Nat→Nat
 |0,k=>k
 |m+1,k=>if more s k then endOf s m (k+1+bt s k) else k
def lastOf(s:List UInt8):Nat:=endOf s s.length 0
def At(s:List UInt8)(k:Nat):Prop:=k≤s.length∧∃ m,s.length≤k+m∧endOf s m k=lastOf s
theorem At.zero(s:List UInt8):At s 0:=⟨Nat.zero_le _,s.length,by omega,rfl⟩
theorem At.next{s:List UInt8}{k:Nat}(h:At s k)(hm:more s k):At s (k+1+bt s k):=by
 obtain⟨h1,m,h2,h3⟩:=h
 have:=hm
 obtain⟨a1,a2,a3,a4⟩:=this
 cases m with
 |zero=>omega
 |succ m=>exact⟨by omega,m,by omega,by rw[←h3];simp[endOf,hm]⟩
theorem At.last{s:List UInt8}{k:Nat}(h:At s k)(hm:¬ more s k):k=lastOf s:=by
 obtain⟨h1,m,h2,h3⟩:=h
 rw[←h3]
 cases m <;> simp[endOf,hm]
def isName(s:List UInt8):Prop:=0<s.length∧s.length≤255∧lastOf s=s.length - 1∧bt s (lastOf s)=0
instance (s:List UInt8):Decidable (isName s):=by unfold isName;infer_instance
theorem w64_in(n:Int)(h : -9223372036854775808≤n∧n≤9223372036854775807):IntKind.i64.wrap n=n:=by rw[IntKind.wrap_i64];omega
set_option maxRecDepth 100000
set_option maxHeartbeats 2000000 in
theorem check_ok(s:List UInt8):FnOk Tryz.prog 44 [.d (.str s)] (.d (.int .i64 (if isName s then 0 else 2))):=by
 refine fnOk_of_run (TT:=TT) (IN:=lookI [(93,Tryz.f93,1),(154,Tryz.f154,2)]) TT_ok ?_ mixed 1000 Tryz.func44 rfl (enters Tryz.func44 (by kernel_rfl) rfl) rfl 27 (by kernel_rfl) ?_
 ·exact INok_cons (INok_cons INok_nil Tryz.func154 (by kernel_rfl) (by kernel_rfl)) Tryz.func93 (by kernel_rfl) (by kernel_rfl)
 conv=>whnf
 refine⟨fun h1=>?_,fun h1=>?_⟩
 ·have:¬ isName s:=fun hn=>by have a:=hn.1;simp at h1;rw [h1] at a;simp at a
  exact congrArg (DV.int _) (by rw[if_neg this])
 have hpos:0<s.length:=by
  rcases Nat.eq_zero_or_pos s.length with e|e
  ·rw [e] at h1;cases h1
  ·exact e
 conv=>whnf
 refine⟨fun h2=>?_,fun h2=>?_⟩
 ·have:¬ isName s:=fun hn=>by have a:=hn.2.1;simp at h2;omega
  exact congrArg (DV.int _) (by rw[if_neg this])
 have hlen:s.length≤255:=by simp at h2;omega
 conv=>whnf
 refine .inv Nat (fun k=>At s k) (fun k=>[(3,.d (.int .i64 k))]) (fun k=>[(0,.cells 3 [.d (.int .i64 k)])]) (fun k=>s.length - k) ⟨0,[0,1,2],At.zero s,?_⟩ ?_
 ·conv=>whnf
  repeat'(first|exact ⟨⟩|exact rfl|apply And.intro)
 intro k hk
 have hkl:=hk.1
 have hby:=bt_lt s k
 have hwb:IntKind.i64.wrap (byteAt s (k:Int))=(bt s k:Int):=by rw[bt_eq,w64_in _ (by omega)]
 have hwl:IntKind.i64.wrap ((s.length:Int) - 1)=(s.length:Int) - 1:=w64_in _ (by omega)
 have key1:¬ more s k→(((k:Int) != IntKind.i64.wrap ((s.length:Int) - 1))=true)→¬ isName s:=fun hm hne hn=>by
  have:=hk.last hm
  obtain⟨_,_,a,_⟩:=hn
  rw [hwl] at hne
  simp at hne
  omega
 have key2:¬ more s k→(((k:Int) != IntKind.i64.wrap ((s.length:Int) - 1))=false)→(bt s k=0↔isName s)∧k<s.length:=fun hm hne=>by
  have:=hk.last hm
  rw [hwl] at hne
  simp at hne
  unfold isName
  rw[←this]
  omega
 conv=>whnf
 refine⟨fun hlt=>?_,fun hge=>?_⟩
 ·have hlt':k<s.length:=by simpa using hlt
  conv=>whnf
  refine⟨by simp;omega,?_⟩
  conv=>whnf
  refine⟨fun h0=>?_,fun h0=>?_⟩
  ·have hm:¬ more s k:=fun hm=>by rw [hwb] at h0;simp at h0;exact hm.2.1 h0
   conv=>whnf
   refine⟨fun e=>congrArg (DV.int _) (by rw[if_neg (key1 hm e)]),fun e=>?_⟩
   obtain⟨e1,e2⟩:=key2 hm e
   conv=>whnf
   refine⟨by simp;omega,?_⟩
   conv=>whnf
   refine⟨fun hz=>?_,fun hz=>?_⟩
   ·exact congrArg (DV.int _) (by rw [if_neg (fun hn=>by rw [bt_eq] at hz;simp at hz;exact hz (e1.2 hn))])
   ·exact congrArg (DV.int _) (by rw [if_pos (e1.1 (by rw [bt_eq] at hz;simpa using hz))])
  ·have h0':¬ bt s k=0:=by rw [hwb] at h0;simpa using h0
   conv=>whnf
   refine⟨fun h3=>?_,fun h3=>?_⟩
   ·have hm:¬ more s k:=fun hm=>by rw [hwb] at h3;simp at h3;have:=hm.2.2.1;omega
    conv=>whnf
    refine⟨fun e=>congrArg (DV.int _) (by rw[if_neg (key1 hm e)]),fun e=>?_⟩
    obtain⟨e1,e2⟩:=key2 hm e
    conv=>whnf
    refine⟨by simp;omega,?_⟩
    conv=>whnf
    refine⟨fun hz=>?_,fun hz=>?_⟩
    ·exact congrArg (DV.int _) (by rw [if_neg (fun hn=>by rw [bt_eq] at hz;simp at hz;exact hz (e1.2 hn))])
    ·exact congrArg (DV.int _) (by rw [if_pos (e1.1 (by rw [bt_eq] at hz;simpa using hz))])
   ·have h3':bt s k≤63:=by rw [hwb] at h3;simp at h3;omega
    conv=>whnf
    have hws:IntKind.i64.wrap ((s.length:Int) - (k:Int))=(s.length:Int) - k:=w64_in _ (by omega)
    refine⟨fun h4=>?_,fun h4=>?_⟩
    ·have hm:¬ more s k:=fun hm=>by rw [hwb,hws] at h4;simp at h4;have:=hm.2.2.2;omega
     conv=>whnf
     refine⟨fun e=>congrArg (DV.int _) (by rw[if_neg (key1 hm e)]),fun e=>?_⟩
     obtain⟨e1,e2⟩:=key2 hm e
     conv=>whnf
     refine⟨by simp;omega,?_⟩
     conv=>whnf
     refine⟨fun hz=>?_,fun hz=>?_⟩
     ·exact congrArg (DV.int _) (by rw [if_neg (fun hn=>by rw [bt_eq] at hz;simp at hz;exact hz (e1.2 hn))])
     ·exact congrArg (DV.int _) (by rw [if_pos (e1.1 (by rw [bt_eq] at hz;simpa using hz))])
    ·have hm:more s k:=⟨hlt',h0',h3',by rw [hwb,hws] at h4;simp at h4;omega⟩
     conv=>whnf
     refine⟨k+1+bt s k,[0,1,2],hk.next hm,by show s.length - (k+1+bt s k)<s.length - k;omega,?_⟩
     have hnx:IntKind.i64.wrap ((k:Int)+IntKind.i64.wrap (1+IntKind.i64.wrap (byteAt s (k:Int))))=((k+1+bt s k:Nat):Int):=by rw[hwb,w64_in (1+(bt s k:Int)) (by omega),w64_in _ (by omega)];omega
     conv=>whnf
     repeat'(first|exact ⟨⟩|exact rfl|apply And.intro)
     all_goals exact congrArg SV.d (congrArg (DV.int _) hnx)
 ·have hm:¬ more s k:=fun hm=>by have:=hm.1;simp at hge;omega
  conv=>whnf
  refine⟨fun e=>congrArg (DV.int _) (by rw[if_neg (key1 hm e)]),fun e=>?_⟩
  obtain⟨e1,e2⟩:=key2 hm e
  conv=>whnf
  refine⟨by simp;omega,?_⟩
  conv=>whnf
  refine⟨fun hz=>?_,fun hz=>?_⟩
  ·exact congrArg (DV.int _) (by rw [if_neg (fun hn=>by rw [bt_eq] at hz;simp at hz;exact hz (e1.2 hn))])
  ·exact congrArg (DV.int _) (by rw [if_pos (e1.1 (by rw [bt_eq] at hz;simpa using hz))])
end Go.Proofs.YtdfdlbnojmlpiaaGreatDoor
namespace Go.Proofs.YtdfdlbnojmlpiaaGreatDoor
open Go Go.Eng
def low(b:UInt8):UInt8:=if 65≤b∧b≤90 then b+32 else b
def fold(s:List UInt8):List UInt8:=s.map low
theorem low_nat(b:UInt8):(low b).toNat=if 65≤b.toNat∧b.toNat≤90 then b.toNat+32 else b.toNat:=by
 unfold low
 have e1:(65≤b)↔65≤b.toNat:=by rw[UInt8.le_iff_toNat_le];rfl
 have e2:(b≤90)↔b.toNat≤90:=by rw[UInt8.le_iff_toNat_le];rfl
 simp only[e1,e2]
 split
 ·rw[UInt8.toNat_add]
  have:(32:UInt8).toNat=32:=rfl
  omega
 ·rfl
def mix(s:List UInt8)(k j:Nat):Int:=if j<k then ((low (s[j]?.getD 0)).toNat:Int) else (bt s j:Int)
set_option maxRecDepth 100000
set_option maxHeartbeats 2000000 in
theorem fold_ok(s:List UInt8)(hs:s.length<9223372036854775808):FnOk Tryz.prog 116 [.d (.str s)] (.d (.str (fold s))):=by
 refine fnOk_of_run (TT:=TT) (IN:=lookI []) TT_ok INok_nil mixed 1000 Tryz.func116 rfl (enters Tryz.func116 (by kernel_rfl) rfl) rfl 28 (by kernel_rfl) ?_
 conv=>whnf
 refine .inv Nat (fun k=>k≤s.length) (fun k=>[(10,.d (.int .i64 k))]) (fun k=>[(0,.row 5 1 s.length .no (fun j=>[.int .u8 (mix s k j)]))]) (fun k=>s.length - k) ⟨0,[0],by omega,?_⟩ ?_
 ·conv=>whnf
  repeat'(first|exact ⟨⟩|exact rfl|apply And.intro)
  intro i hi
  simp[mix,bt_eq]
 intro k hk
 have hk1:k<s.length→IntKind.i64.wrap ((k:Int)+1)=((k+1:Nat):Int):=fun _=>by rw[w64_in _ (by omega)];omega
 conv=>whnf
 refine⟨fun hlt=>?_,fun hge=>?_⟩
 ·have hlt':k<s.length:=by simpa using hlt
  conv=>whnf
  refine⟨by simp;omega,?_⟩
  have hmk:mix s k (Int.toNat (k:Int))=(bt s k:Int):=by simp[mix]
  have hb:=bt_lt s k
  conv=>whnf
  have stay:¬ (65≤bt s k∧bt s k≤90)→∀ i,i<s.length→[DV.int IntKind.u8 (mix s k i)]=[DV.int IntKind.u8 (mix s (k+1) i)]:=fun hn i hi=>by
   unfold mix
   by_cases e:i=k
   ·subst e
    rw [if_neg (by omega),if_pos (by omega),low_nat,if_neg (by unfold bt at hn;exact hn)]
    rfl
   ·by_cases e2:i<k
    ·rw[if_pos e2,if_pos (by omega)]
    ·rw[if_neg e2,if_neg (by omega)]
  rw[hmk]
  refine⟨fun h1=>?_,fun h1=>?_⟩
  ·conv=>whnf
   refine⟨fun h2=>?_,fun h2=>?_⟩
   ·conv=>whnf
    refine⟨by simp;omega,?_⟩
    conv=>whnf
    refine⟨k+1,[0],by omega,by show s.length - (k+1)<s.length - k;omega,?_⟩
    conv=>whnf
    repeat'(first|exact ⟨⟩|exact rfl|apply And.intro)
    all_goals first
     |exact congrArg SV.d (congrArg (DV.int _) (hk1 hlt'))
     |exact stay (by simp at h1 h2;omega)
     |(
      intro i hi
      show oneF _ _ _ _ i=_
      unfold oneF mix
      simp at h1 h2
      by_cases e:i=k
      ·subst e
       simp only[Int.toNat_natCast,if_true,putD,List.set_cons_zero]
       rw [if_pos (by omega),low_nat,if_pos (by unfold bt at h1 h2;omega),IntKind.wrap_u8]
       unfold bt at *
       congr 2
       omega
      ·rw[if_neg (by simpa using e)]
       show[DV.int _ _]=[DV.int _ _]
       by_cases e2:i<k
       ·rw[if_pos e2,if_pos (by omega)]
       ·rw[if_neg e2,if_neg (by omega)])
   ·conv=>whnf
    refine⟨k+1,[0],by omega,by show s.length - (k+1)<s.length - k;omega,?_⟩
    conv=>whnf
    repeat'(first|exact ⟨⟩|exact rfl|apply And.intro)
    all_goals first
     |exact congrArg SV.d (congrArg (DV.int _) (hk1 hlt'))
     |exact stay (by simp at h1 h2;omega)
     |(
      intro i hi
      show oneF _ _ _ _ i=_
      unfold oneF mix
      simp at h1 h2
      by_cases e:i=k
      ·subst e
       simp only[Int.toNat_natCast,if_true,putD,List.set_cons_zero]
       rw [if_pos (by omega),low_nat,if_pos (by unfold bt at h1 h2;omega),IntKind.wrap_u8]
       unfold bt at *
       congr 2
       omega
      ·rw[if_neg (by simpa using e)]
       show[DV.int _ _]=[DV.int _ _]
       by_cases e2:i<k
       ·rw[if_pos e2,if_pos (by omega)]
       ·rw[if_neg e2,if_neg (by omega)])
  ·conv=>whnf
   refine⟨k+1,[0],by omega,by show s.length - (k+1)<s.length - k;omega,?_⟩
   conv=>whnf
   repeat'(first|exact ⟨⟩|exact rfl|apply And.intro)
   all_goals first
    |exact congrArg SV.d (congrArg (DV.int _) (hk1 hlt'))
    |exact stay (by simp at h1;omega)
    |(
     intro i hi
     show oneF _ _ _ _ i=_
     unfold oneF mix
     simp at h1
     by_cases e:i=k
     ·subst e
      simp only[Int.toNat_natCast,if_true,putD,List.set_cons_zero]
      rw [if_pos (by omega),low_nat,if_pos (by unfold bt at h1;omega),IntKind.wrap_u8]
      unfold bt at *
      congr 2
      omega
     ·rw[if_neg (by simpa using e)]
      show[DV.int _ _]=[DV.int _ _]
      by_cases e2:i<k
      ·rw[if_pos e2,if_pos (by omega)]
      ·rw[if_neg e2,if_neg (by omega)])
 ·have hke:k=s.length:=by simp at hge;omega
  subst hke
  conv=>whnf
  refine⟨fun i _=>⟨_,rfl⟩,?_⟩
  conv=>whnf
  refine congrArg DV.str ?_
  unfold bytesOf fold
  apply List.ext_getElem?
  intro i
  rw[List.getElem?_map,List.getElem?_map]
  by_cases hi:i<s.length
  ·rw[List.getElem?_range hi,List.getElem?_eq_getElem hi]
   simp[mix,hi]
  ·rw[List.getElem?_eq_none (by simp;omega),List.getElem?_eq_none (by omega)]
   rfl
end Go.Proofs.YtdfdlbnojmlpiaaGreatDoor
namespace Go.Proofs.YtdfdlbnojmlpiaaGreatDoor
open Go Go.Eng
def okL(l:List UInt8):Prop:=1≤l.length∧l.length≤63
def lab(l:List UInt8):List UInt8:=UInt8.ofNat l.length :: l
def mk:List (List UInt8)→List UInt8
 |[]=>[0]
 |l :: ls=>lab l++mk ls
theorem bt_drop(s:List UInt8)(k j:Nat):bt (s.drop k) j=bt s (k+j):=by simp[bt]
theorem more_drop(s:List UInt8)(k:Nat):more s k↔more (s.drop k) 0:=by
 unfold more
 rw[bt_drop,Nat.add_zero,List.length_drop]
 omega
theorem endOf_drop:∀ (m:Nat) (s:List UInt8) (k:Nat),endOf s m k=k+endOf (s.drop k) m 0
 |0,s,k=>rfl
 |m+1,s,k=>by
  simp only[endOf]
  by_cases h:more s k
  ·rw[if_pos h,if_pos ((more_drop s k).1 h),endOf_drop m s,endOf_drop m (s.drop k),bt_drop,List.drop_drop,show k+0=k from rfl]
   have e:k+(0+1+bt s k)=k+1+bt s k:=by omega
   rw[e]
   omega
  ·rw[if_neg h,if_neg (fun e=>h ((more_drop s k).2 e))]
   rfl
theorem toNat_ofNat{n:Nat}(h:n<256):(UInt8.ofNat n).toNat=n:=by
 rw[UInt8.toNat_ofNat'];exact Nat.mod_eq_of_lt h
theorem bt_lab(l t:List UInt8)(h:okL l):bt (lab l++t) 0=l.length:=by
 simp only[bt,lab,List.cons_append,List.getElem?_cons_zero,Option.getD_some]
 exact toNat_ofNat (by have:=h.2;omega)
theorem lab_len(l:List UInt8):(lab l).length=1+l.length:=by simp[lab];omega
theorem mk_pos(ls:List (List UInt8)):0<(mk ls).length:=by cases ls <;> simp[mk,lab]
theorem drop_lab(l t:List UInt8):(lab l++t).drop (1+l.length)=t:=by
 rw[←lab_len l,List.drop_left]
theorem name_of:∀ (m:Nat) (s:List UInt8),0<s.length→endOf s m 0=s.length - 1→bt s (s.length - 1)=0→∃ ls,(∀ l ∈ ls,okL l)∧s=mk ls
 |m,s,h0,h1,h2=>by
  have leaf:s.length=1→∃ ls,(∀ l ∈ ls,okL l)∧s=mk ls:=fun hl=>by
   match s,hl with
   |[b],_ =>
    refine⟨[],(fun l h=>by cases h),?_⟩
    have:b.toNat=0:=by simpa[bt] using h2
    rw[mk,UInt8.toNat_inj.1 (show b.toNat=(0:UInt8).toNat from this)]
  cases m with
  |zero=>exact leaf (by simp [endOf] at h1;omega)
  |succ m =>
   simp only [endOf] at h1
   split at h1
   ·rename_i hm
    obtain⟨a1,a2,a3,a4⟩:=hm
    rw [endOf_drop] at h1
    have hb:1+bt s 0<s.length:=by omega
    obtain⟨ls,i1,i2⟩:=name_of m (s.drop (0+1+bt s 0)) (by rw[List.length_drop];omega) (by rw[List.length_drop];omega) (by
     rw[bt_drop,List.length_drop,show 0+1+bt s 0+(s.length - (0+1+bt s 0) - 1)=s.length - 1 by omega]
     exact h2)
    refine⟨(s.drop 1).take (bt s 0) :: ls,fun l hl=>?_,?_⟩
    ·rcases List.mem_cons.1 hl with rfl|hl
     ·have:((s.drop 1).take (bt s 0)).length=bt s 0:=by simp;omega
      unfold okL
      omega
     ·exact i1 l hl
    ·rw[mk,←i2]
     have hlen:((s.drop 1).take (bt s 0)).length=bt s 0:=by simp;omega
     unfold lab
     rw[hlen]
     match s,a1 with
     |b :: r,_ =>
      have e:bt (b :: r) 0=b.toNat:=by simp[bt]
      rw[e]
      simp[show 0+1+b.toNat=b.toNat+1 by omega]
   ·exact leaf (by omega)
theorem endOf_mk(ls:List (List UInt8))(h:∀ l ∈ ls,okL l):∀ m,(mk ls).length≤m→endOf (mk ls) m 0=(mk ls).length - 1:=by
 induction ls with
 |nil =>
  intro m hm
  cases m with
  |zero=>rfl
  |succ m =>
   show(if more [0] 0 then endOf [0] m (0+1+bt [0] 0) else 0)=0
   exact if_neg (by rintro ⟨_,h2,_⟩;exact h2 rfl)
 |cons l ls ih =>
  intro m hm
  have hl:=h l (List.mem_cons_self ..)
  have hb:=bt_lab l (mk ls) hl
  have hlen:(mk (l :: ls)).length=1+l.length+(mk ls).length:=by simp[mk,lab_len]
  have hp:=mk_pos ls
  cases m with
  |zero=>omega
  |succ m =>
   simp only[endOf]
   show(if more (mk (l :: ls)) 0 then endOf (mk (l :: ls)) m (0+1+bt (mk (l :: ls)) 0) else 0)=_
   have hbm:bt (mk (l :: ls)) 0=l.length:=hb
   rw[if_pos ⟨by omega,by rw[hbm];have:=hl.1;omega,by rw[hbm];exact hl.2,by rw[hbm];omega⟩,hbm,endOf_drop,Nat.zero_add]
   have:(mk (l :: ls)).drop (1+l.length)=mk ls:=drop_lab l (mk ls)
   rw[this,ih (fun x hx=>h x (List.mem_cons_of_mem _ hx)) m (by omega)]
   omega
theorem last_mk(ls:List (List UInt8)):bt (mk ls) ((mk ls).length - 1)=0:=by
 induction ls with
 |nil=>rfl
 |cons l ls ih =>
  have hlen:(mk (l :: ls)).length=1+l.length+(mk ls).length:=by simp[mk,lab_len]
  have hp:=mk_pos ls
  have e:(mk (l :: ls)).drop (1+l.length)=mk ls:=drop_lab l (mk ls)
  have:=bt_drop (mk (l :: ls)) (1+l.length) ((mk ls).length - 1)
  rw [e,ih] at this
  rw[hlen,show 1+l.length+(mk ls).length - 1=1+l.length+((mk ls).length - 1) by omega]
  exact this.symm
theorem isName_iff(s:List UInt8):isName s↔s.length≤255∧∃ ls,(∀ l ∈ ls,okL l)∧s=mk ls:=by
 constructor
 ·rintro ⟨h1,h2,h3,h4⟩
  exact⟨h2,name_of s.length s h1 h3 (by rw[←h3];exact h4)⟩
 ·rintro ⟨h1,ls,h2,rfl⟩
  have:=endOf_mk ls h2 (mk ls).length (Nat.le_refl _)
  exact⟨mk_pos ls,h1,this,by unfold lastOf;rw[this];exact last_mk ls⟩
end Go.Proofs.YtdfdlbnojmlpiaaGreatDoor
namespace Go.Proofs.YtdfdlbnojmlpiaaGreatDoor
open Go Go.Eng
def firstF(s:List UInt8):Nat→Nat→Nat
 |0,_=>0
 |m+1,k=>if k<s.length∧k<255 then (if bt s k=0 then (if isName (s.take (k+1)) then k+1 else 0) else firstF s m (k+1+bt s k)) else 0
def firstN(s:List UInt8):Nat:=firstF s 256 0
def FAt(s:List UInt8)(k:Nat):Prop:=k≤510∧∃ m,256≤k+m∧firstF s m k=firstN s
theorem FAt.zero(s:List UInt8):FAt s 0:=⟨by omega,256,by omega,rfl⟩
theorem FAt.step{s:List UInt8}{k:Nat}(h:FAt s k)(h1:k<s.length)(h2:k<255):(firstN s=if bt s k=0 then (if isName (s.take (k+1)) then k+1 else 0) else firstN s)∧(bt s k≠0→FAt s (k+1+bt s k)):=by
 obtain⟨hk,m,hm,e⟩:=h
 cases m with
 |zero=>omega
 |succ m =>
  simp only [firstF,h1,h2,and_self,if_true] at e
  have:=bt_lt s k
  refine⟨?_,fun hb=>⟨by omega,m,by omega,?_⟩⟩
  ·split
   ·rename_i hb;rw [if_pos hb] at e;exact e.symm
   ·rfl
  ·rw [if_neg hb] at e;exact e
theorem FAt.last{s:List UInt8}{k:Nat}(h:FAt s k)(h1:¬ (k<s.length∧k<255)):firstN s=0:=by
 obtain⟨hk,m,hm,e⟩:=h
 rw[←e]
 cases m with
 |zero=>rfl
 |succ m=>simp only[firstF,if_neg h1]
theorem brT{b:Bool}{p q:Prop}(h:b=true)(hp:p):(b=true→p)∧(b=false→q):=⟨fun _=>hp,fun e=>(by rw [h] at e;cases e)⟩
theorem brF{b:Bool}{p q:Prop}(h:b=false)(hq:q):(b=true→p)∧(b=false→q):=⟨fun e=>(by rw [h] at e;cases e),fun _=>hq⟩
set_option maxRecDepth 100000
def strs(l:List (List UInt8))(i:Nat):List DV:=[.str (l[i]?.getD [])]
theorem strs_cat(l:List (List UInt8))(x:List UInt8)(g:Nat→List DV)(hg:g 0=[.str x]):∀ i,i<l.length+1→catF l.length (strs l) g i=strs (l++[x]) i:=fun i hi=>by
 unfold catF strs
 split
 ·rename_i h;rw[List.getElem?_append_left h]
 ·rename_i h
  have:i=l.length:=by omega
  subst this
  simp[hg]
theorem DEq_refl(x:DV):DEq x x:=by
 cases x <;> simp[DEq]
theorem firstF_le(s:List UInt8):∀ m k,firstF s m k≤s.length∧firstF s m k≤255:=by
 intro m
 induction m with
 |zero=>intro k;simp[firstF]
 |succ m ih =>
  intro k
  simp only[firstF]
  split
  ·split
   ·split
    ·omega
    ·omega
   ·exact ih _
  ·omega
theorem firstN_le(s:List UInt8):firstN s≤s.length∧firstN s≤255:=firstF_le s _ _
def errno(b:Bool):Int:=if b then 0 else 2
theorem lenEq(s:List UInt8)(n:Nat):((s.length:Int) == (n:Int))=(s.length == n):=by
 rw[Bool.eq_iff_iff];simp;omega
end Go.Proofs.YtdfdlbnojmlpiaaGreatDoor
namespace Go.Proofs.YtdfdlbnojmlpiaaGreatDoor
open Go Go.Eng
def bytesF(s:List UInt8):Nat→List DV:=fun j=>[.int .u8 (byteAt s j)]
def restsM:List (List UInt8 × Int)→List (List DV × List SV)
 |[]=>[]
 |e :: l=>([.str e.1],[.d (.int .i64 e.2)]) :: restsM l
theorem renM_rests(ρ:List Nat)(l:List (List UInt8 × Int)):renM ρ (restsM l)=restsM l:=by
 induction l with
 |nil=>rfl
 |cons e l ih=>simp[restsM,renM,renL,renV,ih]
theorem byteAt_cat(a b:List UInt8)(i:Nat)(h:i<a.length+b.length):catF a.length (bytesF a) (fun j=>[.int .u8 (byteAt b j)]) i=bytesF (a++b) i:=by
 unfold catF bytesF byteAt
 split
 ·rename_i hl
  simp[List.getElem?_append_left hl]
 ·rename_i hl
  simp[List.getElem?_append_right (show a.length≤i by omega)]
set_option maxRecDepth 100000
theorem bytesOf_bytesF(s:List UInt8):bytesOf s.length (bytesF s)=s:=by
 apply List.ext_getElem?
 intro i
 unfold bytesOf
 rw[List.getElem?_map]
 by_cases h:i<s.length
 ·rw[List.getElem?_range h,List.getElem?_eq_getElem h]
  simp[bytesF,byteAt,h]
 ·rw[List.getElem?_eq_none (by simp;omega),List.getElem?_eq_none (by omega)]
  rfl
end Go.Proofs.YtdfdlbnojmlpiaaGreatDoor
namespace Go.Proofs.YtdfdlbnojmlpiaaGreatDoor
open Go Go.Eng
def labs:List (List UInt8)→List UInt8
 |[]=>[]
 |l :: ls=>lab l++labs ls
theorem labs_append(a b:List (List UInt8)):labs (a++b)=labs a++labs b:=by
 induction a with
 |nil=>rfl
 |cons l a ih=>simp[labs,ih]
theorem labs_mk(a:List (List UInt8)):labs a++[0]=mk a:=by
 induction a with
 |nil=>rfl
 |cons l a ih=>simp[labs,mk,←ih]
theorem labs_snoc(ls:List (List UInt8))(l:List UInt8):labs (ls++[l])=labs ls++lab l:=by
 rw[labs_append]
 simp[labs]
theorem firstF_name(s:List UInt8):∀ m k,firstF s m k≠0→isName (s.take (firstF s m k)):=by
 intro m
 induction m with
 |zero=>intro k h;exact absurd rfl h
 |succ m ih =>
  intro k h
  simp only [firstF] at h ⊢
  split at h
  ·rename_i h1
   rw[if_pos h1]
   split at h
   ·rename_i h2
    rw[if_pos h2]
    split at h
    ·rename_i h3
     rw[if_pos h3]
     exact h3
    ·exact absurd rfl h
   ·rename_i h2
    rw[if_neg h2]
    exact ih _ h
  ·exact absurd rfl h
end Go.Proofs.YtdfdlbnojmlpiaaGreatDoor
namespace Go.Proofs.YtdfdlbnojmlpiaaGreatDoor
open Go Go.Eng
def splitN:Nat→List UInt8→Option (List (List UInt8))
 |0,_=>none
 |m+1,r=>if r.length=0 then none else if bt r 0=0 then (if r.length=1 then some [] else none) else
  if bt r 0 > 63∨1+bt r 0 > r.length then none else (splitN m (r.drop (1+bt r 0))).map (fun ls=>(r.drop 1).take (bt r 0) :: ls)
def labelsOf(s:List UInt8):Option (List (List UInt8)):=if s.length > 255 then none else splitN (s.length+1) s
theorem mk_len_cons0(l:List UInt8)(ls:List (List UInt8)):(mk (l :: ls)).length=1+l.length+(mk ls).length:=by simp[mk,lab_len]
theorem splitN_mk:∀ (m:Nat) (r:List UInt8) (ls:List (List UInt8)),splitN m r=some ls→(∀ l ∈ ls,okL l)∧r=mk ls
 |0,_,_,h=>by cases h
 |m+1,r,ls,h=>by
  unfold splitN at h
  split at h
  ·cases h
  ·rename_i h0
   split at h
   ·rename_i h1
    split at h
    ·rename_i h2
     cases h
     refine⟨fun l hl=>(by cases hl),?_⟩
     match r,h2 with
     |[b],_ =>
      have:b.toNat=0:=by simpa[bt] using h1
      rw[mk,UInt8.toNat_inj.1 (show b.toNat=(0:UInt8).toNat from this)]
    ·cases h
   ·rename_i h1
    split at h
    ·cases h
    ·rename_i h2
     obtain⟨ks,hk,rfl⟩:=Option.map_eq_some_iff.1 h
     obtain⟨a1,a2⟩:=splitN_mk m _ ks hk
     have hlen:((r.drop 1).take (bt r 0)).length=bt r 0:=by simp;omega
     refine⟨fun l hl=>?_,?_⟩
     ·rcases List.mem_cons.1 hl with rfl|hl
      ·unfold okL;omega
      ·exact a1 l hl
     ·rw[mk,←a2]
      unfold lab
      rw[hlen]
      match r,h0 with
      |b :: r,_ =>
       have e:bt (b :: r) 0=b.toNat:=by simp[bt]
       rw[e]
       simp[show 1+b.toNat=b.toNat+1 by omega]
theorem splitN_of:∀ (ls:List (List UInt8)) (m:Nat),(∀ l ∈ ls,okL l)→(mk ls).length≤m→splitN m (mk ls)=some ls
 |[],m,_,hm=>by
  cases m with
  |zero =>
   have:(mk []).length=1:=rfl
   omega
  |succ m=>rfl
 |l :: ls,m,h,hm=>by
  have hl:=h l (List.mem_cons_self ..)
  have hlen:=mk_len_cons0 l ls
  have hp:=mk_pos ls
  cases m with
  |zero=>omega
  |succ m =>
   have hb:bt (mk (l :: ls)) 0=l.length:=bt_lab l (mk ls) hl
   have h1:=hl.1
   have h2:=hl.2
   unfold splitN
   rw[if_neg (by omega),hb,if_neg (by omega),if_neg (by omega)]
   have hd:(mk (l :: ls)).drop (1+l.length)=mk ls:=drop_lab l (mk ls)
   rw[hd,splitN_of ls m (fun x hx=>h x (List.mem_cons_of_mem _ hx)) (by omega)]
   show some ((((mk (l :: ls)).drop 1).take l.length) :: ls)=_
   have:((mk (l :: ls)).drop 1)=l++mk ls:=rfl
   rw[this,List.take_left]
theorem labelsOf_mk{s:List UInt8}{ls:List (List UInt8)}(h:labelsOf s=some ls):s.length≤255∧(∀ l ∈ ls,okL l)∧s=mk ls:=by
 unfold labelsOf at h
 split at h
 ·cases h
 ·exact⟨by omega,splitN_mk _ _ _ h⟩
theorem labelsOf_of{ls:List (List UInt8)}(h:∀ l ∈ ls,okL l)(hl:(mk ls).length≤255):labelsOf (mk ls)=some ls:=by
 unfold labelsOf
 rw[if_neg (by omega)]
 exact splitN_of ls _ h (by omega)
theorem isName_labels(s:List UInt8):isName s↔(labelsOf s).isSome=true:=by
 rw[isName_iff]
 constructor
 ·rintro ⟨h1,ls,h2,rfl⟩
  rw[labelsOf_of h2 h1]
  rfl
 ·intro h
  obtain⟨ls,hls⟩:=Option.isSome_iff_exists.1 h
  obtain⟨h1,h2,h3⟩:=labelsOf_mk hls
  exact⟨h1,ls,h2,h3⟩
end Go.Proofs.YtdfdlbnojmlpiaaGreatDoor
namespace Go.Proofs.YtdfdlbnojmlpiaaGreatDoor
open Go Go.Eng
def labN(n:List UInt8):List (List UInt8):=(labelsOf n).getD []
def fl(n:List UInt8):List (List UInt8):=(labN n).map fold
theorem labN_of{n:List UInt8}(h:isName n):n.length≤255∧(∀ l ∈ labN n,okL l)∧n=mk (labN n):=by
 obtain⟨ls,e⟩:=Option.isSome_iff_exists.1 ((isName_labels n).1 h)
 have:=labelsOf_mk e
 unfold labN
 rw[e]
 exact this
def posN2(ls:List (List UInt8))(i:Nat):Nat:=(labs (ls.take i)).length
theorem posN2_succ{ls:List (List UInt8)}{i:Nat}{l:List UInt8}(h:ls[i]? = some l):posN2 ls (i+1)=posN2 ls i+1+l.length:=by
 unfold posN2
 rw[List.take_add_one,h]
 show(labs (ls.take i++[l])).length=_
 rw[labs_append,List.length_append]
 show _+(lab l++[]).length=_
 rw[List.append_nil,lab_len];omega
theorem mk_labs:∀ (a b:List (List UInt8)),mk (a++b)=labs a++mk b
 |[],_=>rfl
 |l :: a,b=>by
  show lab l++mk (a++b)=(lab l++labs a)++mk b
  rw[mk_labs a b,List.append_assoc]
theorem drop_pos(ls:List (List UInt8))(i:Nat):(mk ls).drop (posN2 ls i)=mk (ls.drop i):=by
 have e:mk ls=labs (ls.take i)++mk (ls.drop i):=by rw[←mk_labs,List.take_append_drop]
 unfold posN2
 conv=>lhs;rw[e]
 rw[List.drop_left]
theorem pos_lt(ls:List (List UInt8))(i:Nat):posN2 ls i<(mk ls).length:=by
 have e:mk ls=labs (ls.take i)++mk (ls.drop i):=by rw[←mk_labs,List.take_append_drop]
 rw[e,List.length_append]
 have:=mk_pos (ls.drop i)
 unfold posN2;omega
theorem pos_len(ls:List (List UInt8))(i:Nat):posN2 ls i+(mk (ls.drop i)).length=(mk ls).length:=by
 have e:mk ls=labs (ls.take i)++mk (ls.drop i):=by rw[←mk_labs,List.take_append_drop]
 conv=>rhs;rw[e]
 rw[List.length_append];rfl
theorem bt_pos{ls:List (List UInt8)}(h:∀ l ∈ ls,okL l){i:Nat}{l:List UInt8}(hi:ls[i]? = some l):bt (mk ls) (posN2 ls i)=l.length:=by
 have hd:=drop_pos ls i
 have hlt:=(List.getElem?_eq_some_iff.1 hi).1
 have e:ls.drop i=l :: ls.drop (i+1):=by
  rw[List.drop_eq_getElem_cons hlt,(List.getElem?_eq_some_iff.1 hi).2]
 have:=bt_drop (mk ls) (posN2 ls i) 0
 rw [Nat.add_zero] at this
 rw[←this,hd,e]
 exact bt_lab l (mk (ls.drop (i+1))) (h l (List.mem_of_getElem? hi))
theorem bt_end(ls:List (List UInt8)):bt (mk ls) (posN2 ls ls.length)=0:=by
 have hd:=drop_pos ls ls.length
 have:=bt_drop (mk ls) (posN2 ls ls.length) 0
 rw [Nat.add_zero] at this
 rw[←this,hd,List.drop_length];rfl
theorem pos_end(ls:List (List UInt8)):posN2 ls ls.length+1=(mk ls).length:=by
 have:=pos_len ls ls.length
 rw [List.drop_length] at this
 exact this
theorem label_at{ls:List (List UInt8)}{i:Nat}{l:List UInt8}(hi:ls[i]? = some l):((mk ls).drop (posN2 ls i+1)).take l.length=l:=by
 have hd:=drop_pos ls i
 have hlt:=(List.getElem?_eq_some_iff.1 hi).1
 have e:ls.drop i=l :: ls.drop (i+1):=by
  rw[List.drop_eq_getElem_cons hlt,(List.getElem?_eq_some_iff.1 hi).2]
 rw[←List.drop_drop,hd,e]
 show((UInt8.ofNat l.length :: l++mk (ls.drop (i+1))).drop 1).take l.length=l
 simp
end Go.Proofs.YtdfdlbnojmlpiaaGreatDoor
namespace Go.Proofs.YtdfdlbnojmlpiaaGreatDoor
open Go Go.Eng
def AnL:List SV→List SV→Prop
 |[],[]=>True
 |a :: l,b :: m=>(b = .any∨a=b)∧AnL l m
 |_,_=>False
theorem AnL.len:∀ {l m:List SV},AnL l m→l.length=m.length
 |[],[],_=>rfl
 |_ :: _,_ :: _,h=>congrArg (· + 1) (AnL.len h.2)
theorem AnL.at:∀ {l m:List SV},AnL l m→∀ (j:Nat) (s t:SV),l[j]? = some s→m[j]? = some t→t = .any∨s=t
 |[],[],_,_,_,_,ht,_=>by simp at ht
 |_ :: _,_ :: _,h,0,s,t,hs,ht=>by simp at hs ht;subst hs ht;exact h.1
 |_ :: l,_ :: m,h,j+1,s,t,hs,ht=>AnL.at (l:=l) (m:=m) h.2 j s t (by simpa using hs) (by simpa using ht)
theorem subZ_self{n:Nat}(z:Z):SubZ n z z:=by cases z <;> exact True.intro
def iV(x:Nat):SV:=.d (.int .i64 (x:Int))
end Go.Proofs.YtdfdlbnojmlpiaaGreatDoor
namespace Go.Proofs.YtdfdlbnojmlpiaaGreatDoor
open Go Go.Eng
instance (s:List UInt8):Decidable (isName s):=by unfold isName;infer_instance
theorem sub_drop(s:List UInt8)(a:Nat):sub s (a:Int) (s.length:Int)=s.drop a:=by
 unfold sub
 rw[Int.toNat_natCast,Int.toNat_natCast,List.take_of_length_le (by simp)]
end Go.Proofs.YtdfdlbnojmlpiaaGreatDoor
namespace Go.Proofs.YtdfdlbnojmlpiaaGreatDoor
open Go Go.Eng
def escB(c:UInt8):List UInt8 :=
 if c=46∨c=92 then [92,c] else if 33≤c.toNat∧c.toNat≤126 then [c] else [92,UInt8.ofNat (48+c.toNat / 100),UInt8.ofNat (48+c.toNat / 10 % 10),UInt8.ofNat (48+c.toNat % 10)]
def escL:List UInt8→List UInt8
 |[]=>[]
 |c :: l=>escB c++escL l
def txtL:List (List UInt8)→List UInt8
 |[]=>[]
 |l :: ls=>escL l++46 :: txtL ls
def txtN(n:List UInt8):List UInt8:=if n=[0] then [46] else txtL (labN n)
def isDig(c:UInt8):Bool:=decide (48≤c.toNat∧c.toNat≤57)
def behB:List UInt8→UInt8 × Nat
 |[]=>(0,0)
 |c :: r=>if isDig c then (match r with
  |d :: e :: _=>if isDig d then (if isDig e then (if 100 * (c.toNat - 48)+10 * (d.toNat - 48)+(e.toNat - 48)≤255 then (UInt8.ofNat (100 * (c.toNat - 48)+10 * (d.toNat - 48)+(e.toNat - 48)),3) else (0,0)) else (0,0)) else (0,0)
  |_=>(0,0)) else (c,1)
def tcut:Nat→List UInt8→List UInt8→List (List UInt8)→Option (List (List UInt8))
 |0,_,_,_=>none
 |_+1,[],l,ls=>if l=[] then (if ls=[] then none else some ls) else some (ls++[l])
 |m+1,c :: r,l,ls=>if c=46 then (if l=[] then none else tcut m r [] (ls++[l])) else
  if c=92 then (if (behB r).2=0 then none else tcut m (r.drop (behB r).2) (l++[(behB r).1]) ls) else
  if 33≤c.toNat∧c.toNat≤126 then tcut m r (l++[c]) ls else none
theorem tcut_more:∀ (m m':Nat) (r l:List UInt8) (ls:List (List UInt8)),r.length<m→r.length<m'→tcut m r l ls=tcut m' r l ls
 |0,_,r,_,_,h,_=>absurd h (Nat.not_lt_zero _)
 |_,0,r,_,_,_,h=>absurd h (Nat.not_lt_zero _)
 |m+1,m'+1,[],l,ls,_,_=>rfl
 |m+1,m'+1,c :: r,l,ls,h,h'=>by
  simp only [List.length_cons] at h h'
  have hd:=List.length_drop (l:=r) (i:=(behB r).2)
  simp only[tcut]
  split
  ·split
   ·rfl
   ·exact tcut_more m m' r _ _ (by omega) (by omega)
  ·split
   ·split
    ·rfl
    ·exact tcut_more m m' _ _ _ (by omega) (by omega)
   ·split
    ·exact tcut_more m m' r _ _ (by omega) (by omega)
    ·rfl
theorem behB_dig:∀ n,n<256→isDig (UInt8.ofNat (48+n / 100))=true∧isDig (UInt8.ofNat (48+n / 10 % 10))=true∧isDig (UInt8.ofNat (48+n % 10))=true ∧
 100 * ((UInt8.ofNat (48+n / 100)).toNat - 48)+10 * ((UInt8.ofNat (48+n / 10 % 10)).toNat - 48)+((UInt8.ofNat (48+n % 10)).toNat - 48)=n:=by decide +kernel
theorem tcut_esc(m:Nat)(c:UInt8)(r l:List UInt8)(ls:List (List UInt8))(hm:(escB c++r).length<m):tcut m (escB c++r) l ls=tcut m r (l++[c]) ls:=by
 obtain⟨m,rfl⟩:∃ k,m=k+1:=⟨m - 1,by omega⟩
 unfold escB at hm ⊢
 split
 ·rename_i h
  rw [if_pos h] at hm
  simp only [List.cons_append,List.nil_append,List.length_cons] at hm
  have hnd:isDig c=false:=by rcases h with rfl|rfl <;> rfl
  have hb:behB (c :: r)=(c,1):=by simp[behB,hnd]
  show tcut (m+1) (92 :: c :: r) l ls=_
  simp only[tcut]
  rw[if_neg (by decide),if_pos trivial,hb]
  simp only
  rw[if_neg (by decide)]
  exact tcut_more _ _ _ _ _ (show r.length<m by omega) (show r.length<m+1 by omega)
 ·rename_i h
  rw [if_neg h] at hm
  split
  ·rename_i h2
   rw [if_pos h2] at hm
   simp only [List.cons_append,List.nil_append,List.length_cons] at hm
   show tcut (m+1) (c :: r) l ls=_
   simp only[tcut]
   rw[if_neg (fun e=>h (.inl e)),if_neg (fun e=>h (.inr e)),if_pos h2]
   exact tcut_more _ _ _ _ _ (by omega) (by omega)
  ·rename_i h2
   rw [if_neg h2] at hm
   simp only [List.cons_append,List.nil_append,List.length_cons] at hm
   obtain⟨d1,d2,d3,d4⟩:=behB_dig c.toNat (UInt8.toNat_lt _)
   have hb:behB (UInt8.ofNat (48+c.toNat / 100) :: UInt8.ofNat (48+c.toNat / 10 % 10) :: UInt8.ofNat (48+c.toNat % 10) :: r)=(c,3):=by
    have:=UInt8.toNat_lt c
    simp only[behB,d1,d2,d3,d4,if_true]
    rw[if_pos (by omega)]
    simp
   show tcut (m+1) (92 :: UInt8.ofNat (48+c.toNat / 100) :: UInt8.ofNat (48+c.toNat / 10 % 10) :: UInt8.ofNat (48+c.toNat % 10) :: r) l ls=_
   simp only[tcut]
   rw[if_neg (by decide),if_pos trivial,hb]
   simp only
   rw[if_neg (by decide)]
   exact tcut_more _ _ _ _ _ (show r.length<m by omega) (show r.length<m+1 by omega)
theorem tcut_lab(m:Nat):∀ (s r l:List UInt8) (ls:List (List UInt8)),(escL s++r).length<m→tcut m (escL s++r) l ls=tcut m r (l++s) ls
 |[],r,l,ls,_=>by simp[escL]
 |c :: s,r,l,ls,h=>by
  simp only [escL,List.append_assoc] at h ⊢
  rw [tcut_esc m c _ l ls h,tcut_lab m s r _ ls (by rw [List.length_append] at h;omega)]
  simp
theorem tcut_txt(m:Nat):∀ (ks ls:List (List UInt8)),(∀ l ∈ ks,okL l)→(txtL ks).length<m→tcut m (txtL ks) [] ls=if ls++ks=[] then none else some (ls++ks)
 |[],ls,_,h=>by
  obtain⟨m,rfl⟩:∃ k,m=k+1:=⟨m - 1,by omega⟩
  simp[txtL,tcut]
 |l :: ks,ls,hk,h=>by
  have hl:=hk l (by simp)
  have hne:l≠[]:=fun e=>by rw [e] at hl;exact absurd hl.1 (by decide)
  simp only [txtL] at h ⊢
  rw[tcut_lab m l _ [] ls h,List.nil_append]
  rw [List.length_append,List.length_cons] at h
  obtain⟨m,rfl⟩:∃ k,m=k+1:=⟨m - 1,by omega⟩
  simp only[tcut]
  rw[if_pos trivial,if_neg hne,tcut_txt m ks _ (fun x hx=>hk x (by simp[hx])) (by omega)]
  simp
theorem escB_len(c:UInt8):1≤(escB c).length∧(escB c).length≤4:=by
 unfold escB
 split
 ·simp
 ·split <;> simp
theorem escL_len:∀ l:List UInt8,l.length≤(escL l).length∧(escL l).length≤4 * l.length
 |[]=>by simp[escL]
 |c :: l=>by
  have:=escB_len c
  have:=escL_len l
  simp only[escL,List.length_append,List.length_cons]
  omega
theorem txtL_len:∀ ls:List (List UInt8),(∀ l ∈ ls,okL l)→(txtL ls).length≤4 * (mk ls).length
 |[],_=>by simp[txtL]
 |l :: ls,h=>by
  have h1:=escL_len l
  have h2:=txtL_len ls fun x hx=>h x (by simp[hx])
  have h3:(mk (l :: ls)).length=1+l.length+(mk ls).length:=mk_len_cons0 l ls
  simp only[txtL,List.length_append,List.length_cons]
  omega
def okB(l:List UInt8):Bool:=decide (1≤l.length∧l.length≤63)
theorem all_ok{ls:List (List UInt8)}:ls.all okB=true↔∀ l ∈ ls,okL l:=by
 simp only[List.all_eq_true,okB,decide_eq_true_eq]
 exact Iff.rfl
def parseT(s:List UInt8):List UInt8 × Int :=
 if s.length > 2048 then ([],7) else if s=[46] then ([0],0) else match tcut (s.length+1) s [] [] with
  |none=>([],6)
  |some ls=>if ls.all okB=true∧(mk ls).length≤255 then (mk ls,0) else ([],7)
theorem escL_ne{l:List UInt8}(h:okL l)(s:List UInt8):escL l++46 :: s≠[46]:=fun e=>by
 have h1:=escL_len l
 have h2:=congrArg List.length e
 have:=h.1
 simp only [List.length_append,List.length_cons,List.length_nil] at h2
 omega
theorem parse_txt{n:List UInt8}(h:isName n):parseT (txtN n)=(n,0):=by
 obtain⟨h1,h2,h3⟩:=labN_of h
 unfold txtN
 split
 ·rename_i e;rw[e];rfl
 ·rename_i hne
  have hl:=txtL_len (labN n) h2
  rw [←h3] at hl
  have hlen:=txtL_len (labN n) h2
  have hn0:labN n≠[]:=fun e=>by rw [e] at h3;exact hne h3
  have hne2:txtL (labN n)≠[46]:=by
   obtain⟨l,ls,e⟩:=List.exists_cons_of_ne_nil hn0
   rw [e] at h2 ⊢
   exact escL_ne (h2 l (by simp)) _
  unfold parseT
  rw[if_neg (by omega),if_neg hne2,tcut_txt _ (labN n) [] h2 (by omega),List.nil_append,if_neg hn0]
  simp only
  rw[if_pos ⟨all_ok.2 h2,by rw[←h3];exact h1⟩,←h3]
end Go.Proofs.YtdfdlbnojmlpiaaGreatDoor
namespace Go.Proofs
open Go.Shelf Go.RowKit Go.Sort Go.Lib
def Try.lays156_ren:Go.Shelf.Ren:=⟨fun|156=>65|165=>131|166=>132|169=>47|240=>170|241=>175|276=>195|277=>201|n=>n,fun|31=>23|9=>9|3=>3|4=>4|0=>0|20=>20|72=>92|76=>211|70=>89|37=>90|75=>132|127=>176|164=>256|5=>5|80=>95|n=>n,fun|n=>n⟩
theorem Try.lays156:Go.Proofs.Lays.n156 Tryz.prog Try.lays156_ren:={
 mixed:=by kernel_rfl
 f156:=Tryz.func65.trans (congrArg some (by kernel_rfl))
 f165:=Tryz.func131.trans (congrArg some (by kernel_rfl))
 f166:=Tryz.func132.trans (congrArg some (by kernel_rfl))
 f169:=Tryz.func47.trans (congrArg some (by kernel_rfl))
 f240:=Tryz.func170.trans (congrArg some (by kernel_rfl))
 f241:=Tryz.func175.trans (congrArg some (by kernel_rfl))
 f276:=Tryz.func195.trans (congrArg some (by kernel_rfl))
 f277:=Tryz.func201.trans (congrArg some (by kernel_rfl))
 t0:=Tryz.underlying0
 a0:=Tryz.isAgg0
 z0:=Tryz.sizeOf0
 v0:=Tryz.zeroValue0
 t3:=Tryz.underlying3
 a3:=Tryz.isAgg3
 z3:=Tryz.sizeOf3
 v3:=Tryz.zeroValue3
 t4:=Tryz.underlying4
 a4:=Tryz.isAgg4
 z4:=Tryz.sizeOf4
 v4:=Tryz.zeroValue4
 t9:=Tryz.underlying9
 a9:=Tryz.isAgg9
 z9:=Tryz.sizeOf9
 v9:=Tryz.zeroValue9
 t20:=Tryz.underlying20
 a20:=Tryz.isAgg20
 z20:=Tryz.sizeOf20
 v20:=Tryz.zeroValue20
 t31:=Tryz.underlying23
 a31:=Tryz.isAgg23
 z31:=Tryz.sizeOf23
 v31:=Tryz.zeroValue23
 t37:=Tryz.underlying90
 a37:=Tryz.isAgg90
 z37:=Tryz.sizeOf90
 v37:=Tryz.zeroValue90
 t70:=Tryz.underlying89
 a70:=Tryz.isAgg89
 z70:=Tryz.sizeOf89
 v70:=Tryz.zeroValue89
 t72:=Tryz.underlying92
 a72:=Tryz.isAgg92
 z72:=Tryz.sizeOf92
 v72:=Tryz.zeroValue92
 t75:=Tryz.underlying132
 a75:=Tryz.isAgg132
 z75:=Tryz.sizeOf132
 v75:=Tryz.zeroValue132
 t76:=Tryz.underlying211
 a76:=Tryz.isAgg211
 z76:=Tryz.sizeOf211
 v76:=Tryz.zeroValue211
 t127:=Tryz.underlying176
 a127:=Tryz.isAgg176
 z127:=Tryz.sizeOf176
 v127:=Tryz.zeroValue176
 t164:=Tryz.underlying256
 a164:=Tryz.isAgg256
 z164:=Tryz.sizeOf256
 v164:=Tryz.zeroValue256 }
theorem Try.Builder_Extra_156:Builder.Extra Tryz.prog Try.lays156_ren:={
 sizeBuilder:=by kernel_rfl
 liesBuilder:=by kernel_rfl
 t5:=Tryz.underlying5
 a5:=Tryz.isAgg5
 z5:=Tryz.sizeOf5
 v5:=Tryz.zeroValue5
 infoByte:=by kernel_rfl
 cellsByte:=by kernel_rfl
 sizeByte:=by kernel_rfl
 neB5:=by decide }
theorem Try.strings_Join_none(a:Option Addr)(c:Nat)(sep:ByteArray)(w:World) :
 Calls Tryz.prog 65 #[.slice a 0 c,.string sep] w fun e w'=>e = .returned (.string ⟨#[]⟩)∧w'=w:=Any.strings_Join_none Try.lays156 Try.Builder_Extra_156 a c sep w
theorem Try.strings_Join(bk o c:Nat)(xs:List ByteArray)(sep:ByteArray)(w:World)(hcells:∀ (j:Nat) x,xs[j]? = some x→w.cell? ⟨bk,o+j,none⟩=some (.string x))(hbk:bk<w.heap.size)(hN:xs.length≤140737488355328)(hcap:xs.length≤c)(hlen:(Lib.join (xs.map (·.data.toList)) sep.data.toList).length≤140737488355328) :
 Calls Tryz.prog 65 #[.slice (some ⟨bk,o,none⟩) xs.length c,.string sep] w fun e w'=>e = .returned (.string ⟨(Lib.join (xs.map (·.data.toList)) sep.data.toList).toArray⟩)∧Below w.heap.size w w':=Any.strings_Join Try.lays156 Try.Builder_Extra_156 bk o c xs sep w hcells hbk hN hcap hlen
def Try.lays137_ren:Go.Shelf.Ren:=⟨fun|137=>138|217=>186|266=>209|n=>n,fun|9=>9|5=>5|3=>3|n=>n,fun|n=>n⟩
theorem Try.lays137:Go.Proofs.Lays.n137 Tryz.prog Try.lays137_ren:={
 mixed:=by kernel_rfl
 f137:=Tryz.func138.trans (congrArg some (by kernel_rfl))
 f217:=Tryz.func186.trans (congrArg some (by kernel_rfl))
 f266:=Tryz.func209.trans (congrArg some (by kernel_rfl))
 t3:=Tryz.underlying3
 a3:=Tryz.isAgg3
 z3:=Tryz.sizeOf3
 v3:=Tryz.zeroValue3
 t5:=Tryz.underlying5
 a5:=Tryz.isAgg5
 z5:=Tryz.sizeOf5
 v5:=Tryz.zeroValue5
 t9:=Tryz.underlying9
 a9:=Tryz.isAgg9
 z9:=Tryz.sizeOf9
 v9:=Tryz.zeroValue9 }
theorem Try.strings_IndexByte(s:ByteArray)(c:Int)(w:World) :
 Calls Tryz.prog 138 #[.string s,.int .u8 c] w fun e w'=>e = .returned (.int .i64 (Lib.indexByte s.data.toList c.toNat.toUInt8))∧w'=w:=Any.strings_IndexByte Try.lays137 s c w
def Try.laysPu14_ren:Go.Shelf.Ren:=⟨fun|14=>71|16=>136|17=>137|19=>180|20=>181|21=>182|22=>183|23=>184|24=>185|25=>206|27=>208|26=>207|28=>219|29=>188|30=>171|31=>172|32=>173|33=>174|35=>197|34=>196|36=>198|37=>199|38=>200|39=>213|40=>214|n=>n,fun|9=>9|3=>3|22=>126|24=>132|25=>133|4=>4|34=>249|5=>5|36=>209|37=>90|0=>0|39=>250|21=>21|44=>267|47=>176|50=>273|48=>271|2=>2|52=>243|55=>246|59=>260|60=>26|20=>20|61=>261|65=>274|66=>275|67=>95|n=>n,fun|0=>2|1=>3|2=>1|3=>4|4=>5|n=>n⟩
theorem Try.laysPu14:Go.Proofs.LaysPu.n14 Tryz.prog Try.laysPu14_ren:={
 mixed:=by kernel_rfl
 f14:=Tryz.func71.trans (congrArg some (by kernel_rfl))
 f16:=Tryz.func136.trans (congrArg some (by kernel_rfl))
 f17:=Tryz.func137.trans (congrArg some (by kernel_rfl))
 f19:=Tryz.func180.trans (congrArg some (by kernel_rfl))
 f20:=Tryz.func181.trans (congrArg some (by kernel_rfl))
 f21:=Tryz.func182.trans (congrArg some (by kernel_rfl))
 f22:=Tryz.func183.trans (congrArg some (by kernel_rfl))
 f23:=Tryz.func184.trans (congrArg some (by kernel_rfl))
 f24:=Tryz.func185.trans (congrArg some (by kernel_rfl))
 f25:=Tryz.func206.trans (congrArg some (by kernel_rfl))
 f26:=Tryz.func207.trans (congrArg some (by kernel_rfl))
 f27:=Tryz.func208.trans (congrArg some (by kernel_rfl))
 f28:=Tryz.func219.trans (congrArg some (by kernel_rfl))
 f29:=Tryz.func188.trans (congrArg some (by kernel_rfl))
 f30:=Tryz.func171.trans (congrArg some (by kernel_rfl))
 f31:=Tryz.func172.trans (congrArg some (by kernel_rfl))
 f32:=Tryz.func173.trans (congrArg some (by kernel_rfl))
 f33:=Tryz.func174.trans (congrArg some (by kernel_rfl))
 f34:=Tryz.func196.trans (congrArg some (by kernel_rfl))
 f35:=Tryz.func197.trans (congrArg some (by kernel_rfl))
 f36:=Tryz.func198.trans (congrArg some (by kernel_rfl))
 f37:=Tryz.func199.trans (congrArg some (by kernel_rfl))
 f38:=Tryz.func200.trans (congrArg some (by kernel_rfl))
 f39:=Tryz.func213.trans (congrArg some (by kernel_rfl))
 f40:=Tryz.func214.trans (congrArg some (by kernel_rfl))
 t0:=Tryz.underlying0
 a0:=Tryz.isAgg0
 z0:=Tryz.sizeOf0
 v0:=Tryz.zeroValue0
 i0:=by kernel_rfl
 t2:=Tryz.underlying2
 a2:=Tryz.isAgg2
 z2:=Tryz.sizeOf2
 v2:=Tryz.zeroValue2
 i2:=by kernel_rfl
 t3:=Tryz.underlying3
 a3:=Tryz.isAgg3
 z3:=Tryz.sizeOf3
 v3:=Tryz.zeroValue3
 i3:=by kernel_rfl
 t4:=Tryz.underlying4
 a4:=Tryz.isAgg4
 z4:=Tryz.sizeOf4
 v4:=Tryz.zeroValue4
 i4:=by kernel_rfl
 t5:=Tryz.underlying5
 a5:=Tryz.isAgg5
 z5:=Tryz.sizeOf5
 v5:=Tryz.zeroValue5
 i5:=by kernel_rfl
 t9:=Tryz.underlying9
 a9:=Tryz.isAgg9
 z9:=Tryz.sizeOf9
 v9:=Tryz.zeroValue9
 i9:=by kernel_rfl
 t20:=Tryz.underlying20
 a20:=Tryz.isAgg20
 z20:=Tryz.sizeOf20
 v20:=Tryz.zeroValue20
 i20:=by kernel_rfl
 t21:=Tryz.underlying21
 a21:=Tryz.isAgg21
 z21:=Tryz.sizeOf21
 v21:=Tryz.zeroValue21
 i21:=by kernel_rfl
 t22:=Tryz.underlying126
 a22:=Tryz.isAgg126
 z22:=Tryz.sizeOf126
 v22:=Tryz.zeroValue126
 i22:=by kernel_rfl
 t24:=Tryz.underlying132
 a24:=Tryz.isAgg132
 z24:=Tryz.sizeOf132
 v24:=Tryz.zeroValue132
 i24:=by kernel_rfl
 t25:=Tryz.underlying133
 a25:=Tryz.isAgg133
 z25:=Tryz.sizeOf133
 v25:=Tryz.zeroValue133
 i25:=by kernel_rfl
 t34:=Tryz.underlying249
 a34:=Tryz.isAgg249
 z34:=Tryz.sizeOf249
 v34:=Tryz.zeroValue249
 i34:=by kernel_rfl
 c34:=by kernel_rfl
 t36:=Tryz.underlying209
 a36:=Tryz.isAgg209
 z36:=Tryz.sizeOf209
 v36:=Tryz.zeroValue209
 i36:=by kernel_rfl
 t37:=Tryz.underlying90
 a37:=Tryz.isAgg90
 z37:=Tryz.sizeOf90
 v37:=Tryz.zeroValue90
 i37:=by kernel_rfl
 t39:=Tryz.underlying250
 a39:=Tryz.isAgg250
 z39:=Tryz.sizeOf250
 v39:=Tryz.zeroValue250
 i39:=by kernel_rfl
 t44:=Tryz.underlying267
 a44:=Tryz.isAgg267
 z44:=Tryz.sizeOf267
 v44:=Tryz.zeroValue267
 i44:=by kernel_rfl
 t47:=Tryz.underlying176
 a47:=Tryz.isAgg176
 z47:=Tryz.sizeOf176
 v47:=Tryz.zeroValue176
 i47:=by kernel_rfl
 t48:=Tryz.underlying271
 a48:=Tryz.isAgg271
 z48:=Tryz.sizeOf271
 v48:=Tryz.zeroValue271
 i48:=by kernel_rfl
 t50:=Tryz.underlying273
 a50:=Tryz.isAgg273
 z50:=Tryz.sizeOf273
 v50:=Tryz.zeroValue273
 i50:=by kernel_rfl
 t52:=Tryz.underlying243
 a52:=Tryz.isAgg243
 z52:=Tryz.sizeOf243
 v52:=Tryz.zeroValue243
 i52:=by kernel_rfl
 t55:=Tryz.underlying246
 a55:=Tryz.isAgg246
 z55:=Tryz.sizeOf246
 v55:=Tryz.zeroValue246
 i55:=by kernel_rfl
 t59:=Tryz.underlying260
 a59:=Tryz.isAgg260
 z59:=Tryz.sizeOf260
 v59:=Tryz.zeroValue260
 i59:=by kernel_rfl
 t60:=Tryz.underlying26
 a60:=Tryz.isAgg26
 z60:=Tryz.sizeOf26
 v60:=Tryz.zeroValue26
 i60:=by kernel_rfl
 t61:=Tryz.underlying261
 a61:=Tryz.isAgg261
 z61:=Tryz.sizeOf261
 t65:=Tryz.underlying274
 a65:=Tryz.isAgg274
 z65:=Tryz.sizeOf274
 v65:=Tryz.zeroValue274
 i65:=by kernel_rfl
 t66:=Tryz.underlying275
 a66:=Tryz.isAgg275
 z66:=Tryz.sizeOf275
 v66:=Tryz.zeroValue275
 i66:=by kernel_rfl
 t67:=Tryz.underlying95
 a67:=Tryz.isAgg95
 z67:=Tryz.sizeOf95
 v67:=Tryz.zeroValue95
 i67:=by kernel_rfl
 g0:=by kernel_rfl
 m0:=by kernel_rfl
 g1:=by kernel_rfl
 m1:=by kernel_rfl
 g2:=by kernel_rfl
 m2:=by kernel_rfl
 g3:=by kernel_rfl
 m3:=by kernel_rfl
 g4:=by kernel_rfl
 m4:=by kernel_rfl }
theorem Try.strconv_ParseUint_10_at64_ok(s:ByteArray)(hmax:s.size≤9223372036854775806)(u:Nat)(h:Lib.parseUintB 64 s.data.toList = .ok u)(w:World) :
 Calls Tryz.prog 71 #[.string s,.int .i64 10,.int .i64 64] w fun e w'=>e = .returned (.tuple #[.int .u64 u,.nilIface])∧(w'=w∨w'=Lib.bytesWorld w 5 s):=Any.strconv_ParseUint_10_at64_ok Try.laysPu14 s hmax u h w
theorem Try.strconv_ParseUint_10_at64_syntax(s:ByteArray)(hlim:s.size≤281474976710656)(h:Lib.parseUintB 64 s.data.toList=Lib.parseUintB 64 [])(ev:Value)(w:World)(hv:w.cell? ⟨2,0,none⟩=some ev)(hev:ev = .nilIface∨∃ te pe,ev = .iface te pe) :
 Calls Tryz.prog 71 #[.string s,.int .i64 10,.int .i64 64] w fun e w'=>∃ N,e = .returned (.tuple #[.int .u64 0,.iface 250 (.pointer (some ⟨N,0,none⟩))])∧w.heap.size≤N∧w'.heap[N]? = some (.cells #[.string ⟨#[80,97,114,115,101,85,105,110,116]⟩,.string s,ev] 267 (0,0))∧Below w.heap.size w w':=Any.strconv_ParseUint_10_at64_syntax Try.laysPu14 s hlim h ev w hv hev
theorem Try.strconv_ParseUint_10_at64_range(s:ByteArray)(hlim:s.size≤281474976710656)(h:Lib.parseUintB 64 s.data.toList = .range)(ev:Value)(w:World)(hv:w.cell? ⟨3,0,none⟩=some ev)(hev:ev = .nilIface∨∃ te pe,ev = .iface te pe) :
 Calls Tryz.prog 71 #[.string s,.int .i64 10,.int .i64 64] w fun e w'=>∃ N,e = .returned (.tuple #[.int .u64 18446744073709551615,.iface 250 (.pointer (some ⟨N,0,none⟩))])∧w.heap.size≤N∧w'.heap[N]? = some (.cells #[.string ⟨#[80,97,114,115,101,85,105,110,116]⟩,.string s,ev] 267 (0,0))∧Below w.heap.size w w':=Any.strconv_ParseUint_10_at64_range Try.laysPu14 s hlim h ev w hv hev
def Try.lays143_ren:Go.Shelf.Ren:=⟨fun|143=>178|219=>205|217=>186|225=>216|224=>217|267=>218|266=>209|314=>220|n=>n,fun|9=>9|3=>3|4=>4|5=>5|46=>209|146=>280|51=>26|n=>n,fun|1=>0|n=>n⟩
theorem Try.lays143:Go.Proofs.Lays.n143 Tryz.prog Try.lays143_ren:={
 mixed:=by kernel_rfl
 f143:=Tryz.func178.trans (congrArg some (by kernel_rfl))
 f217:=Tryz.func186.trans (congrArg some (by kernel_rfl))
 f219:=Tryz.func205.trans (congrArg some (by kernel_rfl))
 f224:=Tryz.func217.trans (congrArg some (by kernel_rfl))
 f225:=Tryz.func216.trans (congrArg some (by kernel_rfl))
 f266:=Tryz.func209.trans (congrArg some (by kernel_rfl))
 f267:=Tryz.func218.trans (congrArg some (by kernel_rfl))
 f314:=Tryz.func220.trans (congrArg some (by kernel_rfl))
 t3:=Tryz.underlying3
 a3:=Tryz.isAgg3
 z3:=Tryz.sizeOf3
 v3:=Tryz.zeroValue3
 t4:=Tryz.underlying4
 a4:=Tryz.isAgg4
 z4:=Tryz.sizeOf4
 v4:=Tryz.zeroValue4
 t5:=Tryz.underlying5
 a5:=Tryz.isAgg5
 z5:=Tryz.sizeOf5
 v5:=Tryz.zeroValue5
 t9:=Tryz.underlying9
 a9:=Tryz.isAgg9
 z9:=Tryz.sizeOf9
 v9:=Tryz.zeroValue9
 t46:=Tryz.underlying209
 a46:=Tryz.isAgg209
 z46:=Tryz.sizeOf209
 v46:=Tryz.zeroValue209
 t51:=Tryz.underlying26
 a51:=Tryz.isAgg26
 z51:=Tryz.sizeOf26
 v51:=Tryz.zeroValue26
 t146:=Tryz.underlying280
 a146:=Tryz.isAgg280
 z146:=Tryz.sizeOf280
 v146:=Tryz.zeroValue280
 g1:=by kernel_rfl }
theorem Try.strings_Index_one(s:ByteArray)(c:UInt8)(w:World) :
 Calls Tryz.prog 178 #[.string s,.string ⟨#[c]⟩] w fun e w'=>e = .returned (.int .i64 (Lib.indexByte s.data.toList c))∧w'=w:=Any.strings_Index_one Try.lays143 s c w
def Try.lays138_ren:Go.Shelf.Ren:=⟨fun|138=>177|195=>202|218=>204|143=>178|219=>205|217=>186|225=>216|224=>217|267=>218|266=>209|314=>220|n=>n,fun|9=>9|3=>3|4=>4|5=>5|0=>0|46=>209|146=>280|51=>26|n=>n,fun|1=>0|n=>n⟩
theorem Try.lays138:Go.Proofs.Lays.n138 Tryz.prog Try.lays138_ren:={
 mixed:=by kernel_rfl
 f138:=Tryz.func177.trans (congrArg some (by kernel_rfl))
 f143:=Tryz.func178.trans (congrArg some (by kernel_rfl))
 f195:=Tryz.func202.trans (congrArg some (by kernel_rfl))
 f217:=Tryz.func186.trans (congrArg some (by kernel_rfl))
 f218:=Tryz.func204.trans (congrArg some (by kernel_rfl))
 f219:=Tryz.func205.trans (congrArg some (by kernel_rfl))
 f224:=Tryz.func217.trans (congrArg some (by kernel_rfl))
 f225:=Tryz.func216.trans (congrArg some (by kernel_rfl))
 f266:=Tryz.func209.trans (congrArg some (by kernel_rfl))
 f267:=Tryz.func218.trans (congrArg some (by kernel_rfl))
 f314:=Tryz.func220.trans (congrArg some (by kernel_rfl))
 t0:=Tryz.underlying0
 a0:=Tryz.isAgg0
 z0:=Tryz.sizeOf0
 v0:=Tryz.zeroValue0
 t3:=Tryz.underlying3
 a3:=Tryz.isAgg3
 z3:=Tryz.sizeOf3
 v3:=Tryz.zeroValue3
 t4:=Tryz.underlying4
 a4:=Tryz.isAgg4
 z4:=Tryz.sizeOf4
 v4:=Tryz.zeroValue4
 t5:=Tryz.underlying5
 a5:=Tryz.isAgg5
 z5:=Tryz.sizeOf5
 v5:=Tryz.zeroValue5
 t9:=Tryz.underlying9
 a9:=Tryz.isAgg9
 z9:=Tryz.sizeOf9
 v9:=Tryz.zeroValue9
 t46:=Tryz.underlying209
 a46:=Tryz.isAgg209
 z46:=Tryz.sizeOf209
 v46:=Tryz.zeroValue209
 t51:=Tryz.underlying26
 a51:=Tryz.isAgg26
 z51:=Tryz.sizeOf26
 v51:=Tryz.zeroValue26
 t146:=Tryz.underlying280
 a146:=Tryz.isAgg280
 z146:=Tryz.sizeOf280
 v146:=Tryz.zeroValue280
 g1:=by kernel_rfl }
theorem Try.strings_Count_one(s:ByteArray)(c:UInt8)(w:World) :
 Calls Tryz.prog 177 #[.string s,.string ⟨#[c]⟩] w fun e w'=>e = .returned (.int .i64 (Lib.countByte s.data.toList c))∧w'=w:=Any.strings_Count_one Try.lays138 s c w
def Try.laysM173_ren:Go.Shelf.Ren:=⟨fun|173=>156|246=>188|283=>171|284=>172|285=>173|286=>174|129=>197|317=>196|318=>198|319=>199|320=>200|337=>213|338=>214|n=>n,fun|2=>2|3=>3|9=>9|4=>4|171=>243|0=>0|53=>126|37=>90|5=>5|173=>246|212=>260|51=>26|20=>20|213=>261|46=>209|232=>274|233=>275|n=>n,fun|17=>1|18=>4|19=>5|n=>n⟩
theorem Try.laysM173:Go.Proofs.LaysM.n173 Tryz.prog Try.laysM173_ren:={
 mixed:=by kernel_rfl
 f129:=Tryz.func197.trans (congrArg some (by kernel_rfl))
 f173:=Tryz.func156.trans (congrArg some (by kernel_rfl))
 f246:=Tryz.func188.trans (congrArg some (by kernel_rfl))
 f283:=Tryz.func171.trans (congrArg some (by kernel_rfl))
 f284:=Tryz.func172.trans (congrArg some (by kernel_rfl))
 f285:=Tryz.func173.trans (congrArg some (by kernel_rfl))
 f286:=Tryz.func174.trans (congrArg some (by kernel_rfl))
 f317:=Tryz.func196.trans (congrArg some (by kernel_rfl))
 f318:=Tryz.func198.trans (congrArg some (by kernel_rfl))
 f319:=Tryz.func199.trans (congrArg some (by kernel_rfl))
 f320:=Tryz.func200.trans (congrArg some (by kernel_rfl))
 f337:=Tryz.func213.trans (congrArg some (by kernel_rfl))
 f338:=Tryz.func214.trans (congrArg some (by kernel_rfl))
 t0:=Tryz.underlying0
 a0:=Tryz.isAgg0
 z0:=Tryz.sizeOf0
 v0:=Tryz.zeroValue0
 t2:=Tryz.underlying2
 a2:=Tryz.isAgg2
 z2:=Tryz.sizeOf2
 v2:=Tryz.zeroValue2
 t3:=Tryz.underlying3
 a3:=Tryz.isAgg3
 z3:=Tryz.sizeOf3
 v3:=Tryz.zeroValue3
 t4:=Tryz.underlying4
 a4:=Tryz.isAgg4
 z4:=Tryz.sizeOf4
 v4:=Tryz.zeroValue4
 t5:=Tryz.underlying5
 a5:=Tryz.isAgg5
 z5:=Tryz.sizeOf5
 v5:=Tryz.zeroValue5
 t9:=Tryz.underlying9
 a9:=Tryz.isAgg9
 z9:=Tryz.sizeOf9
 v9:=Tryz.zeroValue9
 t20:=Tryz.underlying20
 a20:=Tryz.isAgg20
 z20:=Tryz.sizeOf20
 v20:=Tryz.zeroValue20
 t37:=Tryz.underlying90
 a37:=Tryz.isAgg90
 z37:=Tryz.sizeOf90
 v37:=Tryz.zeroValue90
 t46:=Tryz.underlying209
 a46:=Tryz.isAgg209
 z46:=Tryz.sizeOf209
 v46:=Tryz.zeroValue209
 t51:=Tryz.underlying26
 a51:=Tryz.isAgg26
 z51:=Tryz.sizeOf26
 v51:=Tryz.zeroValue26
 t53:=Tryz.underlying126
 a53:=Tryz.isAgg126
 z53:=Tryz.sizeOf126
 v53:=Tryz.zeroValue126
 t171:=Tryz.underlying243
 a171:=Tryz.isAgg243
 z171:=Tryz.sizeOf243
 v171:=Tryz.zeroValue243
 t173:=Tryz.underlying246
 a173:=Tryz.isAgg246
 z173:=Tryz.sizeOf246
 v173:=Tryz.zeroValue246
 t212:=Tryz.underlying260
 a212:=Tryz.isAgg260
 z212:=Tryz.sizeOf260
 v212:=Tryz.zeroValue260
 t213:=Tryz.underlying261
 a213:=Tryz.isAgg261
 z213:=Tryz.sizeOf261
 t232:=Tryz.underlying274
 a232:=Tryz.isAgg274
 z232:=Tryz.sizeOf274
 v232:=Tryz.zeroValue274
 t233:=Tryz.underlying275
 a233:=Tryz.isAgg275
 z233:=Tryz.sizeOf275
 v233:=Tryz.zeroValue275
 g17:=by kernel_rfl
 g18:=by kernel_rfl
 g19:=by kernel_rfl
 i0:=by kernel_rfl
 i2:=by kernel_rfl
 i3:=by kernel_rfl
 i4:=by kernel_rfl
 i5:=by kernel_rfl
 i9:=by kernel_rfl
 i20:=by kernel_rfl
 i37:=by kernel_rfl
 i46:=by kernel_rfl
 i51:=by kernel_rfl
 i53:=by kernel_rfl
 i171:=by kernel_rfl
 i173:=by kernel_rfl
 i212:=by kernel_rfl
 i232:=by kernel_rfl
 i233:=by kernel_rfl
 m17:=by kernel_rfl
 m18:=by kernel_rfl
 m19:=by kernel_rfl }
theorem Try.strconv_FormatInt_10 (n : Int) (h0 : -9223372036854775808 ≤ n) (h1 : n ≤ 9223372036854775807) (w : World) (htab : Lib.TabIs Tryz.prog w "internal/strconv.uint64pow10" .u64 Lib.pow10Tab) :
 Calls Tryz.prog 156 #[.int .i64 n,.int .i64 10] w fun e w'=>e = .returned (.string ⟨(Lib.itoa n).toArray⟩)∧∃ k os,w'=grow (w.drewN k) os:=Any.strconv_FormatInt_10 Try.laysM173 n h0 h1 w htab
end Go.Proofs
namespace Go.Proofs.YtdfdlbnojmlpiaaGreatDoor
open Go Go.Eng
theorem rd_slice{w:World}{M:Nat→Prop}{b:Bool}{n sz:Nat}{f:Nat→List DV}{v:Value}(h:Rd w M (.sl b n sz f) v):(n=0∧v = .slice none 0 0)∨∃ (ad:Addr) (cap:Nat) (u:Nat→Nat→Value),v = .slice (some ad) n cap∧n≤cap ∧
 (0<n→ad.block<w.heap.size∧¬ M ad.block)∧(∀ (i j:Nat) (d:DV),i<n→(f i)[j]? = some d→w.cell? (ad.add (i * sz+j))=some (u i j))∧(∀ (i j:Nat) (d:DV),i<n→(f i)[j]? = some d→Rd w M d (u i j)):=by
 cases h with
 |nil=>exact .inl ⟨rfl,rfl⟩
 |sl _ _ _ ad cap u g1 g3 g4 g5 g6=>exact .inr ⟨ad,cap,u,rfl,g1,g3,g5,g6⟩
theorem join_ok(b:Bool)(l:List (List UInt8))(sep:List UInt8)(hn:l.length≤140737488355328)(hj:(Lib.join l sep).length≤140737488355328):FnOk Tryz.prog 65 [.d (.sl b l.length 1 (strs l)),.d (.str sep)] (.d (.str (Lib.join l sep))):=by
 refine⟨enters Tryz.func65 (by kernel_rfl) rfl,fun M w vs _ hM hl hd=>?_⟩
 match vs,hl with
 |[v0,v1],_ =>
  have h0:=den_data (hd 0 _ v0 rfl rfl)
  have h1:=den_str (hd 1 _ v1 rfl rfl)
  subst h1
  rcases rd_slice h0 with⟨hl0,rfl⟩|⟨ad,cap,u,rfl,g1,g3,g5,g6⟩
  ·have:l=[]:=List.eq_nil_of_length_eq_zero hl0
   subst this
   refine(Try.strings_Join_none none 0 ⟨sep.toArray⟩ w).mono ?_
   rintro e w' ⟨rfl,rfl⟩
   exact⟨_,rfl,Step.refl _ _,.d (.str _)⟩
  ·by_cases hz:l=[]
   ·subst hz
    refine(Try.strings_Join_none (some ad) cap ⟨sep.toArray⟩ w).mono ?_
    rintro e w' ⟨rfl,rfl⟩
    exact⟨_,rfl,Step.refl _ _,.d (.str _)⟩
   ·have hpos:0<l.length:=List.length_pos_iff.2 hz
    obtain⟨hb,_⟩:=g3 hpos
    have hu:∀ i,i<l.length→u i 0=strV (l[i]?.getD []):=fun i hi=>by
     have:=g6 i 0 (.str (l[i]?.getD [])) hi rfl
     exact den_str (β:=noE) (.d this)
    have hc0:=g5 0 0 (.str (l[0]?.getD [])) hpos rfl
    have hspot:ad.spot=none:=by
     rw [show ad.add (0 * 1+0)=ad from rfl] at hc0
     unfold World.cell? at hc0
     split at hc0
     ·cases hs:ad.spot with
      |none=>rfl
      |some _=>simp [hs] at hc0
     ·cases hc0
    obtain⟨bk,o,sp⟩:=ad
    simp only at hspot hb
    subst hspot
    have:=Try.strings_Join bk o cap (l.map fun x=>⟨x.toArray⟩) ⟨sep.toArray⟩ w (fun j x hx=>by
     rw [List.getElem?_map,Option.map_eq_some_iff] at hx
     obtain⟨y,hy,rfl⟩:=hx
     have hj:j<l.length:=(List.getElem?_eq_some_iff.1 hy).1
     have h5:=g5 j 0 (.str (l[j]?.getD [])) hj rfl
     rw [hu j hj,add_lit0,hy] at h5
     simpa[strV] using h5) hb (by simpa using hn) (by simpa using g1) (by
      simp only[List.map_map,Function.comp_def,List.toList_toArray,List.map_id']
      exact hj)
    simp only [List.length_map,List.map_map,Function.comp_def,List.toList_toArray,List.map_id'] at this
    refine this.mono ?_
    rintro e w' ⟨rfl,hw⟩
    exact⟨_,rfl,Step.of_below _ hw,.d (.str _)⟩
end Go.Proofs.YtdfdlbnojmlpiaaGreatDoor
namespace Go.Proofs.YtdfdlbnojmlpiaaGreatDoor
open Go Go.Eng
set_option maxRecDepth 100000
theorem lays240:Go.Proofs.Lays.n240 Tryz.prog Try.lays156_ren:=by
 have L:=Try.lays156
 exact { mixed:=L.mixed,f240:=L.f240,f276:=L.f276,t0:=L.t0,a0:=L.a0,z0:=L.z0,v0:=L.v0,t4:=L.t4,a4:=L.a4,z4:=L.z4,v4:=L.v4,t9:=L.t9,a9:=L.a9,z9:=L.z9,v9:=L.v9,t20:=L.t20,a20:=L.a20,z20:=L.z20,v20:=L.v20,t70:=L.t70,a70:=L.a70,z70:=L.z70,v70:=L.v70,t72:=L.t72,a72:=L.a72,z72:=L.z72,v72:=L.v72,t164:=L.t164,a164:=L.a164,z164:=L.z164,v164:=L.v164 }
theorem setCell_eq{w:World}{b:Nat}{vs:Array Value}{e:TypeId}{fz:Nat × Nat}(h:w.heap[b]? = some (.cells vs e fz))(off:Nat)(v:Value) :
 w.setCell ⟨b,off,none⟩ v=World.setBlock w b (.cells (vs.setIfInBounds off v) e fz):=by
 unfold World.setCell World.setBlock
 congr 1
 apply Array.ext_getElem?
 intro j
 have hb:b<w.heap.size:=lt_of_block h
 rw[Array.getElem?_modify,Array.getElem?_setIfInBounds]
 by_cases e1:b=j
 ·subst e1
  rw[if_pos rfl,if_pos rfl,if_pos hb,h]
  rfl
 ·rw[if_neg e1,if_neg e1]
theorem chk_fresh(s:SV):COk Tryz.prog 170 [.ptr 0 0] [.cells 92 [.v (.pointer none),s]] (fun r k=>r = .tup []∧k=[.cells 92 [.ptr 0 0,s]]):=by
 refine⟨enters Tryz.func170 (by kernel_rfl) rfl,fun X w β fp vs hM hl hd=>?_⟩
 match vs,hl with
 |[v0],_ =>
  have h0:=hd 0 _ v0 rfl rfl
  cases h0 with
  |ptr _ _ L hL =>
   have hb:=hM.at (i:=0) rfl (by simp) hL
   cases hb with
   |cells _ _ us hfp hblk hlen hden h1 =>
    have hsz:us.size=2:=by simpa using hlen.symm
    have hu0:us[0]? = some (.pointer none):=by
     have hlt:0<us.size:=by omega
     have hx:=hden 0 _ us[0] rfl (by simp[hlt])
     have hy:us[0] = .pointer none:=by
      generalize us[0]=x at hx
      cases hx
      rfl
     rw[Array.getElem?_eq_getElem hlt,hy]
    have hc0:w.cell? ⟨L.b,0,none⟩=some (.pointer none):=by simp[World.cell?,hblk,hu0]
    have hsh:w.shape? L.b=some (92,2):=by simp[World.shape?,hblk,hsz]
    have hfz:w.frozen? ⟨L.b,0,none⟩=false:=by simp[World.frozen?,hblk]
    refine(Any.Builder_copyCheck_fresh lays240 Try.Builder_Extra_156.toX72 L.b w hc0 hsh hfz).mono ?_
    rintro e w' ⟨rfl,rfl⟩
    have hset:w.setCell ⟨L.b,0,none⟩ (.pointer (some ⟨L.b,0,none⟩))=World.setBlock w L.b (.cells (us.setIfInBounds 0 (.pointer (some ⟨L.b,0,none⟩))) 92 (0,0)):=setCell_eq hblk _ _
    rw[hset]
    have W:=hM.store (i:=0) (l':=[.ptr 0 0,s]) (vs':=us.setIfInBounds 0 (.pointer (some ⟨L.b,0,none⟩))) rfl hL hfp hblk (by simpa using hlen) (fun j s' u hj hu=>by
     rw [Array.getElem?_setIfInBounds] at hu
     match j with
     |0 =>
      injection hj with hj
      subst hj
      rw [if_pos rfl] at hu
      split at hu
      ·injection hu with hu
       subst hu
       exact .ptr 0 0 L hL
      ·cases hu
     |j+1 =>
      rw [if_neg (by omega)] at hu
      exact hden (j+1) s' u hj hu) (fun j u hu=>by
     rw [Array.getElem?_setIfInBounds] at hu
     split at hu
     ·split at hu
      ·injection hu with hu
       subst hu
       rfl
      ·cases hu
     ·exact h1 j u hu)
    exact ⟨_,.tup [],_,_,_,rfl,⟨rfl,rfl⟩,W,.tup _ _ rfl (fun j s' u hj _=>by simp at hj)⟩
theorem chk_used(s:SV)(rest:List KB):COk Tryz.prog 170 [.ptr 0 0] (.cells 92 [.ptr 0 0,s] :: rest) (fun r k=>r = .tup []∧k = .cells 92 [.ptr 0 0,s] :: rest):=by
 refine⟨enters Tryz.func170 (by kernel_rfl) rfl,fun X w β fp vs hM hl hd=>?_⟩
 match vs,hl with
 |[v0],_ =>
  have h0:=hd 0 _ v0 rfl rfl
  cases h0 with
  |ptr _ _ L hL =>
   have hb:=hM.at (i:=0) rfl (by simp) hL
   cases hb with
   |cells _ _ us hfp hblk hlen hden h1 =>
    have hsz:us.size=2:=by simpa using hlen.symm
    have hu0:us[0]? = some (.pointer (some ⟨L.b,0,none⟩)):=by
     have hlt:0<us.size:=by omega
     have hx:=hden 0 _ us[0] rfl (by simp[hlt])
     have hy:us[0] = .pointer (some ⟨L.b,0,none⟩):=by
      generalize us[0]=x at hx
      cases hx with
      |ptr _ _ L' hL' =>
       rw [hL] at hL'
       cases hL'
       rfl
     rw[Array.getElem?_eq_getElem hlt,hy]
    have hc0:w.cell? ⟨L.b,0,none⟩=some (.pointer (some ⟨L.b,0,none⟩)):=by simp[World.cell?,hblk,hu0]
    refine(Any.Builder_copyCheck_used lays240 Try.Builder_Extra_156.toX72 L.b w hc0).mono ?_
    rintro e w' ⟨rfl,rfl⟩
    exact ⟨_,.tup [],_,_,_,rfl,⟨rfl,rfl⟩,Went.refl hM,.tup _ _ rfl (fun j s' u hj _=>by simp at hj)⟩
theorem pk1{X:Nat→Prop}{w:World}{β:Env}{fp:Nat→Nat→Prop}{k:KB}(h:Mem X w β fp [k]):Mem X w β fp [pk [k]]:=by
 have h0:∀ i b,fp i b→i=0:=fun i b hb=>by
  obtain⟨L,hL⟩:=h.kn i b hb
  cases i with
  |zero=>rfl
  |succ i=>rw [h.kl (i+1) (by simp)] at hL;cases hL
 refine⟨⟨h.xa,h.xb,h.dis,h.kw,h.kn,fun i L k' hk hne hL=>?_⟩,h.kl,fun i t dom cols hi=>?_,h.vo.sub (fun i b hb=>⟨i,hb⟩)⟩
 ·cases i with
  |succ i=>simp at hk
  |zero =>
   simp only [List.getElem?_cons_zero,Option.some.injEq] at hk
   subst hk
   exact .obj _ (packed_stable [k]) ⟨β,fp,hL,h.kl,fun x=>⟨fun e=>⟨0,e⟩,fun ⟨j,e⟩=>by rw [h0 j x e] at e;exact e⟩,h.dis,h.kn,h.ka,fun i L k hk hne hL=>h.kb i L k hk hne hL⟩
 ·cases i with
  |zero=>simp [pk] at hi
  |succ i=>simp at hi
theorem packIn{P:Program}{f:FuncId}{al:List SV}{k:KB}{R:SV→List KB→Prop}(h:COk P f al [pk [k]] R):COk P f al [k] R :=
 ⟨h.1,fun X w β fp vs hM hl hd=>h.2 X w β fp vs (pk1 hM) hl hd⟩
inductive Bst where
 |fresh
 |live (s:List UInt8)
 |dead
def Bst.fl:Bst→List KB
 | .fresh=>[.cells 92 [.v (.pointer none),nilS]]
 | .live s=>[.cells 92 [.ptr 0 0,.all 1],.row 5 1 s.length .iff (fun j=>[.int .u8 (byteAt s j)])]
 | .dead=>[.cells 92 [.ptr 0 0,.any]]
set_option maxRecDepth 100000 in
theorem bw1_ok(b s:List UInt8)(hs:b.length+s.length≤70368744177664):COk Tryz.prog 132 [.ptr 0 0,.d (.str s)] [pk (Bst.fl (.live b))] (fun r k=>∃ b1,k=[pk (Bst.fl b1)]∧(r = .tup [.d (.int .i64 s.length),.v .nilIface]∧b1 = .live (b++s))):=by
 refine COk.toThing Bst.fl (pOk_of_run (TT:=TT) (IN:=lookI []) TT_ok INok_nil mixed 1000 Tryz.func132 rfl (enters Tryz.func132 (by kernel_rfl) rfl) 17 (by kernel_rfl) rfl ?_ ?_)
 ·rintro r l ⟨w1,_,rfl,_⟩
  rfl
 conv=>whnf
 refine .rel _ (chk_used _ _) (fun x ks' hR=>?_)
 obtain⟨rfl,rfl⟩:=hR
 conv=>whnf
 refine⟨by omega,?_⟩
 conv=>whnf
 refine⟨[0,2],.tup [.d (.int .i64 s.length),.v .nilIface],Bst.fl (.live (b++s)),rfl,rfl,rfl,?_,_,rfl,rfl,rfl⟩
 repeat'(first|exact ⟨⟩|exact rfl|exact fun _=>Iff.rfl|exact fun _ _=>rfl|exact renM_rests _ _|exact(List.length_append ..).symm|exact byteAt_cat _ _|apply And.intro)
set_option maxRecDepth 100000 in
theorem bs_ok(s:List UInt8)(hs:s.length≤70368744177664):COk Tryz.prog 47 [.ptr 0 0] [pk (Bst.fl (.live s))] (fun r k=>∃ b1,k=[pk (Bst.fl b1)]∧(r = .d (.str s)∧b1 = .dead)):=by
 refine COk.toThing Bst.fl (pOk_of_run (TT:=TT) (IN:=lookI []) TT_ok INok_nil mixed 1000 Tryz.func47 rfl (enters Tryz.func47 (by kernel_rfl) rfl) 13 (by kernel_rfl) rfl ?_ ?_)
 ·rintro r l ⟨w1,_,rfl,_⟩
  rfl
 cases s with
 |nil =>
  conv=>whnf
  refine⟨rfl,?_⟩
  conv=>whnf
  refine⟨[0],.d (.str []),Bst.fl .dead,rfl,rfl,rfl,?_,_,rfl,rfl,rfl⟩
  repeat'(first|exact ⟨⟩|exact rfl|exact fun _=>Iff.rfl|exact fun _ _=>rfl|exact renM_rests _ _|exact(List.length_append ..).symm|exact byteAt_cat _ _|apply And.intro)
 |cons a s =>
  conv=>whnf
  refine⟨Nat.succ_le_succ (Nat.zero_le _),?_⟩
  conv=>whnf
  have hb:bytesOf (a :: s).length (fun j=>[.int .u8 (byteAt (a :: s) j)])=a :: s:=bytesOf_bytesF (a :: s)
  refine⟨⟨rfl,by omega,fun i _=>⟨((a :: s)[i]?).getD 0,rfl⟩⟩,?_⟩
  rw[hb]
  conv=>whnf
  refine⟨[0],.d (.str (a :: s)),Bst.fl .dead,rfl,rfl,rfl,?_,_,rfl,rfl,rfl⟩
  repeat'(first|exact ⟨⟩|exact rfl|exact fun _=>Iff.rfl|exact fun _ _=>rfl|exact renM_rests _ _|exact(List.length_append ..).symm|exact byteAt_cat _ _|apply And.intro)
end Go.Proofs.YtdfdlbnojmlpiaaGreatDoor
namespace Go.Proofs.YtdfdlbnojmlpiaaGreatDoor
open Go Go.Eng
set_option maxRecDepth 100000
theorem byteAt_put(b:List UInt8)(c:UInt8)(i:Nat)(h:i<b.length+1):catF b.length (bytesF b) (chunk [DV.int IntKind.u8 (c.toNat:Int)] 1) i=bytesF (b++[c]) i:=by
 unfold catF bytesF byteAt
 split
 ·rename_i hl
  simp[List.getElem?_append_left hl]
 ·rename_i hl
  have:i=b.length:=by omega
  subst this
  simp[chunk]
theorem wb0_ok(c:UInt8):COk Tryz.prog 129 [.ptr 0 0,.d (.int .u8 (c.toNat:Int))] [pk (Bst.fl .fresh)] (fun r k=>∃ b1,k=[pk (Bst.fl b1)]∧(r = .v .nilIface∧b1 = .live [c])):=by
 refine COk.toThing Bst.fl (pOk_of_run (TT:=TT) (IN:=lookI []) TT_ok INok_nil mixed 1000 Tryz.func129 rfl (enters Tryz.func129 (by kernel_rfl) rfl) 15 (by kernel_rfl) rfl ?_ ?_)
 ·rintro r l ⟨w1,_,rfl,_⟩
  rfl
 conv=>whnf
 refine .rel _ (chk_fresh _) (fun x ks' hR=>?_)
 obtain⟨rfl,rfl⟩:=hR
 conv=>whnf
 refine⟨by decide,?_⟩
 conv=>whnf
 refine⟨[0,2],.v .nilIface,Bst.fl (.live [c]),rfl,rfl,rfl,?_,_,rfl,rfl,rfl⟩
 repeat'(first|exact ⟨⟩|exact rfl|exact fun _=>Iff.rfl|exact fun _ _=>rfl|exact renM_rests _ _|exact(List.length_append ..).symm|exact byteAt_cat _ _|apply And.intro)
 intro i hi
 match i,hi with
 |0,_=>rfl
theorem wb1_ok(b:List UInt8)(c:UInt8)(hs:b.length+1≤70368744177664):COk Tryz.prog 129 [.ptr 0 0,.d (.int .u8 (c.toNat:Int))] [pk (Bst.fl (.live b))] (fun r k=>∃ b1,k=[pk (Bst.fl b1)]∧(r = .v .nilIface∧b1 = .live (b++[c]))):=by
 refine COk.toThing Bst.fl (pOk_of_run (TT:=TT) (IN:=lookI []) TT_ok INok_nil mixed 1000 Tryz.func129 rfl (enters Tryz.func129 (by kernel_rfl) rfl) 15 (by kernel_rfl) rfl ?_ ?_)
 ·rintro r l ⟨w1,_,rfl,_⟩
  rfl
 conv=>whnf
 refine .rel _ (chk_used _ _) (fun x ks' hR=>?_)
 obtain⟨rfl,rfl⟩:=hR
 conv=>whnf
 refine⟨by omega,?_⟩
 conv=>whnf
 refine⟨[0,3],.v .nilIface,Bst.fl (.live (b++[c])),rfl,rfl,rfl,?_,_,rfl,rfl,rfl⟩
 repeat'(first|exact ⟨⟩|exact rfl|exact fun _=>Iff.rfl|exact fun _ _=>rfl|exact renM_rests _ _|exact(List.length_append ..).symm|exact byteAt_cat _ _|apply And.intro)
 ·simp
 ·intro i hi
  exact(show catF b.length (bytesF b) (chunk [DV.int IntKind.u8 ↑c.toNat] 1) i=_ from byteAt_put b c i hi)
end Go.Proofs.YtdfdlbnojmlpiaaGreatDoor
namespace Go.Proofs.YtdfdlbnojmlpiaaGreatDoor
open Go Go.Eng
set_option maxRecDepth 100000
theorem ww0(pre:List KB)(c:UInt8):COk Tryz.prog 129 [.ptr pre.length 0,.d (.int .u8 (c.toNat:Int))] (pre++[.cells 92 [.v (.pointer none),nilS]]) (fun r k=>r = .v .nilIface∧k=pre++[pk (Bst.fl (.live [c]))]):=by
 have:=(packIn (wb0_ok c)).among pre [] (fun s k ⟨b1,hk,_⟩=>by rw[hk];exact Nat.le_refl _) rfl
 refine COk.imp (this:COk _ _ [.ptr pre.length 0,.d (.int .u8 (c.toNat:Int))] (pre++[.cells 92 [.v (.pointer none),nilS]]) _) fun s k ⟨s0,k1,⟨b1,hk1,hr,hb1⟩,hs,hk⟩=>?_
 subst hr hk1 hb1
 exact⟨by rw[hs];rfl,by rw[hk];rfl⟩
theorem w8_byte{q:List UInt8}(h:q.length≤63):IntKind.u8.wrap (q.length:Int)=((UInt8.ofNat q.length).toNat:Int):=by
 rw[toNat_ofNat (by omega),IntKind.wrap_u8]
 omega
theorem labs_take_le(l:List (List UInt8))(i:Nat):(labs (l.take i)).length≤(labs l).length:=by
 have:labs l=labs (l.take i)++labs (l.drop i):=by rw[←labs_append,List.take_append_drop]
 rw[this,List.length_append];omega
theorem labs_len_ge:∀ (l:List (List UInt8)),l.length≤(labs l).length
 |[]=>Nat.le_refl _
 |x :: l=>by
  show l.length+1≤(lab x++labs l).length
  rw[List.length_append,lab_len]
  have:=labs_len_ge l
  omega
set_option maxHeartbeats 4000000 in
theorem ljoin_ok(z:Bool)(l:List (List UInt8))(hl:l≠[])(hs:∀ x ∈ l,okL x)(hm:(mk l).length≤255):FnOk Tryz.prog 135 [.d (.str [0]),.d (.sl z l.length 1 (strs l))] (.tup [.d (.str (mk l)),.d (.int .i64 0)]):=by
 refine fnOk_of_run (TT:=TT) (IN:=lookI []) TT_ok INok_nil mixed 1000 Tryz.func135 rfl (enters Tryz.func135 (by kernel_rfl) rfl) rfl 53 (by kernel_rfl) ?_
 conv=>whnf
 refine .one (.data _ (check_ok [0]) rfl rfl ?_)
 conv=>whnf
 refine⟨fun h=>absurd h (by decide),fun _=>?_⟩
 conv=>whnf
 have hml:(labs l).length+1=(mk l).length:=by rw[←labs_mk,List.length_append];rfl
 have hll:=labs_len_ge l
 refine .inv Nat (fun i=>i≤l.length) (fun i=>[(6,.d (.int .i64 ((labs (l.take i)).length+1:Nat))),(19,.d (.int .i64 i))]) (fun _=>[]) (fun i=>l.length - i) ⟨0,[],Nat.zero_le _,?_⟩ ?_
 ·conv=>whnf
  repeat'(first|exact ⟨⟩|exact rfl|exact fun _=>Iff.rfl|exact fun _ _=>rfl|exact renM_ent rfl _|apply And.intro)
 intro i hi
 conv=>whnf
 have htl:=labs_take_le l i
 refine⟨fun c1=>?_,fun c1=>?_⟩
 ·have c1:(i:Int)<l.length:=of_decide_eq_true c1
  have hil:i<l.length:=by omega
  obtain⟨q,hq⟩:∃ q,l[i]?.getD []=q:=⟨_,rfl⟩
  have hq2:l[i]? = some q:=by rw[←hq,List.getElem?_eq_getElem hil];rfl
  have htk:l.take (i+1)=l.take i++[q]:=by rw[List.take_add_one,hq2];rfl
  have hqo:=hs q (List.mem_of_getElem? hq2)
  have hql:=hqo.1
  have hqm:=hqo.2
  have hw1:IntKind.i64.wrap ((i:Int)+1)=((i+1:Nat):Int):=by rw[w64_in _ (by omega)];omega
  conv=>whnf
  refine⟨by omega,?_⟩
  conv=>whnf
  rw[Int.toNat_natCast,hq]
  refine brF (by rw[beq_eq_false_iff_ne];omega) ?_
  conv=>whnf
  refine brF (decide_eq_false (by omega)) ?_
  conv=>whnf
  refine⟨i+1,[],hil,by omega,?_⟩
  conv=>whnf
  have hcat:labs (l.take (i+1))=labs (l.take i)++lab q:=by rw[htk,labs_snoc]
  have hle:=labs_take_le l (i+1)
  rw [hcat,List.length_append,lab_len] at hle
  rw[hw1,hcat,List.length_append,lab_len,w64_in (1+(q.length:Int)) (by omega),w64_in _ (by omega),show(((labs (l.take i)).length+1:Nat):Int)+(1+(q.length:Int))=(((labs (l.take i)).length+(1+q.length)+1:Nat):Int) by omega]
  repeat'(first|exact ⟨⟩|exact rfl|exact fun _=>Iff.rfl|exact fun _ _=>rfl|exact renM_ent rfl _|apply And.intro)
 ·have c1:¬ (i:Int)<l.length:=of_decide_eq_false c1
  rw[List.take_of_length_le (by omega)]
  conv=>whnf
  refine brF (decide_eq_false (by omega)) ?_
  conv=>whnf
  refine .once ?_
  conv=>whnf
  refine brT (decide_eq_true (by have:=List.length_pos_iff.2 hl;omega)) ?_
  conv=>whnf
  refine⟨by have:=List.length_pos_iff.2 hl;omega,?_⟩
  conv=>whnf
  obtain⟨x,xs,rfl⟩:∃ x xs,l=x :: xs:=by
   cases l with
   |nil=>exact absurd rfl hl
   |cons x xs=>exact⟨x,xs,rfl⟩
  have hx:=hs x (by simp)
  rw[show(x :: xs)[Int.toNat 0]?.getD []=x from rfl,w8_byte hx.2]
  refine .rel _ (ww0 [] (UInt8.ofNat x.length)) (fun y ks' hR=>?_)
  obtain⟨rfl,rfl⟩:=hR
  conv=>whnf
  refine .rel _ (COk.thing Bst.fl (bw1_ok [UInt8.ofNat x.length] x (by show 1+x.length≤_;have:=hx.2;omega)) [] [] _ rfl rfl) (fun y ks' hR=>?_)
  obtain⟨_,q,⟨rfl,rfl⟩,rfl,rfl⟩:=hR
  conv=>whnf
  refine .inv Nat (fun j=>j+1≤(x :: xs).length) (fun j=>[(41,.d (.int .i64 (j+1:Nat)))]) (fun j=>[(0,pk (Bst.fl (.live (labs ((x :: xs).take (j+1))))))]) (fun j=>(x :: xs).length - (j+1)) ⟨0,[0],by simp,?_⟩ ?_
  ·have e0:labs ((x :: xs).take (0+1))=[UInt8.ofNat x.length]++x:=by
    show lab x++[]=_
    rw[List.append_nil];rfl
   conv=>whnf
   rw[e0]
   repeat'(first|exact ⟨⟩|exact rfl|exact(fun _ _ _ _ h=>⟨packed_stable _,h⟩)|exact fun _=>Iff.rfl|exact fun _ _=>rfl|apply And.intro)
  intro j hj
  generalize x :: xs=l at hl hs hm hml hll hj ⊢
  clear htl hi
  conv=>whnf
  have htl:=labs_take_le l (j+1)
  refine⟨fun c2=>?_,fun c2=>?_⟩
  ·have c2:((j+1:Nat):Int)<l.length:=of_decide_eq_true c2
   have hil:j+1<l.length:=by omega
   obtain⟨q,hq⟩:∃ q,l[j+1]?.getD []=q:=⟨_,rfl⟩
   have hq2:l[j+1]? = some q:=by rw[←hq,List.getElem?_eq_getElem hil];rfl
   have htk:l.take (j+1+1)=l.take (j+1)++[q]:=by rw[List.take_add_one,hq2];rfl
   have hqo:=hs q (List.mem_of_getElem? hq2)
   have hqm:=hqo.2
   have hw1:IntKind.i64.wrap (((j+1:Nat):Int)+1)=((j+1+1:Nat):Int):=by rw[w64_in _ (by omega)];omega
   have hcat:labs (l.take (j+1+1))=labs (l.take (j+1))++[UInt8.ofNat q.length]++q:=by rw[htk,labs_snoc,List.append_assoc];rfl
   conv=>whnf
   refine⟨by omega,?_⟩
   conv=>whnf
   rw[Int.toNat_natCast,hq,w8_byte hqm]
   refine .rel _ (COk.thing Bst.fl (wb1_ok (labs (l.take (j+1))) (UInt8.ofNat q.length) (by omega)) [] [] _ rfl rfl) (fun y ks' hR=>?_)
   obtain⟨_,_,⟨rfl,rfl⟩,rfl,rfl⟩:=hR
   conv=>whnf
   refine .rel _ (COk.thing Bst.fl (bw1_ok (labs (l.take (j+1))++[UInt8.ofNat q.length]) q (by rw[List.length_append];show _+1+_≤_;omega)) [] [] _ rfl rfl) (fun y ks' hR=>?_)
   obtain⟨_,_,⟨rfl,rfl⟩,rfl,rfl⟩:=hR
   conv=>whnf
   refine⟨j+1,[0],by show j+1+1≤l.length;omega,by show l.length - (j+1+1)<l.length - (j+1);omega,?_⟩
   rw[hcat]
   conv=>whnf
   rw[hw1]
   repeat'(first|exact ⟨⟩|exact rfl|exact(fun _ _ _ _ h=>⟨packed_stable _,h⟩)|exact fun _=>Iff.rfl|exact fun _ _=>rfl|apply And.intro)
  ·have c2:¬ ((j+1:Nat):Int)<l.length:=of_decide_eq_false c2
   have hj':j+1=l.length:=by omega
   rw [hj',List.take_length] at *
   conv=>whnf
   refine .rel _ (COk.thing Bst.fl (bw1_ok (labs l) [0] (by show _+1≤_;omega)) [] [] _ rfl rfl) (fun y ks' hR=>?_)
   obtain⟨_,_,⟨rfl,rfl⟩,rfl,rfl⟩:=hR
   conv=>whnf
   refine .rel _ (COk.thing Bst.fl (bs_ok (labs l++[0]) (by rw[List.length_append];show _+1≤_;omega)) [] [] _ rfl rfl) (fun y ks' hR=>?_)
   obtain⟨_,_,⟨rfl,rfl⟩,rfl,rfl⟩:=hR
   rw[labs_mk]
   conv=>whnf
   repeat'(first|exact ⟨⟩|exact rfl|apply And.intro|(conv=>whnf))
end Go.Proofs.YtdfdlbnojmlpiaaGreatDoor
namespace Go.Proofs.YtdfdlbnojmlpiaaGreatDoor
open Go Go.Eng
set_option maxRecDepth 100000
theorem idx_cat(c:UInt8):∀ (x y:List UInt8),(∀ b ∈ x,b≠c)→Lib.indexByte (x++c :: y) c=x.length
 |[],y,_=>by simp[Lib.indexByte]
 |b :: x,y,h=>by
  have hb:(b == c)=false:=by simpa using h b (by simp)
  have ih:=idx_cat c x y (fun d hd=>h d (by simp[hd]))
  simp only[List.cons_append,Lib.indexByte,hb,ih]
  rw[if_neg (by decide),if_neg (by simp)]
  rfl
def cutN:Nat→List UInt8→List (List UInt8)
 |0,s=>[s]
 |k+1,s=>if Lib.indexByte s 32<0 then [s] else s.take (Lib.indexByte s 32).toNat :: cutN k (s.drop ((Lib.indexByte s 32).toNat+1))
theorem cutN_cat(k:Nat)(x y:List UInt8)(h:∀ b ∈ x,b≠32):cutN (k+1) (x++32 :: y)=x :: cutN k y:=by
 have hi:=idx_cat 32 x y h
 simp only[cutN]
 rw[hi,if_neg (by omega),Int.toNat_natCast]
 simp
def wordN(B:Nat)(s:List UInt8):Option Nat:=match Lib.parseUintB B s with
 | .ok u=>some u
 |_=>none
theorem dec_all(n:Nat):∀ c ∈ Lib.decDigits n,48≤c.toNat∧c.toNat≤57:=by
 induction n using Nat.strongRecOn with
 |ind n ih =>
  intro c hc
  have hd:∀ k,k<10→48≤(UInt8.ofNat (48+k)).toNat∧(UInt8.ofNat (48+k)).toNat≤57:=by decide
  rw [Lib.decDigits] at hc
  split at hc
  ·rename_i h
   simp only [List.mem_singleton] at hc
   rw[hc]
   exact hd n h
  ·rename_i h
   rcases List.mem_append.1 hc with hc|hc
   ·exact ih (n / 10) (by omega) c hc
   ·simp only [List.mem_singleton] at hc
    rw[hc]
    exact hd _ (by omega)
theorem dec_ne(n:Nat):Lib.decDigits n≠[]:=by
 rw[Lib.decDigits]
 split <;> simp
def hexD:List UInt8:=[48,49,50,51,52,53,54,55,56,57,97,98,99,100,101,102]
def hexC(n:Nat):UInt8:=hexD.getD n 0
def hexL:List UInt8→List UInt8
 |[]=>[]
 |c :: l=>hexC (c.toNat / 16) :: hexC (c.toNat % 16) :: hexL l
def hexT(s:List UInt8):List UInt8:=if s=[] then [45] else hexL s
def unhexL:List UInt8→Option (List UInt8)
 |[]=>some []
 |[_]=>none
 |a :: b :: r=>if Lib.indexByte hexD a<0∨Lib.indexByte hexD b<0 then none else (unhexL r).map (UInt8.ofNat (16 * (Lib.indexByte hexD a).toNat+(Lib.indexByte hexD b).toNat) :: ·)
def unhexT(s:List UInt8):Option (List UInt8):=if s=[45] then some [] else if s=[]∨s.length % 2≠0∨s.length > 8192 then none else unhexL s
theorem hexI:∀ n,n<16→Lib.indexByte hexD (hexC n)=(n:Int)∧hexC n≠32∧hexC n≠45:=by decide +kernel
theorem unhex_hex:∀ s:List UInt8,unhexL (hexL s)=some s
 |[]=>rfl
 |c :: s=>by
  have h1:=(hexI (c.toNat / 16) (by have:=c.toNat_lt;omega)).1
  have h2:=(hexI (c.toNat % 16) (by omega)).1
  simp only[hexL,unhexL]
  rw[h1,h2,if_neg (by omega),unhex_hex s,Int.toNat_natCast,Int.toNat_natCast,show 16 * (c.toNat / 16)+c.toNat % 16=c.toNat by omega]
  simp
theorem hexL_len:∀ s:List UInt8,(hexL s).length=2 * s.length
 |[]=>rfl
 |c :: s=>by simp only[hexL,List.length_cons,hexL_len s];omega
theorem unhexT_hex{s:List UInt8}(h:s.length≤4096):unhexT (hexT s)=some s:=by
 unfold hexT
 split
 ·rename_i e;rw[e];rfl
 ·rename_i hne
  have hl:=hexL_len s
  obtain⟨c,r,rfl⟩:=List.exists_cons_of_ne_nil hne
  unfold unhexT
  rw [if_neg (fun e=>by have:=congrArg List.length e;simp at this hl;omega),if_neg (by rw [hl];simp [hexL];simp at h;omega)]
  exact unhex_hex _
theorem dec_no(n:Nat):∀ b ∈ Lib.decDigits n,b≠32:=fun b hb e=>by
 have:=dec_all n b hb
 rw [e] at this
 exact absurd this.1 (by decide)
theorem escB_no(c:UInt8):∀ b ∈ escB c,b≠32:=by
 have hd:=behB_dig c.toNat c.toNat_lt
 have hn:∀ x:UInt8,isDig x=true→x≠32:=fun x hx e=>by rw [e] at hx;exact absurd hx (by decide)
 unfold escB
 split
 ·rename_i h
  intro b hb
  simp only [List.mem_cons,List.mem_nil_iff,or_false] at hb
  rcases hb with rfl|rfl
  ·decide
  ·rcases h with rfl|rfl <;> decide
 ·split
  ·rename_i h
   intro b hb
   simp only [List.mem_singleton] at hb
   subst hb
   rintro rfl
   exact absurd h.1 (by decide)
  ·intro b hb
   simp only [List.mem_cons,List.mem_nil_iff,or_false] at hb
   rcases hb with rfl|rfl|rfl|rfl
   ·decide
   ·exact hn _ hd.1
   ·exact hn _ hd.2.1
   ·exact hn _ hd.2.2.1
theorem escL_no:∀ l:List UInt8,∀ b ∈ escL l,b≠32
 |[],b,h=>by cases h
 |c :: l,b,h=>by
  simp only [escL,List.mem_append] at h
  exact h.elim (escB_no c b) (escL_no l b)
theorem txtL_no:∀ ls:List (List UInt8),∀ b ∈ txtL ls,b≠32
 |[],b,h=>by cases h
 |l :: ls,b,h=>by
  simp only [txtL,List.mem_append,List.mem_cons] at h
  rcases h with h|rfl|h
  ·exact escL_no l b h
  ·decide
  ·exact txtL_no ls b h
theorem txtN_no(n:List UInt8):∀ b ∈ txtN n,b≠32:=by
 unfold txtN
 split
 ·intro b hb;simp at hb;rw [hb];decide
 ·exact txtL_no _
theorem hexL_append:∀ a b:List UInt8,hexL (a++b)=hexL a++hexL b
 |[],b=>rfl
 |c :: a,b=>by simp only[List.cons_append,hexL,hexL_append a b]
theorem hexL_snoc{l:List UInt8}{k:Nat}{c:UInt8}(h:l[k]? = some c):hexL (l.take (k+1))=hexL (l.take k)++[hexC (c.toNat / 16),hexC (c.toNat % 16)]:=by
 rw[List.take_add_one,h,hexL_append]
 simp[hexL]
theorem shr4:∀ n:Nat,n<256→((n:Nat):Int).fdiv (2 ^ min (Int.toNat 4) IntKind.u8.bits)=((n / 16:Nat):Int)∧Go.bits BinOp.and IntKind.u8 ((n:Nat):Int) 15=((n % 16:Nat):Int):=by decide +kernel
theorem unhexL_out:∀ (s r:List UInt8),unhexL s=some r→s.length=2 * r.length
 |[],r,h=>by cases h;rfl
 |[_],r,h=>by cases h
 |a :: b :: q,r,h=>by
  simp only [unhexL] at h
  split at h
  ·cases h
  ·cases hq:unhexL q with
   |none=>rw [hq] at h;cases h
   |some x =>
    rw [hq] at h
    cases h
    have:=unhexL_out q x hq
    simp only[List.length_cons,this]
    omega
theorem idxb_ok(s:List UInt8)(c:UInt8):FnOk Tryz.prog 138 [.d (.str s),.d (.int .u8 (c.toNat:Int))] (.d (.int .i64 (Lib.indexByte s c))):=by
 refine⟨enters Tryz.func138 (by kernel_rfl) rfl,fun M w vs hV hM hl hd=>?_⟩
 match vs,hl with
 |[v0,v1],_ =>
  have h0:=den_str (hd 0 _ v0 rfl rfl)
  have h1:=den_int (hd 1 _ v1 rfl rfl)
  subst h0 h1
  refine(Try.strings_IndexByte ⟨s.toArray⟩ (c.toNat:Int) w).mono ?_
  rintro e w' ⟨rfl,rfl⟩
  have:(c.toNat:Int).toNat.toUInt8=c:=by rw[Int.toNat_natCast];exact UInt8.ofNat_toNat
  rw[this]
  exact⟨_,rfl,Step.refl _ _,.d (.int _ _)⟩
theorem hexI_lt:∀ a:UInt8,Lib.indexByte hexD a<16:=fun a=>by
 have:∀ n:Nat,n<256→Lib.indexByte hexD (UInt8.ofNat n)<16:=by decide +kernel
 have:=this a.toNat a.toNat_lt
 rwa [UInt8.ofNat_toNat] at this
theorem shlor:∀ i:Nat,i<16→∀ j:Nat,j<16→IntKind.u8.wrap (Go.bits BinOp.or IntKind.i64 (IntKind.i64.wrap ((i:Int) * 2 ^ min (Int.toNat 4) IntKind.i64.bits)) (j:Int))=((UInt8.ofNat (16 * i+j)).toNat:Int):=by decide +kernel
structure UhSt where
 i:Nat
 b:List UInt8
end Go.Proofs.YtdfdlbnojmlpiaaGreatDoor
namespace Go.Proofs.YtdfdlbnojmlpiaaGreatDoor
open Go Go.Eng
set_option maxRecDepth 100000
set_option maxHeartbeats 2000000 in
theorem first_ok(s:List UInt8):FnOk Tryz.prog 159 [.d (.str s)] (.d (.int .i64 (firstN s))):=by
 refine fnOk_of_run (TT:=TT) (IN:=lookI []) TT_ok INok_nil mixed 1000 Tryz.func159 rfl (enters Tryz.func159 (by kernel_rfl) rfl) rfl 30 (by kernel_rfl) ?_
 conv=>whnf
 refine .inv Nat (fun k=>FAt s k) (fun k=>[(3,.d (.int .i64 k))]) (fun k=>[]) (fun k=>600 - k) ⟨0,[],FAt.zero s,?_⟩ ?_
 ·conv=>whnf
  repeat'(first|exact ⟨⟩|exact rfl|apply And.intro)
 intro k hk
 have hk1:=hk.1
 have hby:=bt_lt s k
 conv=>whnf
 refine⟨fun hlt=>?_,fun hge=>?_⟩
 ·conv=>whnf
  refine⟨fun hlt2=>?_,fun hge2=>?_⟩
  ·have h1:k<s.length:=by simpa using hlt
   have h2:k<255:=by simp at hlt2;omega
   obtain⟨e1,e2⟩:=hk.step h1 h2
   conv=>whnf
   refine⟨by simp;omega,?_⟩
   conv=>whnf
   rw[bt_eq]
   refine⟨fun hb=>?_,fun hb=>?_⟩
   ·have hb':bt s k≠0:=by simpa using hb
    conv=>whnf
    refine⟨by simp;omega,?_⟩
    conv=>whnf
    refine⟨k+1+bt s k,[],e2 hb',by show 600 - (k+1+bt s k)<600 - k;omega,?_⟩
    have hnx:IntKind.i64.wrap ((k:Int)+IntKind.i64.wrap (1+IntKind.i64.wrap (byteAt s (k:Int))))=((k+1+bt s k:Nat):Int):=by simp(disch:=omega) only[bt_eq,w64_in];omega
    conv=>whnf
    repeat'(first|exact ⟨⟩|exact rfl|apply And.intro)
    all_goals exact congrArg SV.d (congrArg (DV.int _) hnx)
   ·have hb':bt s k=0:=by simpa using hb
    rw [if_pos hb'] at e1
    have hw:IntKind.i64.wrap ((k:Int)+1)=((k+1:Nat):Int):=by rw[w64_in _ (by omega)];omega
    conv=>whnf
    rw[hw]
    refine⟨by omega,?_⟩
    conv=>whnf
    refine .one (.data _ (check_ok _) rfl rfl ?_)
    have hsub:sub s 0 ((k+1:Nat):Int)=s.take (k+1):=by simp[sub]
    rw[hsub]
    by_cases hn:isName (s.take (k+1))
    ·rw [if_pos hn] at e1 ⊢
     conv=>whnf
     refine brF (by decide) ?_
     conv=>whnf
     refine congrArg (DV.int _) ?_
     rw[e1,hw]
    ·rw [if_neg hn] at e1 ⊢
     conv=>whnf
     refine brT (by decide) ?_
     conv=>whnf
     exact congrArg (DV.int _) (by rw[e1];rfl)
  ·conv=>whnf
   exact congrArg (DV.int _) (by rw [hk.last (by simp at hge2;omega)];rfl)
 ·conv=>whnf
  exact congrArg (DV.int _) (by rw [hk.last (by simp at hge;omega)];rfl)
def textsF:Nat→List UInt8→Option (List (List UInt8))
 |_,[]=>some []
 |0,_ :: _=>none
 |m+1,a :: r=>if a.toNat≤r.length then (textsF m (r.drop a.toNat)).map (r.take a.toNat :: ·) else none
def textsOf(s:List UInt8):Option (List (List UInt8)):=textsF s.length s
def textsOk(s:List UInt8):Bool:=match textsOf s with
 |some l=>decide (0<l.length)
 |none=>false
def TAt(s:List UInt8)(k:Nat)(l:List (List UInt8)):Prop:=k≤s.length∧l.length≤k∧∃ m,s.length≤k+m∧(textsF m (s.drop k)).map (l ++ ·)=textsOf s
theorem TAt.zero(s:List UInt8):TAt s 0 []:=⟨Nat.zero_le _,Nat.zero_le _,s.length,by omega,by simp[textsOf]⟩
theorem TAt.step{s:List UInt8}{k:Nat}{l:List (List UInt8)}(h:TAt s k l)(hk:k<s.length):(s.length<k+1+bt s k→textsOf s=none)∧(k+1+bt s k≤s.length→TAt s (k+1+bt s k) (l++[(s.drop (k+1)).take (bt s k)])):=by
 obtain⟨h1,h2,m,h3,h4⟩:=h
 have hd:s.drop k=s[k] :: s.drop (k+1):=List.drop_eq_getElem_cons hk
 have hb:bt s k=s[k].toNat:=by simp[bt,hk]
 cases m with
 |zero=>omega
 |succ m =>
  rw [hd] at h4
  simp only [textsF,List.length_drop,←hb] at h4
  refine⟨fun hlt=>?_,fun hle=>⟨hle,by simp;omega,m,by omega,?_⟩⟩
  ·rw [if_neg (by omega)] at h4
   simpa using h4.symm
  ·rw [if_pos (by omega),List.drop_drop] at h4
   rw[←h4]
   simp[Function.comp_def]
theorem TAt.last{s:List UInt8}{k:Nat}{l:List (List UInt8)}(h:TAt s k l)(hk:k=s.length):textsOf s=some l:=by
 obtain⟨h1,h2,m,h3,h4⟩:=h
 rw[←h4,hk,List.drop_length]
 cases m <;> simp[textsF]
set_option maxHeartbeats 2000000 in
theorem texts_ok(s:List UInt8)(hs:s.length≤4096):FnOk Tryz.prog 109 [.d (.str s)] (.tup [.any,.d (.bool (textsOk s))]):=by
 refine fnOk_of_run (TT:=TT) (IN:=lookI []) TT_ok INok_nil mixed 1000 Tryz.func109 rfl (enters Tryz.func109 (by kernel_rfl) rfl) rfl 28 (by kernel_rfl) ?_
 conv=>whnf
 refine .nilT 4 9 1 (fun _=>[]) _ _ rfl ?_
 conv=>whnf
 refine .inv (Nat × List (List UInt8)) (fun p=>TAt s p.1 p.2) (fun p=>[(0,.d (.str (s.drop p.1))),(4,.all 0)]) (fun p=>[(0,.row 9 1 p.2.length .iff (strs p.2))]) (fun p=>s.length - p.1) ⟨(0,[]),[0],TAt.zero s,?_⟩ ?_
 ·conv=>whnf
  repeat'(first|exact ⟨⟩|exact rfl|apply And.intro)
  intro i hi
  exact absurd hi (by simp)
 intro p hk
 have hk0:p.1≤s.length:=hk.1
 have hk2:p.2.length≤p.1:=hk.2.1
 have hby:=bt_lt s p.1
 have hlen:(s.drop p.1).length=s.length - p.1:=by simp
 conv=>whnf
 refine⟨fun hne=>?_,fun heq=>?_⟩
 ·have hlt:p.1<s.length:=by
   rcases Nat.lt_or_ge p.1 s.length with e|e
   ·exact e
   ·rw [List.drop_eq_nil_of_le e] at hne;simp at hne
  obtain⟨e1,e2⟩:=TAt.step hk hlt
  have hb0:byteAt (s.drop p.1) 0=(bt s p.1:Int):=by
   rw[show(0:Int)=((0:Nat):Int) from rfl,bt_eq]
   simp[bt]
  conv=>whnf
  refine⟨by omega,?_⟩
  have hsz:IntKind.i64.wrap (1+IntKind.i64.wrap (byteAt (s.drop p.1) 0))=((1+bt s p.1:Nat):Int):=by rw[hb0];simp(disch:=omega) only[w64_in];omega
  conv=>whnf
  rw[hsz]
  refine⟨fun hgt=>?_,fun hle=>?_⟩
  ·conv=>whnf
   refine⟨True.intro,?_,True.intro⟩
   have:textsOk s=false:=by unfold textsOk;rw [e1 (by simp at hgt;omega)]
   rw[this]
   exact rfl
  ·have hle':p.1+1+bt s p.1≤s.length:=by simp at hle;omega
   conv=>whnf
   refine⟨by omega,?_⟩
   conv=>whnf
   refine⟨by omega,?_⟩
   conv=>whnf
   refine⟨by omega,?_⟩
   conv=>whnf
   refine⟨(p.1+1+bt s p.1,p.2++[(s.drop (p.1+1)).take (bt s p.1)]),[2],e2 hle',by show s.length - (p.1+1+bt s p.1)<s.length - p.1;omega,?_⟩
   conv=>whnf
   repeat'(first|exact ⟨⟩|exact rfl|apply And.intro)
   ·refine congrArg SV.d (congrArg DV.str ?_)
    show sub (s.drop p.1) _ _=s.drop (p.1+1+bt s p.1)
    simp only[sub,Int.toNat_natCast,List.drop_drop]
    rw[List.take_of_length_le (by simp;omega)]
    congr 1
    omega
   ·simp
   ·refine strs_cat _ _ _ ?_
    show[DV.str _]=[DV.str _]
    congr 2
    simp only[sub,Int.toNat_natCast,List.drop_drop]
    rw[show(1:Int).toNat=1 from rfl]
    congr 1
    omega
 ·have hke:p.1=s.length:=by
   simp at heq
   omega
  conv=>whnf
  refine⟨True.intro,?_,True.intro⟩
  have:textsOk s=decide (0<p.2.length):=by unfold textsOk;rw[TAt.last hk hke]
  rw[this]
  refine congrArg DV.bool ?_
  simp
def namesF:Nat→List UInt8→Option (List (List UInt8) × List UInt8)
 |0,s=>some ([],s)
 |n+1,s=>if firstN s=0 then none else (namesF n (s.drop (firstN s))).map (fun p=>(s.take (firstN s) :: p.1,p.2))
def cutF(a n c:Nat)(s:List UInt8):Option (List UInt8 × List (List UInt8) × List UInt8) :=
 if s.length<2 * a then none else (namesF n (s.drop (2 * a))).bind fun p=>if p.2.length=4 * c then some (s.take (2 * a),p.1,p.2) else none
def partsV(x:List UInt8)(l:List (List UInt8))(r:List UInt8):SV:=.agg [.d (.str x),.d (.sl (Nat.beq l.length 0) l.length 1 (strs l)),.d (.str r)]
def noParts:SV:=.agg [.d (.str []),nilS,.d (.str [])]
def cutR:Option (List UInt8 × List (List UInt8) × List UInt8)→SV
 |none=>.tup [noParts,.d .ff]
 |some (x,l,r)=>.tup [partsV x l r,.d .tt]
structure NAt(n:Nat)(s:List UInt8)(i:Nat)(l:List (List UInt8))(r:List UInt8):Prop where
 le:i≤n
 len:l.length=i
 short:r.length≤s.length
 eq:(namesF (n - i) r).map (fun p=>(l++p.1,p.2))=namesF n s
theorem NAt.zero(n:Nat)(s:List UInt8):NAt n s 0 [] s:=⟨Nat.zero_le _,rfl,Nat.le_refl _,by simp⟩
theorem NAt.step{n:Nat}{s:List UInt8}{i:Nat}{l:List (List UInt8)}{r:List UInt8}(h:NAt n s i l r)(hi:i<n):(firstN r=0→namesF n s=none)∧(firstN r≠0→NAt n s (i+1) (l++[r.take (firstN r)]) (r.drop (firstN r))):=by
 have e:=h.eq
 rw [show n - i=(n - (i+1))+1 from by omega] at e
 simp only [namesF] at e
 refine ⟨fun h0=>by rw [if_pos h0] at e;simpa using e.symm,fun h0=>⟨hi,by simp [h.len],by have:=h.short;simp;omega,?_⟩⟩
 rw [if_neg h0] at e
 rw[←e]
 simp[Function.comp_def]
theorem NAt.last{n:Nat}{s:List UInt8}{l:List (List UInt8)}{r:List UInt8}(h:NAt n s n l r):namesF n s=some (l,r):=by
 rw[←h.eq]
 simp[namesF]
set_option maxHeartbeats 4000000 in
theorem cut_ok(a n c:Nat)(ha:a≤100)(hn:n≤100)(hc:c≤100)(s:List UInt8):FnOk Tryz.prog 111 [.agg [.d (.int .i64 a),.d (.int .i64 n),.d (.int .i64 c)],.d (.str s)] (cutR (cutF a n c s)):=by
 refine fnOk_of_run (TT:=TT) (IN:=lookI []) TT_ok INok_nil mixed 1000 Tryz.func111 rfl (enters Tryz.func111 (by kernel_rfl) rfl) rfl 56 (by kernel_rfl) ?_
 have h2a:IntKind.i64.wrap (2 * (a:Int))=((2 * a:Nat):Int):=by rw[w64_in _ (by omega)];omega
 have h4c:IntKind.i64.wrap (4 * (c:Int))=((4 * c:Nat):Int):=by rw[w64_in _ (by omega)];omega
 conv=>whnf
 rw[h2a]
 refine⟨fun hlt=>?_,fun hge=>?_⟩
 ·have:cutF a n c s=none:=by unfold cutF;rw [if_pos (by simp at hlt;omega)]
  rw[this]
  conv=>whnf
  repeat'(first|exact ⟨⟩|exact rfl|exact Or.inl rfl|exact Or.inr rfl|exact fun _ _=>rfl|apply And.intro)
 ·have hge':2 * a≤s.length:=by simp at hge;omega
  conv=>whnf
  rw[h2a]
  refine⟨by omega,?_⟩
  conv=>whnf
  rw[h2a]
  refine⟨by omega,?_⟩
  conv=>whnf
  refine .nilC 2 1 9 1 (fun _=>[]) _ _ _ _ rfl rfl ?_
  conv=>whnf
  have hr0:sub s ((2 * a:Nat):Int) (s.length:Int)=s.drop (2 * a):=by
   simp only[sub,Int.toNat_natCast]
   rw[List.take_of_length_le (by simp)]
  have hx0:sub s 0 ((2 * a:Nat):Int)=s.take (2 * a):=by simp only[sub,Int.toNat_natCast];simp
  rw[hr0,hx0]
  refine .inv (Nat × List (List UInt8) × List UInt8) (fun p=>NAt n (s.drop (2 * a)) p.1 p.2.1 p.2.2) (fun p=>[(7,.d (.str p.2.2)),(29,.d (.int .i64 p.1))]) (fun p=>[(2,.cells 190 [.d (.str (s.take (2 * a))),.all 3,.d (.str [])]),(3,.row 9 1 p.2.1.length .iff (strs p.2.1))]) (fun p=>n - p.1) ⟨(0,[],s.drop (2 * a)),[0,1,2,3],NAt.zero _ _,?_⟩ ?_
  ·conv=>whnf
   repeat'(first|exact ⟨⟩|exact rfl|apply And.intro)
   intro i hi
   omega
  intro p hp
  have hp1:=hp.le
  have hp2:=hp.len
  have hp3:=hp.short
  have hf:=firstN_le p.2.2
  simp only [List.length_drop] at hp3
  conv=>whnf
  refine⟨fun hlt=>?_,fun hge=>?_⟩
  ·have hi:p.1<n:=by simpa using hlt
   obtain⟨e1,e2⟩:=hp.step hi
   conv=>whnf
   refine .one (.data _ (first_ok _) rfl rfl ?_)
   conv=>whnf
   refine⟨fun h0=>?_,fun h0=>?_⟩
   ·have h0':firstN p.2.2=0:=by simpa using h0
    have:cutF a n c s=none:=by unfold cutF;rw[if_neg (by omega),e1 h0'];rfl
    rw[this]
    conv=>whnf
    repeat'(first|exact ⟨⟩|exact rfl|exact Or.inl rfl|exact Or.inr rfl|exact fun _ _=>rfl|apply And.intro)
   ·have h0':firstN p.2.2≠0:=by simpa using h0
    conv=>whnf
    refine⟨by omega,?_⟩
    conv=>whnf
    refine⟨by omega,?_⟩
    conv=>whnf
    refine⟨by omega,?_⟩
    conv=>whnf
    refine⟨(p.1+1,p.2.1++[p.2.2.take (firstN p.2.2)],p.2.2.drop (firstN p.2.2)),[0,1,2,5],e2 h0',by show n - (p.1+1)<n - p.1;omega,?_⟩
    have hw:IntKind.i64.wrap ((p.1:Int)+1)=((p.1+1:Nat):Int):=by rw[w64_in _ (by omega)];omega
    conv=>whnf
    repeat'(first|exact ⟨⟩|exact rfl|apply And.intro)
    ·refine congrArg SV.d (congrArg DV.str ?_)
     simp only[sub,Int.toNat_natCast]
     rw[List.take_of_length_le (by simp)]
    ·exact congrArg SV.d (congrArg (DV.int _) hw)
    ·simp
    ·refine strs_cat _ _ _ ?_
     show[DV.str _]=[DV.str _]
     simp[sub]
  ·have hi:p.1=n:=by simp at hge;omega
   rw [hi] at hp
   have hnm:=hp.last
   conv=>whnf
   rw[h4c]
   refine⟨fun hne=>?_,fun heq=>?_⟩
   ·have:cutF a n c s=none:=by unfold cutF;rw [if_neg (by omega),hnm];simp at hne ⊢;omega
    rw[this]
    conv=>whnf
    repeat'(first|exact ⟨⟩|exact rfl|exact Or.inl rfl|exact Or.inr rfl|exact fun _ _=>rfl|apply And.intro)
   ·have:cutF a n c s=some (s.take (2 * a),p.2.1,p.2.2):=by unfold cutF;rw [if_neg (by omega),hnm];simp at heq ⊢;omega
    rw[this]
    conv=>whnf
    repeat'(first|exact ⟨⟩|exact rfl|exact Or.inl rfl|exact Or.inr rfl|exact fun _ _=>rfl|apply And.intro)
def formOf(t:Int):Option (Nat × Nat × Nat) :=
 if t=2∨t=5∨t=12 then some (0,1,0) else if t=15 then some (1,1,0) else if t=33 then some (3,1,0) else if t=6 then some (0,2,5) else none
def formV(p:Nat × Nat × Nat):SV:=.agg [.d (.int .i64 p.1),.d (.int .i64 p.2.1),.d (.int .i64 p.2.2)]
def formR:Option (Nat × Nat × Nat)→SV
 |some p=>.tup [formV p,.d .tt]
 |none=>.tup [formV (0,0,0),.d .ff]
theorem formOf_le{t:Int}{p:Nat × Nat × Nat}(h:formOf t=some p):p.1≤100∧p.2.1≤100∧p.2.2≤100:=by
 unfold formOf at h
 repeat'(split at h)
 all_goals first|(cases h;decide)|cases h
set_option maxHeartbeats 4000000 in
theorem formOf_ok(t:Int):FnOk Tryz.prog 110 [.d (.int .u16 t)] (formR (formOf t)):=by
 refine fnOk_of_run (TT:=TT) (IN:=lookI []) TT_ok INok_nil mixed 1000 Tryz.func110 rfl (enters Tryz.func110 (by kernel_rfl) rfl) rfl 19 (by kernel_rfl) ?_
 have fin1:t=2∨t=5∨t=12→formOf t=some (0,1,0):=fun h=>by unfold formOf;rw[if_pos h]
 conv=>whnf
 refine⟨fun h1=>?_,fun h1=>?_⟩
 ·rw[fin1 (.inl (by simpa using h1))]
  conv=>whnf
  refine brT h1 ?_
  conv=>whnf
  repeat'(first|exact ⟨⟩|exact rfl|apply And.intro)
 simp only [beq_eq_false_iff_ne,ne_eq] at h1
 conv=>whnf
 refine⟨fun h2=>?_,fun h2=>?_⟩
 ·rw[fin1 (.inr (.inl (by simpa using h2)))]
  conv=>whnf
  refine brT h2 ?_
  conv=>whnf
  repeat'(first|exact ⟨⟩|exact rfl|apply And.intro)
 simp only [beq_eq_false_iff_ne,ne_eq] at h2
 conv=>whnf
 refine⟨fun h3=>?_,fun h3=>?_⟩
 ·rw[fin1 (.inr (.inr (by simpa using h3)))]
  conv=>whnf
  repeat'(first|exact ⟨⟩|exact rfl|apply And.intro)
 simp only [beq_eq_false_iff_ne,ne_eq] at h3
 conv=>whnf
 refine⟨fun h4=>?_,fun h4=>?_⟩
 ·have:formOf t=some (1,1,0):=by unfold formOf;simp at h4;simp [h4]
  rw[this]
  conv=>whnf
  repeat'(first|exact ⟨⟩|exact rfl|apply And.intro)
 simp only [beq_eq_false_iff_ne,ne_eq] at h4
 conv=>whnf
 refine⟨fun h5=>?_,fun h5=>?_⟩
 ·have:formOf t=some (3,1,0):=by unfold formOf;simp at h5;simp [h5]
  rw[this]
  conv=>whnf
  repeat'(first|exact ⟨⟩|exact rfl|apply And.intro)
 simp only [beq_eq_false_iff_ne,ne_eq] at h5
 conv=>whnf
 refine⟨fun h6=>?_,fun h6=>?_⟩
 ·have:formOf t=some (0,2,5):=by unfold formOf;simp at h6;simp [h6]
  rw[this]
  conv=>whnf
  repeat'(first|exact ⟨⟩|exact rfl|apply And.intro)
 simp only [beq_eq_false_iff_ne,ne_eq] at h6
 have:formOf t=none:=by unfold formOf;simp[h1,h2,h3,h4,h5,h6]
 rw[this]
 conv=>whnf
 repeat'(first|exact ⟨⟩|exact rfl|apply And.intro)
def rgood(t:Int)(s:List UInt8):Bool :=
 if t=1 then s.length == 4 else if t=28 then s.length == 16 else if t=16 then textsOk s else match formOf t with
 |some p=>(cutF p.1 p.2.1 p.2.2 s).isSome
 |none=>true
def rcheck(t:Int)(s:List UInt8):Bool:=decide (s.length≤4096) && rgood t s
set_option maxHeartbeats 4000000 in
theorem rcheck_ok(t:Int)(s:List UInt8):FnOk Tryz.prog 52 [.d (.int .u16 t),.d (.str s)] (.d (.int .i64 (errno (rcheck t s)))):=by
 refine fnOk_of_run (TT:=TT) (IN:=lookI []) TT_ok INok_nil mixed 1000 Tryz.func52 rfl (enters Tryz.func52 (by kernel_rfl) rfl) rfl 43 (by kernel_rfl) ?_
 conv=>whnf
 refine⟨fun h0=>?_,fun h0=>?_⟩
 ·have:rcheck t s=false:=by unfold rcheck;simp at h0;simp;intro h;omega
  rw[this]
  conv=>whnf
  exact rfl
 have hle:s.length≤4096:=by simp at h0;omega
 have hr:rcheck t s=rgood t s:=by unfold rcheck;simp[hle]
 rw[hr]
 have hlast:∀ b:Bool,rgood t s=b→(((!b)=true→(if rgood t s=true then (0:Int) else 2)=2)∧((!b)=false→(if rgood t s=true then (0:Int) else 2)=0)):=fun b h=>by rw[h];cases b <;> simp
 conv=>whnf
 refine⟨fun h1=>?_,fun h1=>?_⟩
 ·simp only [beq_iff_eq] at h1
  have e:rgood t s=((s.length:Int) == 4):=by unfold rgood;rw[if_pos h1,←lenEq];rfl
  obtain⟨l1,l2⟩:=hlast _ e
  conv=>whnf
  refine⟨fun h=>?_,fun h=>?_⟩
  ·conv=>whnf
   exact congrArg (DV.int _) (l1 h).symm
  ·conv=>whnf
   exact congrArg (DV.int _) (l2 h).symm
 simp only [beq_eq_false_iff_ne,ne_eq] at h1
 conv=>whnf
 refine⟨fun h2=>?_,fun h2=>?_⟩
 ·simp only [beq_iff_eq] at h2
  have e:rgood t s=((s.length:Int) == 16):=by unfold rgood;rw[if_neg h1,if_pos h2,←lenEq];rfl
  obtain⟨l1,l2⟩:=hlast _ e
  conv=>whnf
  refine⟨fun h=>?_,fun h=>?_⟩
  ·conv=>whnf
   exact congrArg (DV.int _) (l1 h).symm
  ·conv=>whnf
   exact congrArg (DV.int _) (l2 h).symm
 simp only [beq_eq_false_iff_ne,ne_eq] at h2
 conv=>whnf
 refine⟨fun h3=>?_,fun h3=>?_⟩
 ·simp only [beq_iff_eq] at h3
  have e:rgood t s=textsOk s:=by unfold rgood;rw[if_neg h1,if_neg h2,if_pos h3]
  obtain⟨l1,l2⟩:=hlast _ e
  conv=>whnf
  refine .one (.data _ (texts_ok s hle) rfl rfl ?_)
  conv=>whnf
  refine⟨fun h=>?_,fun h=>?_⟩
  ·conv=>whnf
   exact congrArg (DV.int _) (l1 h).symm
  ·conv=>whnf
   exact congrArg (DV.int _) (l2 h).symm
 simp only [beq_eq_false_iff_ne,ne_eq] at h3
 conv=>whnf
 refine .one (.data _ (formOf_ok t) rfl ?_ ?_)
 ·cases formOf t <;> rfl
 cases hf:formOf t with
 |none =>
  have e:rgood t s=true:=by unfold rgood;rw[if_neg h1,if_neg h2,if_neg h3,hf]
  obtain⟨l1,l2⟩:=hlast _ e
  conv=>whnf
  refine brF (by simpa using h0) ?_
  conv=>whnf
  exact congrArg (DV.int _) (l2 rfl).symm
 |some p =>
  obtain⟨f1,f2,f3⟩:=formOf_le hf
  have e:rgood t s=(cutF p.1 p.2.1 p.2.2 s).isSome:=by unfold rgood;rw[if_neg h1,if_neg h2,if_neg h3,hf]
  obtain⟨l1,l2⟩:=hlast _ e
  conv=>whnf
  refine .one (.data _ (cut_ok p.1 p.2.1 p.2.2 f1 f2 f3 s) rfl ?_ ?_)
  ·cases cutF p.1 p.2.1 p.2.2 s <;> rfl
  cases hc:cutF p.1 p.2.1 p.2.2 s with
  |none =>
   rw [hc] at l1
   conv=>whnf
   exact congrArg (DV.int _) (l1 rfl).symm
  |some q =>
   rw [hc] at l2
   conv=>whnf
   exact congrArg (DV.int _) (l2 rfl).symm
end Go.Proofs.YtdfdlbnojmlpiaaGreatDoor
namespace Go.Proofs.YtdfdlbnojmlpiaaGreatDoor
open Go Go.Eng
def lookF(t:Int)(s:List UInt8):Option ((Nat × Nat × Nat) × (List UInt8 × List (List UInt8) × List UInt8)) :=
 if s.length≤4096 then (formOf t).bind fun p=>(cutF p.1 p.2.1 p.2.2 s).map fun q=>(p,q) else none
def lookR:Option ((Nat × Nat × Nat) × (List UInt8 × List (List UInt8) × List UInt8))→SV
 |none=>.tup [.agg [.any,.any,.any],noParts,.d .ff]
 |some (p,x,l,r)=>.tup [formV p,partsV x l r,.d .tt]
set_option maxRecDepth 100000
set_option maxHeartbeats 4000000 in
theorem look_ok(t:Int)(s:List UInt8):FnOk Tryz.prog 145 [.d (.int .u16 t),.d (.str s)] (lookR (lookF t s)):=by
 refine fnOk_of_run (TT:=TT) (IN:=lookI []) TT_ok INok_nil mixed 1000 Tryz.func145 rfl (enters Tryz.func145 (by kernel_rfl) rfl) rfl 32 (by kernel_rfl) ?_
 conv=>whnf
 refine .one (.data _ (formOf_ok t) rfl ?_ ?_)
 ·cases formOf t <;> rfl
 cases hf:formOf t with
 |none =>
  have e:lookF t s=none:=by unfold lookF;rw[hf];split <;> rfl
  rw[e]
  conv=>whnf
  repeat'(first|exact ⟨⟩|exact rfl|exact Or.inl rfl|exact Or.inr rfl|exact fun _ _=>rfl|apply And.intro)
 |some p =>
  obtain⟨f1,f2,f3⟩:=formOf_le hf
  conv=>whnf
  refine⟨fun hgt=>?_,fun hle=>?_⟩
  ·have e:lookF t s=none:=by unfold lookF;rw [if_neg (by simp at hgt;omega)]
   rw[e]
   conv=>whnf
   repeat'(first|exact ⟨⟩|exact rfl|exact Or.inl rfl|exact Or.inr rfl|exact fun _ _=>rfl|apply And.intro)
  ·have e:lookF t s=(cutF p.1 p.2.1 p.2.2 s).map fun q=>(p,q):=by unfold lookF;rw [if_pos (by simp at hle;omega),hf];rfl
   rw[e]
   conv=>whnf
   refine .one (.data _ (cut_ok p.1 p.2.1 p.2.2 f1 f2 f3 s) rfl ?_ ?_)
   ·cases cutF p.1 p.2.1 p.2.2 s <;> rfl
   cases hc:cutF p.1 p.2.1 p.2.2 s with
   |none =>
    conv=>whnf
    (apply Exists.intro;apply Exists.intro;apply And.intro;focus ((conv=>whnf);repeat'(first|exact ⟨⟩|exact rfl|apply And.intro)))
    conv=>whnf
    repeat'(first|exact ⟨⟩|exact rfl|exact Or.inl rfl|exact Or.inr rfl|exact fun _ _=>rfl|apply And.intro)
   |some q =>
    conv=>whnf
    (apply Exists.intro;apply Exists.intro;apply And.intro;focus ((conv=>whnf);repeat'(first|exact ⟨⟩|exact rfl|apply And.intro)))
    conv=>whnf
    repeat'(first|exact ⟨⟩|exact rfl|exact Or.inl rfl|exact Or.inr rfl|exact fun _ _=>rfl|apply And.intro)
def rfold(t:Int)(s:List UInt8):List UInt8:=match lookF t s with
 |none=>s
 |some (_,x,l,r)=>x++fold (Lib.join l [])++r
theorem join_nil(l:List (List UInt8)):Lib.join l []=l.flatten:=by
 induction l with
 |nil=>rfl
 |cons a l ih=>cases l with
  |nil=>simp[Lib.join]
  |cons b l=>simp [Lib.join] at ih ⊢;rw [ih]
theorem namesF_len:∀ (n:Nat) (s:List UInt8) (l:List (List UInt8)) (r:List UInt8),namesF n s=some (l,r)→l.length=n∧l.flatten.length+r.length=s.length:=by
 intro n
 induction n with
 |zero=>intro s l r h;simp only [namesF,Option.some.injEq,Prod.mk.injEq] at h;obtain ⟨rfl,rfl⟩:=h;simp
 |succ n ih =>
  intro s l r h
  simp only [namesF] at h
  split at h
  ·cases h
  ·cases hn:namesF n (s.drop (firstN s)) with
   |none=>rw [hn] at h;cases h
   |some p =>
    rw [hn] at h
    simp only [Option.map_some,Option.some.injEq,Prod.mk.injEq] at h
    obtain⟨rfl,rfl⟩:=h
    obtain⟨h1,h2⟩:=ih _ p.1 p.2 hn
    have:=firstN_le s
    refine⟨by simp[h1],?_⟩
    simp only [List.flatten_cons,List.length_append,List.length_take,List.length_drop] at h2 ⊢
    omega
theorem lookF_len{t:Int}{s:List UInt8}{p:Nat × Nat × Nat}{x:List UInt8}{l:List (List UInt8)}{r:List UInt8}(h:lookF t s=some (p,x,l,r)):s.length≤4096∧l.length≤100∧x.length+l.flatten.length+r.length=s.length:=by
 unfold lookF at h
 split at h
 ·rename_i hs
  cases hf:formOf t with
  |none=>rw [hf] at h;cases h
  |some q =>
   rw [hf] at h
   simp only [Option.bind_some] at h
   cases hc:cutF q.1 q.2.1 q.2.2 s with
   |none=>rw [hc] at h;cases h
   |some c =>
    rw [hc] at h
    simp only [Option.map_some,Option.some.injEq,Prod.mk.injEq] at h
    obtain⟨rfl,rfl⟩:=h
    unfold cutF at hc
    split at hc
    ·cases hc
    ·cases hn:namesF q.2.1 (s.drop (2 * q.1)) with
     |none=>rw [hn] at hc;cases hc
     |some y =>
      rw [hn] at hc
      simp only [Option.bind_some] at hc
      split at hc
      ·simp only [Option.some.injEq,Prod.mk.injEq] at hc
       obtain⟨rfl,rfl,rfl⟩:=hc
       obtain⟨h1,h2⟩:=namesF_len _ _ y.1 y.2 hn
       have:=(formOf_le hf).2.1
       refine⟨hs,by omega,?_⟩
       simp only [List.length_take,List.length_drop] at h2 ⊢
       omega
      ·cases hc
 ·cases h
set_option maxHeartbeats 4000000 in
theorem rfold_ok(t:Int)(s:List UInt8):FnOk Tryz.prog 117 [.d (.int .u16 t),.d (.str s)] (.d (.str (rfold t s))):=by
 refine fnOk_of_run (TT:=TT) (IN:=lookI []) TT_ok INok_nil mixed 1000 Tryz.func117 rfl (enters Tryz.func117 (by kernel_rfl) rfl) rfl 26 (by kernel_rfl) ?_
 conv=>whnf
 refine .one (.data _ (look_ok t s) rfl ?_ ?_)
 ·cases lookF t s <;> rfl
 cases hf:lookF t s with
 |none =>
  have e:rfold t s=s:=by unfold rfold;rw[hf]
  rw[e]
  conv=>whnf
 |some p =>
  obtain⟨p,x,l,r⟩:=p
  obtain⟨h1,h2,h3⟩:=lookF_len hf
  have e:rfold t s=x++fold (Lib.join l [])++r:=by unfold rfold;rw[hf]
  rw[e]
  conv=>whnf
  refine .data _ (join_ok _ l [] (by omega) (by rw[join_nil];omega)) rfl rfl ?_
  conv=>whnf
  refine .data _ (fold_ok _ (by rw[join_nil];omega)) rfl rfl ?_
  have hfl:(fold (Lib.join l [])).length=l.flatten.length:=by rw[join_nil];simp only[fold,List.length_map]
  conv=>whnf
  refine⟨by omega,?_⟩
  conv=>whnf
  refine⟨by simp only[List.length_append];omega,?_⟩
  conv=>whnf
def rising(t:Int):Bool→List UInt8→List (List UInt8)→Bool
 |_,_,[]=>true
 |b,last,d :: l=>rcheck t d && !(b && (Op.bytesLess (rfold t d) last || rfold t d == last)) && rising t true (rfold t d) l
def scheck(name:List UInt8)(t ttl:Int)(l:List (List UInt8)):Bool :=
 isName name && decide (ttl≤2147483647) && decide (0<l.length∧l.length≤64) && rising t false [] l
def setV(name:List UInt8)(t ttl:Int)(b:Bool)(l:List (List UInt8)):SV:=.agg [.d (.str name),.d (.int .u16 t),.d (.int .u32 ttl),.d (.sl b l.length 1 (strs l))]
set_option maxHeartbeats 4000000 in
theorem scheck_ok(name:List UInt8)(t ttl:Int)(b:Bool)(l:List (List UInt8)):FnOk Tryz.prog 88 [setV name t ttl b l] (.d (.int .i64 (errno (scheck name t ttl l)))):=by
 refine fnOk_of_run (TT:=TT) (IN:=lookI []) TT_ok INok_nil mixed 1000 Tryz.func88 rfl (enters Tryz.func88 (by kernel_rfl) rfl) rfl 51 (by kernel_rfl) ?_
 have bad:scheck name t ttl l=false→errno (scheck name t ttl l)=2:=fun h=>by rw[h];rfl
 conv=>whnf
 refine .one (.data _ (check_ok _) rfl rfl ?_)
 by_cases hn:isName name
 ·rw[if_pos hn]
  conv=>whnf
  refine brF (by decide) ?_
  conv=>whnf
  refine⟨fun hgt=>?_,fun hle=>?_⟩
  ·rw [bad (by simp only [scheck,Bool.and_eq_false_iff,decide_eq_false_iff_not];simp at hgt;omega)]
   conv=>whnf
  conv=>whnf
  refine⟨fun h0=>?_,fun h0=>?_⟩
  ·rw [bad (by simp only [scheck,Bool.and_eq_false_iff,decide_eq_false_iff_not];simp at h0;simp [h0])]
   conv=>whnf
  conv=>whnf
  refine⟨fun h1=>?_,fun h1=>?_⟩
  ·rw [bad (by simp only [scheck,Bool.and_eq_false_iff,decide_eq_false_iff_not];simp at h1;omega)]
   conv=>whnf
  have hl:0<l.length∧l.length≤64:=by simp at h0 h1;exact ⟨by rw [List.length_pos_iff];exact h0,by omega⟩
  have hsc:scheck name t ttl l=rising t false [] l:=by
   unfold scheck
   rw[decide_eq_true hl]
   have:ttl≤2147483647:=by simpa using hle
   simp[hn,this]
  rw[hsc]
  conv=>whnf
  refine .inv (Nat × List UInt8) (fun p=>p.1≤l.length∧rising t (decide (0<p.1)) p.2 (l.drop p.1)=rising t false [] l) (fun p=>[(3,.d (.str p.2)),(29,.d (.int .i64 p.1))]) (fun p=>[]) (fun p=>l.length - p.1) ⟨(0,[]),[0],⟨by omega,rfl⟩,?_⟩ ?_
  ·conv=>whnf
   repeat'(first|exact ⟨⟩|exact rfl|apply And.intro)
  intro p hp
  obtain⟨hp1,hp2⟩:=hp
  conv=>whnf
  refine⟨fun hlt=>?_,fun hge=>?_⟩
  ·have hi:p.1<l.length:=by simpa using hlt
   have hd:l.drop p.1=l[p.1] :: l.drop (p.1+1):=List.drop_eq_getElem_cons hi
   rw [hd] at hp2
   simp only [rising] at hp2
   conv=>whnf
   refine⟨by omega,?_⟩
   conv=>whnf
   have hel:l[((p.1:Nat):Int).toNat]?.getD []=l[p.1]:=by simp[hi]
   rw[hel]
   generalize hdd:l[p.1]=d at hp2 ⊢
   refine .one (.data _ (rcheck_ok t d) rfl rfl ?_)
   cases hr:rcheck t d with
   |false =>
    rw [hr,Bool.false_and,Bool.false_and] at hp2
    rw[show rising t false [] l=false from hp2.symm]
    conv=>whnf
    refine brT (by decide) ?_
    conv=>whnf
    exact rfl
   |true =>
    rw [hr,Bool.true_and] at hp2
    conv=>whnf
    refine brF (by decide) ?_
    conv=>whnf
    refine .one (.data _ (rfold_ok t d) rfl rfl ?_)
    conv=>whnf
    have fin:∀ z:Bool,((decide (0<p.1) && (Op.bytesLess (rfold t d) p.2 || rfold t d == p.2))=z)→z=false→rising t true (rfold t d) (l.drop (p.1+1))=rising t false [] l:=fun z h1 h2=>by rw [h2] at h1;rw [h1] at hp2;simpa using hp2
    have hw:IntKind.i64.wrap ((p.1:Int)+1)=((p.1+1:Nat):Int):=by rw[w64_in _ (by omega)];omega
    refine⟨fun hg=>?_,fun hg=>?_⟩
    ·have hg':0<p.1:=by simp at hg;omega
     conv=>whnf
     refine⟨fun hle=>?_,fun hle=>?_⟩
     ·have:(Op.bytesLess (rfold t d) p.2 || rfold t d == p.2)=true:=hle
      rw [this] at hp2
      rw [decide_eq_true hg'] at hp2
      rw[show rising t false [] l=false from hp2.symm]
      conv=>whnf
      exact rfl
     ·conv=>whnf
      refine⟨(p.1+1,rfold t d),[0],⟨hi,?_⟩,by show l.length - (p.1+1)<l.length - p.1;omega,?_⟩
      ·rw[decide_eq_true (Nat.succ_pos _)]
       exact fin _ rfl (by rw[show(Op.bytesLess (rfold t d) p.2 || rfold t d == p.2)=false from hle,Bool.and_false])
      conv=>whnf
      repeat'(first|exact ⟨⟩|exact rfl|apply And.intro)
      all_goals exact congrArg SV.d (congrArg (DV.int _) hw)
    ·have hg':p.1=0:=by simp at hg;omega
     conv=>whnf
     refine⟨(p.1+1,rfold t d),[0],⟨hi,?_⟩,by show l.length - (p.1+1)<l.length - p.1;omega,?_⟩
     ·rw[decide_eq_true (Nat.succ_pos _)]
      exact fin _ rfl (by rw[hg'];rfl)
     conv=>whnf
     repeat'(first|exact ⟨⟩|exact rfl|apply And.intro)
     all_goals exact congrArg SV.d (congrArg (DV.int _) hw)
  ·have hi:p.1=l.length:=by simp at hge;omega
   rw [hi,List.drop_length] at hp2
   rw[←hp2]
   conv=>whnf
   exact congrArg (DV.int _) rfl
 ·rw[if_neg hn]
  rw[bad (by simp[scheck,hn])]
  conv=>whnf
  refine brT (by decide) ?_
  conv=>whnf
end Go.Proofs.YtdfdlbnojmlpiaaGreatDoor
namespace Go.Proofs.YtdfdlbnojmlpiaaGreatDoor
open Go Go.Eng
set_option maxRecDepth 100000
def bK(s:List UInt8):KB:=match s with
 |[]=>.cells 92 [.v (.pointer none),nilS]
 |c :: r=>pk (Bst.fl (.live (c :: r)))
theorem bK_live{s:List UInt8}(h:s≠[]):bK s=pk (Bst.fl (.live s)):=by
 cases s with
 |nil=>exact absurd rfl h
 |cons c r=>rfl
theorem wbK(s:List UInt8)(c:UInt8)(hs:s.length+1≤70368744177664):COk Tryz.prog 129 [.ptr 0 0,.d (.int .u8 (c.toNat:Int))] [bK s] (fun r k=>r = .v .nilIface∧k=[bK (s++[c])]):=by
 cases s with
 |nil=>exact ww0 [] c
 |cons x s =>
  refine(COk.thing Bst.fl (wb1_ok (x :: s) c hs) [] [] _ rfl rfl).imp fun r k ⟨s0,a1,⟨h1,h2⟩,h3,h4⟩=>?_
  subst h1 h2
  exact⟨by rw[h3];rfl,by rw[h4];rfl⟩
theorem tellD:∀ n:Nat,n<256→IntKind.u8.wrap (48+IntKind.u8.wrap ((n:Int).tdiv 100))=((UInt8.ofNat (48+n / 100)).toNat:Int) ∧
 IntKind.u8.wrap (48+(IntKind.u8.wrap ((n:Int).tdiv 10)).tmod 10)=((UInt8.ofNat (48+n / 10 % 10)).toNat:Int) ∧
 IntKind.u8.wrap (48+(n:Int).tmod 10)=((UInt8.ofNat (48+n % 10)).toNat:Int):=by decide +kernel
theorem eqc(c d:UInt8):(((c.toNat:Int)) == (d.toNat:Int))=decide (c=d):=by
 rw[Bool.eq_iff_iff,beq_iff_eq,decide_eq_true_eq]
 constructor
 ·intro h;exact UInt8.toNat_inj.1 (by omega)
 ·intro h;rw[h]
set_option maxHeartbeats 4000000 in
theorem tell_ok(s:List UInt8)(c:UInt8)(hs:s.length+4≤70368744177664):COk Tryz.prog 128 [.ptr 0 0,.d (.int .u8 (c.toNat:Int))] [bK s] (fun r k=>r = .tup []∧k=[bK (s++escB c)]):=by
 have hc:=c.toNat_lt
 obtain⟨d1,d2,d3⟩:=tellD c.toNat hc
 cases s with
 |nil =>
  refine cOk_of_run (TT:=TT) (IN:=lookI []) TT_ok INok_nil mixed 1000 Tryz.func128 rfl (enters Tryz.func128 (by kernel_rfl) rfl) 42 (by kernel_rfl) ?_
  conv=>whnf
  rw[show(((c.toNat:Int)) == 46)=decide (c=46) from eqc c 46]
  by_cases h46:c=46
  ·have he:escB c=[92,c]:=if_pos (.inl h46)
   rw[he]
   refine brT (decide_eq_true h46) ?_
   conv=>whnf
   repeat(first|(refine brF rfl ?_;conv=>whnf)|(refine brT rfl ?_;conv=>whnf))
   refine .rel _ (ww0 [] 92) (fun x ks' hR=>?_)
   obtain⟨rfl,rfl⟩:=hR
   conv=>whnf
   refine .rel _ (COk.thing Bst.fl (wb1_ok [92] c (by simp)) [] [] _ rfl rfl) (fun y ks' hR=>?_)
   obtain⟨_,_,⟨rfl,rfl⟩,rfl,rfl⟩:=hR
   conv=>whnf
   refine⟨[0],.tup [],[pk (Bst.fl (.live ([92]++[c])))],rfl,rfl,?_,?_,rfl,?_⟩
   ·(conv=>whnf);repeat'(first|exact ⟨⟩|exact rfl|exact fun _=>Iff.rfl|exact fun _ _=>rfl|exact renM_ent rfl _|apply And.intro)
   ·repeat'(first|exact ⟨⟩|exact rfl|exact(fun _ _ _ _ h=>⟨packed_stable _,h⟩)|exact fun _=>Iff.rfl|exact fun _ _=>rfl|apply And.intro)
   ·rfl
  refine brF (decide_eq_false h46) ?_
  conv=>whnf
  rw[show(((c.toNat:Int)) == 92)=decide (c=92) from eqc c 92]
  by_cases h92:c=92
  ·have he:escB c=[92,c]:=if_pos (.inr h92)
   rw[he]
   refine brT (decide_eq_true h92) ?_
   conv=>whnf
   repeat(first|(refine brF rfl ?_;conv=>whnf)|(refine brT rfl ?_;conv=>whnf))
   refine .rel _ (ww0 [] 92) (fun x ks' hR=>?_)
   obtain⟨rfl,rfl⟩:=hR
   conv=>whnf
   refine .rel _ (COk.thing Bst.fl (wb1_ok [92] c (by simp)) [] [] _ rfl rfl) (fun y ks' hR=>?_)
   obtain⟨_,_,⟨rfl,rfl⟩,rfl,rfl⟩:=hR
   conv=>whnf
   refine⟨[0],.tup [],[pk (Bst.fl (.live ([92]++[c])))],rfl,rfl,?_,?_,rfl,?_⟩
   ·(conv=>whnf);repeat'(first|exact ⟨⟩|exact rfl|exact fun _=>Iff.rfl|exact fun _ _=>rfl|exact renM_ent rfl _|apply And.intro)
   ·repeat'(first|exact ⟨⟩|exact rfl|exact(fun _ _ _ _ h=>⟨packed_stable _,h⟩)|exact fun _=>Iff.rfl|exact fun _ _=>rfl|apply And.intro)
   ·rfl
  refine brF (decide_eq_false h92) ?_
  conv=>whnf
  repeat(first|(refine brF rfl ?_;conv=>whnf)|(refine brT rfl ?_;conv=>whnf))
  by_cases h33:33≤c.toNat∧c.toNat≤126
  ·have he:escB c=[c]:=by unfold escB;rw[if_neg (fun h=>h.elim h46 h92),if_pos h33]
   rw[he]
   refine brT (decide_eq_true (by omega)) ?_
   conv=>whnf
   refine brT (decide_eq_true (by omega)) ?_
   conv=>whnf
   repeat(first|(refine brF rfl ?_;conv=>whnf)|(refine brT rfl ?_;conv=>whnf))
   refine .rel _ (ww0 [] c) (fun x ks' hR=>?_)
   obtain⟨rfl,rfl⟩:=hR
   conv=>whnf
   refine⟨[0],.tup [],[pk (Bst.fl (.live ([c])))],rfl,rfl,?_,?_,rfl,?_⟩
   ·(conv=>whnf);repeat'(first|exact ⟨⟩|exact rfl|exact fun _=>Iff.rfl|exact fun _ _=>rfl|exact renM_ent rfl _|apply And.intro)
   ·repeat'(first|exact ⟨⟩|exact rfl|exact(fun _ _ _ _ h=>⟨packed_stable _,h⟩)|exact fun _=>Iff.rfl|exact fun _ _=>rfl|apply And.intro)
   ·rfl
  ·have he:escB c=[92,UInt8.ofNat (48+c.toNat / 100),UInt8.ofNat (48+c.toNat / 10 % 10),UInt8.ofNat (48+c.toNat % 10)]:=by unfold escB;rw[if_neg (fun h=>h.elim h46 h92),if_neg h33]
   rw[he]
   by_cases h33':33≤c.toNat
   ·refine brT (decide_eq_true (by omega)) ?_
    conv=>whnf
    refine brF (decide_eq_false (by omega)) ?_
    conv=>whnf
    repeat(first|(refine brF rfl ?_;conv=>whnf)|(refine brT rfl ?_;conv=>whnf))
    refine .rel _ (ww0 [] 92) (fun x ks' hR=>?_)
    obtain⟨rfl,rfl⟩:=hR
    conv=>whnf
    refine⟨by decide,?_⟩
    conv=>whnf
    rw[d1]
    refine .rel _ (COk.thing Bst.fl (wb1_ok [92] (UInt8.ofNat (48+c.toNat / 100)) (by simp)) [] [] _ rfl rfl) (fun y ks' hR=>?_)
    obtain⟨_,_,⟨rfl,rfl⟩,rfl,rfl⟩:=hR
    conv=>whnf
    refine⟨by decide,?_⟩
    conv=>whnf
    refine⟨by decide,?_⟩
    conv=>whnf
    rw[d2]
    refine .rel _ (COk.thing Bst.fl (wb1_ok ([92]++[(UInt8.ofNat (48+c.toNat / 100))]) (UInt8.ofNat (48+c.toNat / 10 % 10)) (by simp)) [] [] _ rfl rfl) (fun y ks' hR=>?_)
    obtain⟨_,_,⟨rfl,rfl⟩,rfl,rfl⟩:=hR
    conv=>whnf
    refine⟨by decide,?_⟩
    conv=>whnf
    rw[d3]
    refine .rel _ (COk.thing Bst.fl (wb1_ok ([92]++[(UInt8.ofNat (48+c.toNat / 100))]++[(UInt8.ofNat (48+c.toNat / 10 % 10))]) (UInt8.ofNat (48+c.toNat % 10)) (by simp)) [] [] _ rfl rfl) (fun y ks' hR=>?_)
    obtain⟨_,_,⟨rfl,rfl⟩,rfl,rfl⟩:=hR
    conv=>whnf
    refine⟨[0],.tup [],[pk (Bst.fl (.live ([92]++[(UInt8.ofNat (48+c.toNat / 100))]++[(UInt8.ofNat (48+c.toNat / 10 % 10))]++[(UInt8.ofNat (48+c.toNat % 10))])))],rfl,rfl,?_,?_,rfl,?_⟩
    ·(conv=>whnf);repeat'(first|exact ⟨⟩|exact rfl|exact fun _=>Iff.rfl|exact fun _ _=>rfl|exact renM_ent rfl _|apply And.intro)
    ·repeat'(first|exact ⟨⟩|exact rfl|exact(fun _ _ _ _ h=>⟨packed_stable _,h⟩)|exact fun _=>Iff.rfl|exact fun _ _=>rfl|apply And.intro)
    ·rfl
   ·refine brF (decide_eq_false (by omega)) ?_
    conv=>whnf
    repeat(first|(refine brF rfl ?_;conv=>whnf)|(refine brT rfl ?_;conv=>whnf))
    refine .rel _ (ww0 [] 92) (fun x ks' hR=>?_)
    obtain⟨rfl,rfl⟩:=hR
    conv=>whnf
    refine⟨by decide,?_⟩
    conv=>whnf
    rw[d1]
    refine .rel _ (COk.thing Bst.fl (wb1_ok [92] (UInt8.ofNat (48+c.toNat / 100)) (by simp)) [] [] _ rfl rfl) (fun y ks' hR=>?_)
    obtain⟨_,_,⟨rfl,rfl⟩,rfl,rfl⟩:=hR
    conv=>whnf
    refine⟨by decide,?_⟩
    conv=>whnf
    refine⟨by decide,?_⟩
    conv=>whnf
    rw[d2]
    refine .rel _ (COk.thing Bst.fl (wb1_ok ([92]++[(UInt8.ofNat (48+c.toNat / 100))]) (UInt8.ofNat (48+c.toNat / 10 % 10)) (by simp)) [] [] _ rfl rfl) (fun y ks' hR=>?_)
    obtain⟨_,_,⟨rfl,rfl⟩,rfl,rfl⟩:=hR
    conv=>whnf
    refine⟨by decide,?_⟩
    conv=>whnf
    rw[d3]
    refine .rel _ (COk.thing Bst.fl (wb1_ok ([92]++[(UInt8.ofNat (48+c.toNat / 100))]++[(UInt8.ofNat (48+c.toNat / 10 % 10))]) (UInt8.ofNat (48+c.toNat % 10)) (by simp)) [] [] _ rfl rfl) (fun y ks' hR=>?_)
    obtain⟨_,_,⟨rfl,rfl⟩,rfl,rfl⟩:=hR
    conv=>whnf
    refine⟨[0],.tup [],[pk (Bst.fl (.live ([92]++[(UInt8.ofNat (48+c.toNat / 100))]++[(UInt8.ofNat (48+c.toNat / 10 % 10))]++[(UInt8.ofNat (48+c.toNat % 10))])))],rfl,rfl,?_,?_,rfl,?_⟩
    ·(conv=>whnf);repeat'(first|exact ⟨⟩|exact rfl|exact fun _=>Iff.rfl|exact fun _ _=>rfl|exact renM_ent rfl _|apply And.intro)
    ·repeat'(first|exact ⟨⟩|exact rfl|exact(fun _ _ _ _ h=>⟨packed_stable _,h⟩)|exact fun _=>Iff.rfl|exact fun _ _=>rfl|apply And.intro)
    ·rfl
 |cons x s =>
  refine cOk_of_run (TT:=TT) (IN:=lookI []) TT_ok INok_nil mixed 1000 Tryz.func128 rfl (enters Tryz.func128 (by kernel_rfl) rfl) 42 (by kernel_rfl) ?_
  conv=>whnf
  rw[show(((c.toNat:Int)) == 46)=decide (c=46) from eqc c 46]
  by_cases h46:c=46
  ·have he:escB c=[92,c]:=if_pos (.inl h46)
   rw[he]
   refine brT (decide_eq_true h46) ?_
   conv=>whnf
   repeat(first|(refine brF rfl ?_;conv=>whnf)|(refine brT rfl ?_;conv=>whnf))
   refine .rel _ (COk.thing Bst.fl (wb1_ok (x :: s) 92 (by simp at hs ⊢;omega)) [] [] _ rfl rfl) (fun y ks' hR=>?_)
   obtain⟨_,_,⟨rfl,rfl⟩,rfl,rfl⟩:=hR
   conv=>whnf
   refine .rel _ (COk.thing Bst.fl (wb1_ok ((x :: s)++[92]) c (by simp at hs ⊢;omega)) [] [] _ rfl rfl) (fun y ks' hR=>?_)
   obtain⟨_,_,⟨rfl,rfl⟩,rfl,rfl⟩:=hR
   conv=>whnf
   refine⟨[0],.tup [],[pk (Bst.fl (.live ((x :: s)++[92]++[c])))],rfl,rfl,?_,?_,rfl,?_⟩
   ·(conv=>whnf);repeat'(first|exact ⟨⟩|exact rfl|exact fun _=>Iff.rfl|exact fun _ _=>rfl|exact renM_ent rfl _|apply And.intro)
   ·repeat'(first|exact ⟨⟩|exact rfl|exact(fun _ _ _ _ h=>⟨packed_stable _,h⟩)|exact fun _=>Iff.rfl|exact fun _ _=>rfl|apply And.intro)
   ·rw[bK_live (by simp)]
    try simp only[List.cons_append,List.append_assoc,List.nil_append]
  refine brF (decide_eq_false h46) ?_
  conv=>whnf
  rw[show(((c.toNat:Int)) == 92)=decide (c=92) from eqc c 92]
  by_cases h92:c=92
  ·have he:escB c=[92,c]:=if_pos (.inr h92)
   rw[he]
   refine brT (decide_eq_true h92) ?_
   conv=>whnf
   repeat(first|(refine brF rfl ?_;conv=>whnf)|(refine brT rfl ?_;conv=>whnf))
   refine .rel _ (COk.thing Bst.fl (wb1_ok (x :: s) 92 (by simp at hs ⊢;omega)) [] [] _ rfl rfl) (fun y ks' hR=>?_)
   obtain⟨_,_,⟨rfl,rfl⟩,rfl,rfl⟩:=hR
   conv=>whnf
   refine .rel _ (COk.thing Bst.fl (wb1_ok ((x :: s)++[92]) c (by simp at hs ⊢;omega)) [] [] _ rfl rfl) (fun y ks' hR=>?_)
   obtain⟨_,_,⟨rfl,rfl⟩,rfl,rfl⟩:=hR
   conv=>whnf
   refine⟨[0],.tup [],[pk (Bst.fl (.live ((x :: s)++[92]++[c])))],rfl,rfl,?_,?_,rfl,?_⟩
   ·(conv=>whnf);repeat'(first|exact ⟨⟩|exact rfl|exact fun _=>Iff.rfl|exact fun _ _=>rfl|exact renM_ent rfl _|apply And.intro)
   ·repeat'(first|exact ⟨⟩|exact rfl|exact(fun _ _ _ _ h=>⟨packed_stable _,h⟩)|exact fun _=>Iff.rfl|exact fun _ _=>rfl|apply And.intro)
   ·rw[bK_live (by simp)]
    try simp only[List.cons_append,List.append_assoc,List.nil_append]
  refine brF (decide_eq_false h92) ?_
  conv=>whnf
  repeat(first|(refine brF rfl ?_;conv=>whnf)|(refine brT rfl ?_;conv=>whnf))
  by_cases h33:33≤c.toNat∧c.toNat≤126
  ·have he:escB c=[c]:=by unfold escB;rw[if_neg (fun h=>h.elim h46 h92),if_pos h33]
   rw[he]
   refine brT (decide_eq_true (by omega)) ?_
   conv=>whnf
   refine brT (decide_eq_true (by omega)) ?_
   conv=>whnf
   repeat(first|(refine brF rfl ?_;conv=>whnf)|(refine brT rfl ?_;conv=>whnf))
   refine .rel _ (COk.thing Bst.fl (wb1_ok (x :: s) c (by simp at hs ⊢;omega)) [] [] _ rfl rfl) (fun y ks' hR=>?_)
   obtain⟨_,_,⟨rfl,rfl⟩,rfl,rfl⟩:=hR
   conv=>whnf
   refine⟨[0],.tup [],[pk (Bst.fl (.live ((x :: s)++[c])))],rfl,rfl,?_,?_,rfl,?_⟩
   ·(conv=>whnf);repeat'(first|exact ⟨⟩|exact rfl|exact fun _=>Iff.rfl|exact fun _ _=>rfl|exact renM_ent rfl _|apply And.intro)
   ·repeat'(first|exact ⟨⟩|exact rfl|exact(fun _ _ _ _ h=>⟨packed_stable _,h⟩)|exact fun _=>Iff.rfl|exact fun _ _=>rfl|apply And.intro)
   ·rw[bK_live (by simp)]
    try simp only[List.cons_append,List.append_assoc,List.nil_append]
  ·have he:escB c=[92,UInt8.ofNat (48+c.toNat / 100),UInt8.ofNat (48+c.toNat / 10 % 10),UInt8.ofNat (48+c.toNat % 10)]:=by unfold escB;rw[if_neg (fun h=>h.elim h46 h92),if_neg h33]
   rw[he]
   by_cases h33':33≤c.toNat
   ·refine brT (decide_eq_true (by omega)) ?_
    conv=>whnf
    refine brF (decide_eq_false (by omega)) ?_
    conv=>whnf
    repeat(first|(refine brF rfl ?_;conv=>whnf)|(refine brT rfl ?_;conv=>whnf))
    refine .rel _ (COk.thing Bst.fl (wb1_ok (x :: s) 92 (by simp at hs ⊢;omega)) [] [] _ rfl rfl) (fun y ks' hR=>?_)
    obtain⟨_,_,⟨rfl,rfl⟩,rfl,rfl⟩:=hR
    conv=>whnf
    refine⟨by decide,?_⟩
    conv=>whnf
    rw[d1]
    refine .rel _ (COk.thing Bst.fl (wb1_ok ((x :: s)++[92]) (UInt8.ofNat (48+c.toNat / 100)) (by simp at hs ⊢;omega)) [] [] _ rfl rfl) (fun y ks' hR=>?_)
    obtain⟨_,_,⟨rfl,rfl⟩,rfl,rfl⟩:=hR
    conv=>whnf
    refine⟨by decide,?_⟩
    conv=>whnf
    refine⟨by decide,?_⟩
    conv=>whnf
    rw[d2]
    refine .rel _ (COk.thing Bst.fl (wb1_ok ((x :: s)++[92]++[(UInt8.ofNat (48+c.toNat / 100))]) (UInt8.ofNat (48+c.toNat / 10 % 10)) (by simp at hs ⊢;omega)) [] [] _ rfl rfl) (fun y ks' hR=>?_)
    obtain⟨_,_,⟨rfl,rfl⟩,rfl,rfl⟩:=hR
    conv=>whnf
    refine⟨by decide,?_⟩
    conv=>whnf
    rw[d3]
    refine .rel _ (COk.thing Bst.fl (wb1_ok ((x :: s)++[92]++[(UInt8.ofNat (48+c.toNat / 100))]++[(UInt8.ofNat (48+c.toNat / 10 % 10))]) (UInt8.ofNat (48+c.toNat % 10)) (by simp at hs ⊢;omega)) [] [] _ rfl rfl) (fun y ks' hR=>?_)
    obtain⟨_,_,⟨rfl,rfl⟩,rfl,rfl⟩:=hR
    conv=>whnf
    refine⟨[0],.tup [],[pk (Bst.fl (.live ((x :: s)++[92]++[(UInt8.ofNat (48+c.toNat / 100))]++[(UInt8.ofNat (48+c.toNat / 10 % 10))]++[(UInt8.ofNat (48+c.toNat % 10))])))],rfl,rfl,?_,?_,rfl,?_⟩
    ·(conv=>whnf);repeat'(first|exact ⟨⟩|exact rfl|exact fun _=>Iff.rfl|exact fun _ _=>rfl|exact renM_ent rfl _|apply And.intro)
    ·repeat'(first|exact ⟨⟩|exact rfl|exact(fun _ _ _ _ h=>⟨packed_stable _,h⟩)|exact fun _=>Iff.rfl|exact fun _ _=>rfl|apply And.intro)
    ·rw[bK_live (by simp)]
     try simp only[List.cons_append,List.append_assoc,List.nil_append]
   ·refine brF (decide_eq_false (by omega)) ?_
    conv=>whnf
    repeat(first|(refine brF rfl ?_;conv=>whnf)|(refine brT rfl ?_;conv=>whnf))
    refine .rel _ (COk.thing Bst.fl (wb1_ok (x :: s) 92 (by simp at hs ⊢;omega)) [] [] _ rfl rfl) (fun y ks' hR=>?_)
    obtain⟨_,_,⟨rfl,rfl⟩,rfl,rfl⟩:=hR
    conv=>whnf
    refine⟨by decide,?_⟩
    conv=>whnf
    rw[d1]
    refine .rel _ (COk.thing Bst.fl (wb1_ok ((x :: s)++[92]) (UInt8.ofNat (48+c.toNat / 100)) (by simp at hs ⊢;omega)) [] [] _ rfl rfl) (fun y ks' hR=>?_)
    obtain⟨_,_,⟨rfl,rfl⟩,rfl,rfl⟩:=hR
    conv=>whnf
    refine⟨by decide,?_⟩
    conv=>whnf
    refine⟨by decide,?_⟩
    conv=>whnf
    rw[d2]
    refine .rel _ (COk.thing Bst.fl (wb1_ok ((x :: s)++[92]++[(UInt8.ofNat (48+c.toNat / 100))]) (UInt8.ofNat (48+c.toNat / 10 % 10)) (by simp at hs ⊢;omega)) [] [] _ rfl rfl) (fun y ks' hR=>?_)
    obtain⟨_,_,⟨rfl,rfl⟩,rfl,rfl⟩:=hR
    conv=>whnf
    refine⟨by decide,?_⟩
    conv=>whnf
    rw[d3]
    refine .rel _ (COk.thing Bst.fl (wb1_ok ((x :: s)++[92]++[(UInt8.ofNat (48+c.toNat / 100))]++[(UInt8.ofNat (48+c.toNat / 10 % 10))]) (UInt8.ofNat (48+c.toNat % 10)) (by simp at hs ⊢;omega)) [] [] _ rfl rfl) (fun y ks' hR=>?_)
    obtain⟨_,_,⟨rfl,rfl⟩,rfl,rfl⟩:=hR
    conv=>whnf
    refine⟨[0],.tup [],[pk (Bst.fl (.live ((x :: s)++[92]++[(UInt8.ofNat (48+c.toNat / 100))]++[(UInt8.ofNat (48+c.toNat / 10 % 10))]++[(UInt8.ofNat (48+c.toNat % 10))])))],rfl,rfl,?_,?_,rfl,?_⟩
    ·(conv=>whnf);repeat'(first|exact ⟨⟩|exact rfl|exact fun _=>Iff.rfl|exact fun _ _=>rfl|exact renM_ent rfl _|apply And.intro)
    ·repeat'(first|exact ⟨⟩|exact rfl|exact(fun _ _ _ _ h=>⟨packed_stable _,h⟩)|exact fun _=>Iff.rfl|exact fun _ _=>rfl|apply And.intro)
    ·rw[bK_live (by simp)]
     try simp only[List.cons_append,List.append_assoc,List.nil_append]
theorem bK_map(σ:Nat→Nat)(s:List UInt8):mapB σ [bK s]=[bK s]:=by cases s <;> rfl
theorem tell_at(s:List UInt8)(c:UInt8)(rest:List KB)(hs:s.length+4≤70368744177664):COk Tryz.prog 128 [.ptr 0 0,.d (.int .u8 (c.toNat:Int))] (bK s :: rest) (fun r k=>r = .tup []∧k=bK (s++escB c) :: rest):=by
 have h:=(tell_ok s c hs).among [] rest (fun r k h=>by rw[h.2];exact Nat.le_refl _) rfl
 rw [bK_map] at h
 refine h.imp fun r k ⟨s0,k1,⟨h1,h2⟩,h3,h4⟩=>?_
 subst h1 h2
 refine⟨h3,?_⟩
 rw[h4]
 show[]++(mapB _ [bK (s++escB c)]++(rest++mapB _ []))=_
 rw[bK_map]
 show _ :: (rest++[])=_
 rw[List.append_nil]
theorem wb_at(s:List UInt8)(c:UInt8)(rest:List KB)(hs:s.length+1≤70368744177664):COk Tryz.prog 129 [.ptr 0 0,.d (.int .u8 (c.toNat:Int))] (bK s :: rest) (fun r k=>r = .v .nilIface∧k=bK (s++[c]) :: rest):=by
 have h:=(wbK s c hs).among [] rest (fun r k h=>by rw[h.2];exact Nat.le_refl _) rfl
 rw [bK_map] at h
 refine h.imp fun r k ⟨s0,k1,⟨h1,h2⟩,h3,h4⟩=>?_
 subst h1 h2
 refine⟨h3,?_⟩
 rw[h4]
 show[]++(mapB _ [bK (s++[c])]++(rest++mapB _ []))=_
 rw[bK_map]
 show _ :: (rest++[])=_
 rw[List.append_nil]
theorem escL_append:∀ a b:List UInt8,escL (a++b)=escL a++escL b
 |[],b=>rfl
 |c :: a,b=>by simp only[List.cons_append,escL,escL_append a b,List.append_assoc]
theorem escL_snoc{l:List UInt8}{k:Nat}{c:UInt8}(h:l[k]? = some c):escL (l.take (k+1))=escL (l.take k)++escB c:=by
 rw[List.take_add_one,h,escL_append]
 simp[escL]
theorem txtL_append:∀ a b:List (List UInt8),txtL (a++b)=txtL a++txtL b
 |[],b=>rfl
 |c :: a,b=>by simp only[List.cons_append,txtL,txtL_append a b,List.append_assoc]
theorem txtL_snoc{l:List (List UInt8)}{k:Nat}{c:List UInt8}(h:l[k]? = some c):txtL (l.take (k+1))=txtL (l.take k)++escL c++[46]:=by
 rw[List.take_add_one,h,txtL_append]
 simp[txtL]
def printT(n:List UInt8):List UInt8 × Int:=if isName n then (txtN n,0) else ([],2)
set_option maxHeartbeats 8000000 in
theorem print_ok(n:List UInt8):FnOk Tryz.prog 62 [.d (.str n)] (.tup [.d (.str (printT n).1),.d (.int .i64 (printT n).2)]):=by
 refine fnOk_of_run (TT:=TT) (IN:=lookI [(127,Tryz.f127,1),(169,Tryz.f169,2),(93,Tryz.f93,1),(154,Tryz.f154,2)]) TT_ok (INok_cons (INok_cons (INok_cons (INok_cons INok_nil Tryz.func154 (by kernel_rfl) (by kernel_rfl)) Tryz.func93 (by kernel_rfl) (by kernel_rfl)) Tryz.func169 (by kernel_rfl) (by kernel_rfl)) Tryz.func127 (by kernel_rfl) (by kernel_rfl)) mixed 1000 Tryz.func62 rfl (enters Tryz.func62 (by kernel_rfl) rfl) rfl 26 (by kernel_rfl) ?_
 conv=>whnf
 refine .one (.data _ (check_ok n) rfl rfl ?_)
 by_cases hn:isName n
 case neg =>
  rw[if_neg hn,show printT n=([],2) from if_neg hn]
  conv=>whnf
  refine brT rfl ?_
  conv=>whnf
  repeat'(first|exact ⟨⟩|exact rfl|exact fun _=>Iff.rfl|exact fun _ _=>rfl|exact renM_ent rfl _|apply And.intro)
 rw[if_pos hn,show printT n=(txtN n,0) from if_pos hn]
 conv=>whnf
 refine brF rfl ?_
 conv=>whnf
 refine⟨fun hz=>?_,fun hz=>?_⟩
 ·have hz:n=[0]:=by simpa using hz
  subst hz
  conv=>whnf
  repeat'(first|exact ⟨⟩|exact rfl|exact fun _=>Iff.rfl|exact fun _ _=>rfl|exact renM_ent rfl _|apply And.intro)
 have hz:n≠[0]:=by simpa using hz
 rw[show txtN n=txtL (labN n) from if_neg hz]
 conv=>whnf
 refine .one (.data _ (check_ok n) rfl rfl ?_)
 rw[if_pos hn]
 conv=>whnf
 refine brF rfl ?_
 conv=>whnf
 obtain⟨hn1,hn2,hn3⟩:=labN_of hn
 have hend:∀ i,posN2 (labN n) i<n.length:=fun i=>by have:=pos_lt (labN n) i;rw [←hn3] at this;exact this
 have hbt:∀ i l,(labN n)[i]? = some l→bt n (posN2 (labN n) i)=l.length:=fun i l h=>by
  have:=bt_pos hn2 h
  rw [←hn3] at this;exact this
 have hbe:bt n (posN2 (labN n) (labN n).length)=0:=by
  have:=bt_end (labN n)
  rw [←hn3] at this;exact this
 have hll:=pos_end (labN n)
 rw [←hn3] at hll
 have hlab:∀ i l,(labN n)[i]? = some l→(n.drop (posN2 (labN n) i+1)).take l.length=l:=fun i l h=>by
  have:=label_at h
  rw [←hn3] at this;exact this
 have htl:=txtL_len (labN n) hn2
 rw [←hn3] at htl
 generalize labN n=ls at hn2 hn3 hend hbt hbe hll hlab htl
 refine .inv Nat (fun i=>i≤ls.length) (fun i=>[(3,iV (posN2 ls i))]) (fun i=>[(0,bK (txtL (ls.take i))),(4,.cells 3 [iV (posN2 ls i)])]) (fun i=>ls.length - i) ⟨0,[0,1,2,3,4,5,6],Nat.zero_le _,?_⟩ ?_
 ·conv=>whnf
  repeat'(first|exact ⟨⟩|exact rfl|exact subZ_self _|exact Or.inr rfl|exact fun _ _=>rfl|exact fun _ h=>absurd h (Nat.not_lt_zero _)|apply And.intro)
 intro i hi
 have hsl:(txtL (ls.take i)).length≤1020:=by
  have h1:=txtL_len (ls.take i) (fun l h=>hn2 l (List.mem_of_mem_take h))
  have h2:(mk (ls.take i)).length=posN2 ls i+1:=by rw[←labs_mk,List.length_append];rfl
  have:=hend i
  omega
 show headK _ _ _ _ [(0,bK (txtL (ls.take i))),(4,.cells 3 [iV (posN2 ls i)])] _
 obtain⟨s,hs⟩:∃ s,s=txtL (ls.take i):=⟨_,rfl⟩
 rw [←hs] at hsl ⊢
 have e0:∀ (t l:List UInt8),t++escL (l.take 0)=t:=fun t l=>by simp[escL]
 obtain⟨S,hS⟩:∃ S,S=s:=⟨_,rfl⟩
 have hSl:S.length≤1020:=by rw[hS];exact hsl
 have hSt:S=txtL (ls.take i):=by rw[hS,hs]
 clear hs hsl
 cases s
 all_goals
  have hp:=hend i
  conv=>whnf
  refine brT (decide_eq_true (by omega)) ?_
  conv=>whnf
  refine⟨by omega,?_⟩
  conv=>whnf
  rw[bt_eq,w64_in (bt n (posN2 ls i):Int) (by have:=bt_lt n (posN2 ls i);omega)]
  rcases Nat.lt_or_ge i ls.length with hlt|hge
  ·have hli:ls[i]? = some ls[i]:=List.getElem?_eq_getElem hlt
   have hb:=hbt i _ hli
   have hok:=hn2 _ (List.getElem_mem hlt)
   have hps:=posN2_succ hli
   have hp2:=hend (i+1)
   rw[hb]
   generalize ls[i]=l at hli hb hok hps
   obtain⟨ho1,ho2⟩:=hok
   refine brF (by rw[beq_eq_false_iff_ne];omega) ?_
   conv=>whnf
   refine brF (decide_eq_false (by omega)) ?_
   conv=>whnf
   have e1:IntKind.i64.wrap ((n.length:Int) - (posN2 ls i:Int))=((n.length - posN2 ls i:Nat):Int):=by rw[w64_in _ (by omega)];omega
   rw[e1]
   refine brF (decide_eq_false (by omega)) ?_
   conv=>whnf
   have e2:IntKind.i64.wrap ((posN2 ls i:Int)+IntKind.i64.wrap (1+(l.length:Int)))=((posN2 ls (i+1):Nat):Int):=by rw[w64_in (1+(l.length:Int)) (by omega),w64_in _ (by omega)];omega
   rw[e2]
   have e3:IntKind.i64.wrap ((posN2 ls i:Int)+1)=((posN2 ls i+1:Nat):Int):=by rw[w64_in _ (by omega)];omega
   rw[e3]
   refine⟨by omega,?_⟩
   conv=>whnf
   have hsub:sub n ((posN2 ls i+1:Nat):Int) ((posN2 ls (i+1):Nat):Int)=l:=by
    unfold sub
    rw[Int.toNat_natCast,Int.toNat_natCast]
    rw[show posN2 ls (i+1) - (posN2 ls i+1)=l.length by omega]
    exact hlab i l hli
   rw[hsub]
   refine .inv Nat (fun k=>k≤l.length) (fun k=>[(17,iV k)]) (fun k=>[(0,bK (S++escL (l.take k)))]) (fun k=>l.length - k) ⟨0,[0,1,2,3,4,5,6],Nat.zero_le _,?_⟩ ?_
   ·conv=>whnf
    rw[e0,hS]
    repeat'(first|exact ⟨⟩|exact rfl|exact subZ_self _|exact Or.inr rfl|exact(fun _ _ _ _ h=>⟨packed_stable _,h⟩)|exact fun _=>Iff.rfl|exact fun _ _=>rfl|exact fun _ h=>absurd h (Nat.not_lt_zero _)|apply And.intro)
   intro k hk
   have hel:=escL_len (l.take k)
   rw [List.length_take] at hel
   show headK _ _ _ _ [(0,bK (S++escL (l.take k)))] _
   obtain⟨T,hT⟩:∃ T,T=S++escL (l.take k):=⟨_,rfl⟩
   have hTl:T.length≤1300:=by rw[hT,List.length_append];omega
   have ht:∀ c,l[k]? = some c→∀ rest,COk Tryz.prog 128 [.ptr 0 0,.d (.int .u8 (c.toNat:Int))] (bK T :: rest) (fun r q=>r = .tup []∧q=bK (S++escL (l.take (k+1))) :: rest):=fun c hc rest=>by
    have:=tell_at T c rest (by omega)
    rw [hT] at this
    rw[hT,escL_snoc hc,←List.append_assoc]
    exact this
   have hw:=fun rest=>wb_at T 46 rest (by omega)
   rw[←hT]
   cases T
   all_goals
    conv=>whnf
    refine⟨fun c1=>?_,fun c1=>?_⟩
    ·have c1:k<l.length:=by
      have h:(k:Int)<l.length:=of_decide_eq_true c1
      omega
     have hlk:l[k]? = some l[k]:=List.getElem?_eq_getElem c1
     conv=>whnf
     refine⟨by omega,?_⟩
     conv=>whnf
     rw[show byteAt l (k:Int)=((l[k].toNat:Nat):Int) by rw[bt_eq];unfold bt;rw[hlk];rfl]
     refine .rel _ (ht l[k] hlk _) (fun x ks' hR=>?_)
     obtain⟨rfl,rfl⟩:=hR
     obtain⟨c2,t2,h2⟩:∃ c2 t2,S++escL (l.take (k+1))=c2 :: t2:=by
      have h1:=escL_len (l.take (k+1))
      rw [List.length_take] at h1
      cases h3:S++escL (l.take (k+1)) with
      |nil=>have:=congrArg List.length h3;rw [List.length_append,List.length_nil] at this;omega
      |cons c t=>exact⟨c,t,rfl⟩
     rw[h2]
     conv=>whnf
     have hw1:IntKind.i64.wrap ((k:Int)+1)=((k+1:Nat):Int):=by rw[w64_in _ (by omega)];omega
     rw[hw1]
     refine⟨k+1,[0,1,2,3,4,5,6],c1,by show l.length - (k+1)<l.length - k;omega,?_⟩
     conv=>whnf
     rw[h2]
     repeat'(first|exact ⟨⟩|exact rfl|exact subZ_self _|exact Or.inr rfl|exact(fun _ _ _ _ h=>⟨packed_stable _,h⟩)|exact fun _=>Iff.rfl|exact fun _ _=>rfl|exact fun _ h=>absurd h (Nat.not_lt_zero _)|apply And.intro)
    ·have c1:k=l.length:=by
      have h:¬ (k:Int)<l.length:=of_decide_eq_false c1
      omega
     subst c1
     rw [List.take_length] at hT
     conv=>whnf
     refine .rel _ (hw _) (fun x ks' hR=>?_)
     obtain⟨rfl,rfl⟩:=hR
     have hnx:=txtL_snoc hli
     rw [←hSt,←hT] at hnx
     conv=>whnf
     refine⟨i+1,[0,1,2,3,4,5,6],hlt,by show ls.length - (i+1)<ls.length - i;omega,?_⟩
     conv=>whnf
     rw[hnx]
     repeat'(first|exact ⟨⟩|exact rfl|exact subZ_self _|exact Or.inr rfl|exact(fun _ _ _ _ h=>⟨packed_stable _,h⟩)|exact fun _=>Iff.rfl|exact fun _ _=>rfl|exact fun _ h=>absurd h (Nat.not_lt_zero _)|apply And.intro)
  ·have hil:i=ls.length:=by omega
   subst hil
   rw[hbe]
   conv=>whnf
   refine brT rfl ?_
   conv=>whnf
   rw [List.take_length] at hSt
   have hne:S≠[]:=fun e=>by
    rw [hSt] at e
    cases ls with
    |nil=>exact hz hn3
    |cons a b=>simp [txtL] at e
   first
    |exact absurd hS hne
    |(
     rw [hS] at hSl
     refine .rel _ (COk.thing Bst.fl (bs_ok _ (Nat.le_trans hSl (by decide))) [] _ _ rfl rfl) (fun y ks' hR=>?_)
     obtain⟨_,_,⟨rfl,rfl⟩,rfl,rfl⟩:=hR
     conv=>whnf
     rw[←hSt,hS]
     repeat'(first|exact ⟨⟩|exact rfl|exact fun _=>Iff.rfl|exact fun _ _=>rfl|exact renM_ent rfl _|apply And.intro))
end Go.Proofs.YtdfdlbnojmlpiaaGreatDoor
namespace Go.Proofs.YtdfdlbnojmlpiaaGreatDoor
open Go Go.Eng
set_option maxRecDepth 100000
theorem w8n{n:Nat}(h:n<256):IntKind.u8.wrap (n:Int)=((UInt8.ofNat n).toNat:Int):=by rw[toNat_ofNat h,IntKind.wrap_u8];omega
theorem digI(c:UInt8):isDig c=true↔48≤(c.toNat:Int)∧(c.toNat:Int)≤57:=by
 unfold isDig
 rw[decide_eq_true_eq]
 omega
theorem dgw(a:Nat)(x:UInt8)(ha:a≤1000)(h1:48≤x.toNat)(h2:x.toNat≤57):IntKind.i64.wrap (IntKind.i64.wrap (10 * (a:Int))+IntKind.i64.wrap (IntKind.u8.wrap ((x.toNat:Int) - 48)))=((10 * a+(x.toNat - 48):Nat):Int):=by
 have e:IntKind.u8.wrap ((x.toNat:Int) - 48)=((x.toNat - 48:Nat):Int):=by rw[IntKind.wrap_u8];omega
 rw[e,w64_in (10 * (a:Int)) (by omega),w64_in ((x.toNat - 48:Nat):Int) (by omega),w64_in _ (by omega)]
 omega
set_option maxHeartbeats 4000000 in
theorem behind_ok(s:List UInt8):FnOk Tryz.prog 179 [.d (.str s)] (.tup [.d (.int .u8 ((behB s).1.toNat:Int)),.d (.int .i64 (behB s).2)]):=by
 refine fnOk_of_run (TT:=TT) (IN:=lookI []) TT_ok INok_nil mixed 1000 Tryz.func179 rfl (enters Tryz.func179 (by kernel_rfl) rfl) rfl 46 (by kernel_rfl) ?_
 cases s with
 |nil =>
  conv=>whnf
  repeat(first|(refine brF rfl ?_;conv=>whnf)|(refine brT rfl ?_;conv=>whnf))
  repeat'(first|exact ⟨⟩|exact rfl|exact fun _=>Iff.rfl|exact fun _ _=>rfl|exact renM_ent rfl _|apply And.intro)
 |cons c r =>
  have hc:=c.toNat_lt
  conv=>whnf
  refine brF rfl ?_
  conv=>whnf
  have hix:(0:Int)≤0∧(0:Int)<((r.length+1:Nat):Int):=by omega
  have hb0:byteAt (c :: r) 0=(c.toNat:Int):=rfl
  refine⟨hix,?_⟩
  conv=>whnf
  rw[hb0]
  by_cases h1:48≤c.toNat
  case neg =>
   have he:behB (c :: r)=(c,1):=by
    have:isDig c=false:=by unfold isDig;rw[decide_eq_false (by omega)]
    simp[behB,this]
   rw[he]
   refine brT (decide_eq_true (by omega)) ?_
   conv=>whnf
   repeat(first|(refine brF rfl ?_;conv=>whnf)|(refine brT rfl ?_;conv=>whnf))
   refine⟨hix,?_⟩
   conv=>whnf
   repeat'(first|exact ⟨⟩|exact rfl|exact fun _=>Iff.rfl|exact fun _ _=>rfl|exact renM_ent rfl _|apply And.intro)
  refine brF (decide_eq_false (by omega)) ?_
  conv=>whnf
  refine⟨hix,?_⟩
  conv=>whnf
  rw[hb0]
  by_cases h2:c.toNat≤57
  case neg =>
   have he:behB (c :: r)=(c,1):=by
    have:isDig c=false:=by unfold isDig;rw[decide_eq_false (by omega)]
    simp[behB,this]
   rw[he]
   refine brT (decide_eq_true (by omega)) ?_
   conv=>whnf
   repeat(first|(refine brF rfl ?_;conv=>whnf)|(refine brT rfl ?_;conv=>whnf))
   refine⟨hix,?_⟩
   conv=>whnf
   repeat'(first|exact ⟨⟩|exact rfl|exact fun _=>Iff.rfl|exact fun _ _=>rfl|exact renM_ent rfl _|apply And.intro)
  refine brF (decide_eq_false (by omega)) ?_
  conv=>whnf
  repeat(first|(refine brF rfl ?_;conv=>whnf)|(refine brT rfl ?_;conv=>whnf))
  have hd:isDig c=true:=(digI c).2 ⟨by omega,by omega⟩
  have hcase:r=[]∨(∃ d,r=[d])∨∃ d e q,r=d :: e :: q:=by
   match r with
   |[]=>exact .inl rfl
   |[d]=>exact .inr (.inl ⟨d,rfl⟩)
   |d :: e :: q=>exact .inr (.inr ⟨d,e,q,rfl⟩)
  rcases hcase with rfl|⟨d,rfl⟩|⟨d,e,q,rfl⟩
  ·have he:behB [c]=(0,0):=by simp[behB,hd]
   rw[he]
   refine brT rfl ?_
   conv=>whnf
   repeat'(first|exact ⟨⟩|exact rfl|exact fun _=>Iff.rfl|exact fun _ _=>rfl|exact renM_ent rfl _|apply And.intro)
  ·have he:behB [c,d]=(0,0):=by simp[behB,hd]
   rw[he]
   refine brT rfl ?_
   conv=>whnf
   repeat'(first|exact ⟨⟩|exact rfl|exact fun _=>Iff.rfl|exact fun _ _=>rfl|exact renM_ent rfl _|apply And.intro)
  have hdd:=d.toNat_lt
  have hed:=e.toNat_lt
  refine brF (decide_eq_false (by show ¬ ((q.length+1+1+1:Nat):Int)<3;omega)) ?_
  conv=>whnf
  have hb1:byteAt (c :: d :: e :: q) (IntKind.i64.wrap (0+1))=(d.toNat:Int):=rfl
  have hb2:byteAt (c :: d :: e :: q) (IntKind.i64.wrap (IntKind.i64.wrap (0+1)+1))=(e.toNat:Int):=rfl
  have hn:∀ x:UInt8,x.toNat<48∨57<x.toNat→isDig x=false:=fun x hx=>by unfold isDig;rw[decide_eq_false (by omega)]
  refine .once ?_
  conv=>whnf
  refine brT rfl ?_
  conv=>whnf
  refine⟨by show(0:Int)≤0∧(0:Int)<((q.length+1+1+1:Nat):Int);omega,?_⟩
  conv=>whnf
  rw[hb0]
  refine brF (decide_eq_false (by omega)) ?_
  conv=>whnf
  refine⟨by show(0:Int)≤0∧(0:Int)<((q.length+1+1+1:Nat):Int);omega,?_⟩
  conv=>whnf
  rw[hb0]
  refine brF (decide_eq_false (by omega)) ?_
  conv=>whnf
  repeat(first|(refine brF rfl ?_;conv=>whnf)|(refine brT rfl ?_;conv=>whnf))
  refine⟨by show(0:Int)≤0∧(0:Int)<((q.length+1+1+1:Nat):Int);omega,?_⟩
  conv=>whnf
  rw[hb0,show IntKind.i64.wrap (IntKind.i64.wrap (10 * 0)+IntKind.i64.wrap (IntKind.u8.wrap ((c.toNat:Int) - 48)))=_ from dgw 0 c (by decide) h1 h2]
  refine .once ?_
  conv=>whnf
  refine brT rfl ?_
  conv=>whnf
  refine⟨by show(0:Int)≤1∧(1:Int)<((q.length+1+1+1:Nat):Int);omega,?_⟩
  conv=>whnf
  rw[hb1]
  by_cases ld:48≤d.toNat
  case neg =>
   have he:behB (c :: d :: e :: q)=(0,0):=by simp[behB,hd,hn d (by omega)]
   rw[he]
   refine brT (decide_eq_true (by omega)) ?_
   conv=>whnf
   repeat(first|(refine brF rfl ?_;conv=>whnf)|(refine brT rfl ?_;conv=>whnf))
   repeat'(first|exact ⟨⟩|exact rfl|exact fun _=>Iff.rfl|exact fun _ _=>rfl|exact renM_ent rfl _|apply And.intro)
  refine brF (decide_eq_false (by omega)) ?_
  conv=>whnf
  refine⟨by show(0:Int)≤1∧(1:Int)<((q.length+1+1+1:Nat):Int);omega,?_⟩
  conv=>whnf
  rw[hb1]
  by_cases ud:d.toNat≤57
  case neg =>
   have he:behB (c :: d :: e :: q)=(0,0):=by simp[behB,hd,hn d (by omega)]
   rw[he]
   refine brT (decide_eq_true (by omega)) ?_
   conv=>whnf
   repeat(first|(refine brF rfl ?_;conv=>whnf)|(refine brT rfl ?_;conv=>whnf))
   repeat'(first|exact ⟨⟩|exact rfl|exact fun _=>Iff.rfl|exact fun _ _=>rfl|exact renM_ent rfl _|apply And.intro)
  refine brF (decide_eq_false (by omega)) ?_
  conv=>whnf
  repeat(first|(refine brF rfl ?_;conv=>whnf)|(refine brT rfl ?_;conv=>whnf))
  have hdd1:isDig d=true:=(digI d).2 ⟨by omega,by omega⟩
  refine⟨by show(0:Int)≤1∧(1:Int)<((q.length+1+1+1:Nat):Int);omega,?_⟩
  conv=>whnf
  rw[hb1,dgw (10 * 0+(c.toNat - 48)) d (by omega) ld ud]
  refine .once ?_
  conv=>whnf
  refine brT rfl ?_
  conv=>whnf
  refine⟨by show(0:Int)≤2∧(2:Int)<((q.length+1+1+1:Nat):Int);omega,?_⟩
  conv=>whnf
  rw[hb2]
  by_cases le:48≤e.toNat
  case neg =>
   have he:behB (c :: d :: e :: q)=(0,0):=by simp[behB,hd,hdd1,hn e (by omega)]
   rw[he]
   refine brT (decide_eq_true (by omega)) ?_
   conv=>whnf
   repeat(first|(refine brF rfl ?_;conv=>whnf)|(refine brT rfl ?_;conv=>whnf))
   repeat'(first|exact ⟨⟩|exact rfl|exact fun _=>Iff.rfl|exact fun _ _=>rfl|exact renM_ent rfl _|apply And.intro)
  refine brF (decide_eq_false (by omega)) ?_
  conv=>whnf
  refine⟨by show(0:Int)≤2∧(2:Int)<((q.length+1+1+1:Nat):Int);omega,?_⟩
  conv=>whnf
  rw[hb2]
  by_cases ue:e.toNat≤57
  case neg =>
   have he:behB (c :: d :: e :: q)=(0,0):=by simp[behB,hd,hdd1,hn e (by omega)]
   rw[he]
   refine brT (decide_eq_true (by omega)) ?_
   conv=>whnf
   repeat(first|(refine brF rfl ?_;conv=>whnf)|(refine brT rfl ?_;conv=>whnf))
   repeat'(first|exact ⟨⟩|exact rfl|exact fun _=>Iff.rfl|exact fun _ _=>rfl|exact renM_ent rfl _|apply And.intro)
  refine brF (decide_eq_false (by omega)) ?_
  conv=>whnf
  repeat(first|(refine brF rfl ?_;conv=>whnf)|(refine brT rfl ?_;conv=>whnf))
  have hed1:isDig e=true:=(digI e).2 ⟨by omega,by omega⟩
  refine⟨by show(0:Int)≤2∧(2:Int)<((q.length+1+1+1:Nat):Int);omega,?_⟩
  conv=>whnf
  rw[hb2,dgw (10 * (10 * 0+(c.toNat - 48))+(d.toNat - 48)) e (by omega) le ue]
  refine .once ?_
  conv=>whnf
  refine brF rfl ?_
  conv=>whnf
  have hN:10 * (10 * (10 * 0+(c.toNat - 48))+(d.toNat - 48))+(e.toNat - 48)=100 * (c.toNat - 48)+10 * (d.toNat - 48)+(e.toNat - 48):=by omega
  rw[hN]
  have hbe:behB (c :: d :: e :: q)=if 100 * (c.toNat - 48)+10 * (d.toNat - 48)+(e.toNat - 48)≤255 then (UInt8.ofNat (100 * (c.toNat - 48)+10 * (d.toNat - 48)+(e.toNat - 48)),3) else (0,0):=by simp only[behB,hd,hdd1,hed1,if_true]
  rw[hbe]
  generalize 100 * (c.toNat - 48)+10 * (d.toNat - 48)+(e.toNat - 48)=N
  by_cases hN2:N≤255
  ·rw[if_pos hN2]
   refine brF (decide_eq_false (by omega)) ?_
   conv=>whnf
   rw[w8n (by omega)]
   repeat'(first|exact ⟨⟩|exact rfl|exact fun _=>Iff.rfl|exact fun _ _=>rfl|exact renM_ent rfl _|apply And.intro)
  ·rw[if_neg hN2]
   refine brT (decide_eq_true (by omega)) ?_
   conv=>whnf
   repeat'(first|exact ⟨⟩|exact rfl|exact fun _=>Iff.rfl|exact fun _ _=>rfl|exact renM_ent rfl _|apply And.intro)
theorem behB_le(r:List UInt8):(behB r).2≤r.length:=by
 match r with
 |[]=>simp[behB]
 |[c]=>simp only[behB];split <;> simp
 |[c,d]=>simp only[behB];split <;> simp
 |c :: d :: e :: q =>
  simp only[behB]
  repeat' split
  all_goals simp
def cutV:Option (List (List UInt8))→SV
 |none=>.tup [.any,.d .ff]
 |some l=>.tup [.d (.sl false l.length 1 (strs l)),.d .tt]
structure CtSt where
 at_:Nat
 l:List UInt8
 ls:List (List UInt8)
 m:Nat
 q:Option (Nat × (Nat→List DV))
def CtSt.v(x:CtSt):SV:=match x.q with
 |none=>.all 1
 |some _=>.row 1 0 0
def CtSt.b(x:CtSt):KB:=match x.q with
 |none=>.row 5 1 x.l.length .may (bytesF x.l)
 |some p=>.row 5 1 p.1 .may p.2
set_option maxHeartbeats 8000000 in
theorem lcut_ok(s:List UInt8)(hs:s.length≤1000000):FnOk Tryz.prog 134 [.d (.str s)] (cutV (tcut (s.length+1) s [] [])):=by
 refine fnOk_of_run (TT:=TT) (IN:=lookI []) TT_ok INok_nil mixed 1000 Tryz.func134 rfl (enters Tryz.func134 (by kernel_rfl) rfl) rfl 68 (by kernel_rfl) ?_
 conv=>whnf
 refine .nilT 4 9 1 (strs []) _ _ rfl ?_
 refine .nilT 5 5 1 (bytesF []) _ _ rfl ?_
 refine .inv CtSt (fun x=>x.at_≤s.length∧s.length<x.at_+x.m∧x.l.length+x.ls.length≤x.at_∧(x.q.isSome=true→x.l=[])∧tcut x.m (s.drop x.at_) x.l x.ls=tcut (s.length+1) s [] []) (fun x=>[(4,.all 0),(5,x.v),(6,iV x.at_)]) (fun x=>[(0,.row 9 1 x.ls.length .iff (strs x.ls)),(1,x.b)]) (fun x=>s.length - x.at_) ⟨⟨0,[],[],s.length+1,none⟩,[0,1],⟨Nat.zero_le _,by show s.length<0+(s.length+1);omega,Nat.zero_le _,fun h=>(by cases h),rfl⟩,?_⟩ ?_
 ·conv=>whnf
  repeat'(first|exact ⟨⟩|exact rfl|exact subZ_self _|exact Or.inr rfl|exact fun _ _=>rfl|exact fun _ h=>absurd h (Nat.not_lt_zero _)|apply And.intro)
 intro x hx
 obtain⟨hk,hm,hll,hql,hrest⟩:=hx
 show headK _ _ _ [(4,.all 0),(5,x.v),(6,iV x.at_)] [(0,.row 9 1 x.ls.length .iff (strs x.ls)),(1,x.b)] _
 rcases hxq:x.q with _|⟨qn,qf⟩
 ·rw[show x.v = .all 1 by unfold CtSt.v;rw[hxq],show x.b = .row 5 1 x.l.length .may (bytesF x.l) by unfold CtSt.b;rw[hxq]]
  rw [hxq] at hql
  conv=>whnf
  generalize x.at_=k at hk hm hll hrest ⊢
  generalize x.l=l at hll hrest hql ⊢
  generalize x.ls=ls at hll hrest ⊢
  generalize x.m=m at hm hrest ⊢
  obtain⟨m',rfl⟩:∃ m',m=m'+1:=⟨m - 1,by omega⟩
  refine⟨fun c0=>?_,fun c0=>?_⟩
  ·have c0':k<s.length:=(by have h:(k:Int)<s.length:=of_decide_eq_true c0;omega)
   have hsk:s[k]? = some s[k]:=List.getElem?_eq_getElem c0'
   have hdr:s.drop k=s[k] :: s.drop (k+1):=List.drop_eq_getElem_cons c0'
   rw [hdr] at hrest
   have hbk:byteAt s (k:Int)=((s[k].toNat:Nat):Int):=by rw[bt_eq];unfold bt;rw[hsk];rfl
   generalize s[k]=c at hsk hdr hrest hbk
   have hc:=c.toNat_lt
   have hk1:IntKind.i64.wrap ((k:Int)+1)=((k+1:Nat):Int):=by rw[w64_in _ (by omega)];omega
   simp only [tcut] at hrest
   conv=>whnf
   refine⟨by omega,?_⟩
   conv=>whnf
   rw[hbk]
   by_cases h46:c=46
   ·subst h46
    rw [if_pos rfl] at hrest
    refine brT rfl ?_
    conv=>whnf
    by_cases hl0:l=[]
    ·subst hl0
     rw [if_pos rfl] at hrest
     rw[←hrest]
     refine brT rfl ?_
     conv=>whnf
     repeat'(first|exact ⟨⟩|exact rfl|exact fun _=>Iff.rfl|exact fun _ _=>rfl|exact renM_ent rfl _|apply And.intro)
    try exact absurd (hql rfl) hl0
    all_goals
     rw [if_neg hl0] at hrest
     have hl1:1≤l.length:=List.length_pos_iff.2 hl0
     refine brF (by rw[beq_eq_false_iff_ne];omega) ?_
     conv=>whnf
     refine⟨fun i _=>⟨_,rfl⟩,?_⟩
     rw[bytesOf_bytesF]
     conv=>whnf
     refine⟨by omega,?_⟩
     conv=>whnf
     refine⟨by omega,?_⟩
     conv=>whnf
     rw[hk1]
     refine⟨⟨k+1,[],ls++[l],m',some (l.length,bytesF l)⟩,[3,1],⟨c0',by show s.length<k+1+m';omega,by show 0+(ls++[l]).length≤k+1;rw[List.length_append];show 0+(ls.length+1)≤_;omega,fun _=>rfl,hrest⟩,by show s.length - (k+1)<s.length - k;omega,?_⟩
     conv=>whnf
     repeat'(first|exact ⟨⟩|exact rfl|exact subZ_self _|exact Or.inr rfl|exact fun _ _=>rfl|exact fun _ h=>absurd h (Nat.not_lt_zero _)|apply And.intro)
     all_goals first
      |(show ls.length+1=(ls++[l]).length;simp)
      |exact strs_cat ls l _ rfl
   have he46:(((c.toNat:Nat):Int) == 46)=false:=by rw[beq_eq_false_iff_ne];intro h;exact h46 (UInt8.toNat_inj.1 (by show c.toNat=46;omega))
   rw [if_neg h46] at hrest
   refine brF he46 ?_
   conv=>whnf
   by_cases h92:c=92
   ·subst h92
    rw [if_pos rfl] at hrest
    refine brT rfl ?_
    conv=>whnf
    rw[hk1]
    refine⟨by omega,?_⟩
    conv=>whnf
    rw[sub_drop]
    generalize hdd:s.drop (k+1)=r at hrest
    have hrl:r.length=s.length - (k+1):=by rw[←hdd,List.length_drop]
    refine .one (.data _ (behind_ok r) rfl rfl ?_)
    have hb2:(behB r).2≤r.length:=behB_le r
    generalize hbh:behB r=b at hrest hb2
    obtain⟨b1,b2⟩:=b
    conv=>whnf
    by_cases hb0:b2=0
    ·subst hb0
     rw [if_pos rfl] at hrest
     rw[←hrest]
     refine brT rfl ?_
     conv=>whnf
     repeat'(first|exact ⟨⟩|exact rfl|exact fun _=>Iff.rfl|exact fun _ _=>rfl|exact renM_ent rfl _|apply And.intro)
    rw [if_neg hb0] at hrest
    refine brF (by rw[beq_eq_false_iff_ne];show((b2:Nat):Int)≠0;omega) ?_
    conv=>whnf
    refine⟨by omega,?_⟩
    conv=>whnf
    have hw2:IntKind.i64.wrap ((k:Int)+IntKind.i64.wrap (((b2:Nat):Int)+1))=((k+1+b2:Nat):Int):=by rw[w64_in (((b2:Nat):Int)+1) (by omega),w64_in _ (by omega)];omega
    rw[hw2]
    have hr2:r.drop b2=s.drop (k+1+b2):=by rw[←hdd,List.drop_drop]
    replace hrest:tcut m' (s.drop (k+1+b2)) (l++[b1]) ls=tcut (s.length+1) s [] []:=by rw[←hr2];exact hrest
    refine⟨⟨k+1+b2,l++[b1],ls,m',none⟩,[0,3],⟨by show k+1+b2≤s.length;have:b2≤r.length:=hb2;omega,by show s.length<k+1+b2+m';omega,by show(l++[b1]).length+ls.length≤k+1+b2;rw[List.length_append];show l.length+1+ls.length≤_;omega,fun h=>(by cases h),hrest⟩,by show s.length - (k+1+b2)<s.length - k;omega,?_⟩
    conv=>whnf
    repeat'(first|exact ⟨⟩|exact rfl|exact subZ_self _|exact Or.inr rfl|exact fun _ _=>rfl|exact fun _ h=>absurd h (Nat.not_lt_zero _)|apply And.intro)
    all_goals first
     |(show l.length+1=(l++[b1]).length;simp)
     |exact(fun i hi=>byteAt_put l b1 i hi)
     |(show 0+1=(l++[b1]).length;rw[hql rfl];rfl)
     |(
      intro i hi;have:i=0:=by omega
      subst this;rw[show l=[] from hql rfl];rfl)
   have he92:(((c.toNat:Nat):Int) == 92)=false:=by rw[beq_eq_false_iff_ne];intro h;exact h92 (UInt8.toNat_inj.1 (by show c.toNat=92;omega))
   rw [if_neg h92] at hrest
   refine brF he92 ?_
   conv=>whnf
   by_cases h33:33≤c.toNat∧c.toNat≤126
   ·rw [if_pos h33] at hrest
    refine brF (decide_eq_false (by omega)) ?_
    conv=>whnf
    refine brF (decide_eq_false (by omega)) ?_
    conv=>whnf
    repeat(first|(refine brF rfl ?_;conv=>whnf)|(refine brT rfl ?_;conv=>whnf))
    refine⟨by omega,?_⟩
    conv=>whnf
    rw[hk1]
    refine⟨⟨k+1,l++[c],ls,m',none⟩,[0,3],⟨c0',by show s.length<k+1+m';omega,by show(l++[c]).length+_≤k+1;rw[List.length_append];show l.length+1+ls.length≤_;omega,fun h=>(by cases h),hrest⟩,by show s.length - (k+1)<s.length - k;omega,?_⟩
    conv=>whnf
    repeat'(first|exact ⟨⟩|exact rfl|exact subZ_self _|exact Or.inr rfl|exact fun _ _=>rfl|exact fun _ h=>absurd h (Nat.not_lt_zero _)|apply And.intro)
    all_goals first
     |(show l.length+1=(l++[c]).length;simp)
     |exact(fun i hi=>byteAt_put l c i hi)
     |(show 0+1=(l++[c]).length;rw[hql rfl];rfl)
     |(
      intro i hi;have:i=0:=by omega
      subst this;rw[show l=[] from hql rfl];rfl)
   ·rw [if_neg h33] at hrest
    rw[←hrest]
    by_cases h33':c.toNat<33
    ·refine brT (decide_eq_true (by omega)) ?_
     conv=>whnf
     repeat(first|(refine brF rfl ?_;conv=>whnf)|(refine brT rfl ?_;conv=>whnf))
     repeat'(first|exact ⟨⟩|exact rfl|exact fun _=>Iff.rfl|exact fun _ _=>rfl|exact renM_ent rfl _|apply And.intro)
    ·refine brF (decide_eq_false (by omega)) ?_
     conv=>whnf
     refine brT (decide_eq_true (by omega)) ?_
     conv=>whnf
     repeat(first|(refine brF rfl ?_;conv=>whnf)|(refine brT rfl ?_;conv=>whnf))
     repeat'(first|exact ⟨⟩|exact rfl|exact fun _=>Iff.rfl|exact fun _ _=>rfl|exact renM_ent rfl _|apply And.intro)
  ·have c0':k=s.length:=(by have h:¬ (k:Int)<s.length:=of_decide_eq_false c0;omega)
   subst c0'
   rw [List.drop_length] at hrest
   simp only [tcut] at hrest
   conv=>whnf
   by_cases hl0:l=[]
   ·subst hl0
    rw [if_pos rfl] at hrest
    rw[←hrest]
    refine brF rfl ?_
    conv=>whnf
    by_cases hls:ls=[]
    ·rw[if_pos hls]
     subst hls
     conv=>whnf
     repeat'(first|exact ⟨⟩|exact rfl|exact fun _=>Iff.rfl|exact fun _ _=>rfl|exact renM_ent rfl _|apply And.intro)
    ·rw[if_neg hls]
     have:=List.length_pos_iff.2 hls
     conv=>whnf
     refine⟨⟨(by cases ls with
      |nil=>exact absurd rfl hls
      |cons a b=>rfl),rfl,.inr rfl,fun i hi=>rfl⟩,(show decide ((ls.length:Int) > 0)=true from decide_eq_true (by omega)),True.intro⟩
   ·try exact absurd (hql rfl) hl0
    all_goals
     have hl1:1≤l.length:=List.length_pos_iff.2 hl0
     rw [if_neg hl0] at hrest
     rw[←hrest]
     refine brT (decide_eq_true (by omega)) ?_
     conv=>whnf
     refine⟨fun i _=>⟨_,rfl⟩,?_⟩
     rw[bytesOf_bytesF]
     conv=>whnf
     refine⟨by omega,?_⟩
     conv=>whnf
     refine⟨⟨rfl,(show ls.length+1=(ls++[l]).length by simp),.inr rfl,strs_cat ls l _ rfl⟩,(show decide (((ls.length+1:Nat):Int) > 0)=true from decide_eq_true (by omega)),True.intro⟩
 ·rw[show x.v = .row 1 0 0 by unfold CtSt.v;rw[hxq],show x.b = .row 5 1 qn .may qf by unfold CtSt.b;rw[hxq]]
  rw [hxq] at hql
  conv=>whnf
  generalize x.at_=k at hk hm hll hrest ⊢
  generalize x.l=l at hll hrest hql ⊢
  generalize x.ls=ls at hll hrest ⊢
  generalize x.m=m at hm hrest ⊢
  obtain⟨m',rfl⟩:∃ m',m=m'+1:=⟨m - 1,by omega⟩
  refine⟨fun c0=>?_,fun c0=>?_⟩
  ·have c0':k<s.length:=(by have h:(k:Int)<s.length:=of_decide_eq_true c0;omega)
   have hsk:s[k]? = some s[k]:=List.getElem?_eq_getElem c0'
   have hdr:s.drop k=s[k] :: s.drop (k+1):=List.drop_eq_getElem_cons c0'
   rw [hdr] at hrest
   have hbk:byteAt s (k:Int)=((s[k].toNat:Nat):Int):=by rw[bt_eq];unfold bt;rw[hsk];rfl
   generalize s[k]=c at hsk hdr hrest hbk
   have hc:=c.toNat_lt
   have hk1:IntKind.i64.wrap ((k:Int)+1)=((k+1:Nat):Int):=by rw[w64_in _ (by omega)];omega
   simp only [tcut] at hrest
   conv=>whnf
   refine⟨by omega,?_⟩
   conv=>whnf
   rw[hbk]
   by_cases h46:c=46
   ·subst h46
    rw [if_pos rfl] at hrest
    refine brT rfl ?_
    conv=>whnf
    by_cases hl0:l=[]
    ·subst hl0
     rw [if_pos rfl] at hrest
     rw[←hrest]
     refine brT rfl ?_
     conv=>whnf
     repeat'(first|exact ⟨⟩|exact rfl|exact fun _=>Iff.rfl|exact fun _ _=>rfl|exact renM_ent rfl _|apply And.intro)
    try exact absurd (hql rfl) hl0
    all_goals
     rw [if_neg hl0] at hrest
     have hl1:1≤l.length:=List.length_pos_iff.2 hl0
     refine brF (by rw[beq_eq_false_iff_ne];omega) ?_
     conv=>whnf
     refine⟨fun i _=>⟨_,rfl⟩,?_⟩
     rw[bytesOf_bytesF]
     conv=>whnf
     refine⟨by omega,?_⟩
     conv=>whnf
     refine⟨by omega,?_⟩
     conv=>whnf
     rw[hk1]
     refine⟨⟨k+1,[],ls++[l],m',some (l.length,bytesF l)⟩,[3,1],⟨c0',by show s.length<k+1+m';omega,by show 0+(ls++[l]).length≤k+1;rw[List.length_append];show 0+(ls.length+1)≤_;omega,fun _=>rfl,hrest⟩,by show s.length - (k+1)<s.length - k;omega,?_⟩
     conv=>whnf
     repeat'(first|exact ⟨⟩|exact rfl|exact subZ_self _|exact Or.inr rfl|exact fun _ _=>rfl|exact fun _ h=>absurd h (Nat.not_lt_zero _)|apply And.intro)
     all_goals first
      |(show ls.length+1=(ls++[l]).length;simp)
      |exact strs_cat ls l _ rfl
   have he46:(((c.toNat:Nat):Int) == 46)=false:=by rw[beq_eq_false_iff_ne];intro h;exact h46 (UInt8.toNat_inj.1 (by show c.toNat=46;omega))
   rw [if_neg h46] at hrest
   refine brF he46 ?_
   conv=>whnf
   by_cases h92:c=92
   ·subst h92
    rw [if_pos rfl] at hrest
    refine brT rfl ?_
    conv=>whnf
    rw[hk1]
    refine⟨by omega,?_⟩
    conv=>whnf
    rw[sub_drop]
    generalize hdd:s.drop (k+1)=r at hrest
    have hrl:r.length=s.length - (k+1):=by rw[←hdd,List.length_drop]
    refine .one (.data _ (behind_ok r) rfl rfl ?_)
    have hb2:(behB r).2≤r.length:=behB_le r
    generalize hbh:behB r=b at hrest hb2
    obtain⟨b1,b2⟩:=b
    conv=>whnf
    by_cases hb0:b2=0
    ·subst hb0
     rw [if_pos rfl] at hrest
     rw[←hrest]
     refine brT rfl ?_
     conv=>whnf
     repeat'(first|exact ⟨⟩|exact rfl|exact fun _=>Iff.rfl|exact fun _ _=>rfl|exact renM_ent rfl _|apply And.intro)
    rw [if_neg hb0] at hrest
    refine brF (by rw[beq_eq_false_iff_ne];show((b2:Nat):Int)≠0;omega) ?_
    conv=>whnf
    refine⟨by omega,?_⟩
    conv=>whnf
    have hw2:IntKind.i64.wrap ((k:Int)+IntKind.i64.wrap (((b2:Nat):Int)+1))=((k+1+b2:Nat):Int):=by rw[w64_in (((b2:Nat):Int)+1) (by omega),w64_in _ (by omega)];omega
    rw[hw2]
    have hr2:r.drop b2=s.drop (k+1+b2):=by rw[←hdd,List.drop_drop]
    replace hrest:tcut m' (s.drop (k+1+b2)) (l++[b1]) ls=tcut (s.length+1) s [] []:=by rw[←hr2];exact hrest
    refine⟨⟨k+1+b2,l++[b1],ls,m',none⟩,[0,3],⟨by show k+1+b2≤s.length;have:b2≤r.length:=hb2;omega,by show s.length<k+1+b2+m';omega,by show(l++[b1]).length+ls.length≤k+1+b2;rw[List.length_append];show l.length+1+ls.length≤_;omega,fun h=>(by cases h),hrest⟩,by show s.length - (k+1+b2)<s.length - k;omega,?_⟩
    conv=>whnf
    repeat'(first|exact ⟨⟩|exact rfl|exact subZ_self _|exact Or.inr rfl|exact fun _ _=>rfl|exact fun _ h=>absurd h (Nat.not_lt_zero _)|apply And.intro)
    all_goals first
     |(show l.length+1=(l++[b1]).length;simp)
     |exact(fun i hi=>byteAt_put l b1 i hi)
     |(show 0+1=(l++[b1]).length;rw[hql rfl];rfl)
     |(
      intro i hi;have:i=0:=by omega
      subst this;rw[show l=[] from hql rfl];rfl)
   have he92:(((c.toNat:Nat):Int) == 92)=false:=by rw[beq_eq_false_iff_ne];intro h;exact h92 (UInt8.toNat_inj.1 (by show c.toNat=92;omega))
   rw [if_neg h92] at hrest
   refine brF he92 ?_
   conv=>whnf
   by_cases h33:33≤c.toNat∧c.toNat≤126
   ·rw [if_pos h33] at hrest
    refine brF (decide_eq_false (by omega)) ?_
    conv=>whnf
    refine brF (decide_eq_false (by omega)) ?_
    conv=>whnf
    repeat(first|(refine brF rfl ?_;conv=>whnf)|(refine brT rfl ?_;conv=>whnf))
    refine⟨by omega,?_⟩
    conv=>whnf
    rw[hk1]
    refine⟨⟨k+1,l++[c],ls,m',none⟩,[0,3],⟨c0',by show s.length<k+1+m';omega,by show(l++[c]).length+_≤k+1;rw[List.length_append];show l.length+1+ls.length≤_;omega,fun h=>(by cases h),hrest⟩,by show s.length - (k+1)<s.length - k;omega,?_⟩
    conv=>whnf
    repeat'(first|exact ⟨⟩|exact rfl|exact subZ_self _|exact Or.inr rfl|exact fun _ _=>rfl|exact fun _ h=>absurd h (Nat.not_lt_zero _)|apply And.intro)
    all_goals first
     |(show l.length+1=(l++[c]).length;simp)
     |exact(fun i hi=>byteAt_put l c i hi)
     |(show 0+1=(l++[c]).length;rw[hql rfl];rfl)
     |(
      intro i hi;have:i=0:=by omega
      subst this;rw[show l=[] from hql rfl];rfl)
   ·rw [if_neg h33] at hrest
    rw[←hrest]
    by_cases h33':c.toNat<33
    ·refine brT (decide_eq_true (by omega)) ?_
     conv=>whnf
     repeat(first|(refine brF rfl ?_;conv=>whnf)|(refine brT rfl ?_;conv=>whnf))
     repeat'(first|exact ⟨⟩|exact rfl|exact fun _=>Iff.rfl|exact fun _ _=>rfl|exact renM_ent rfl _|apply And.intro)
    ·refine brF (decide_eq_false (by omega)) ?_
     conv=>whnf
     refine brT (decide_eq_true (by omega)) ?_
     conv=>whnf
     repeat(first|(refine brF rfl ?_;conv=>whnf)|(refine brT rfl ?_;conv=>whnf))
     repeat'(first|exact ⟨⟩|exact rfl|exact fun _=>Iff.rfl|exact fun _ _=>rfl|exact renM_ent rfl _|apply And.intro)
  ·have c0':k=s.length:=(by have h:¬ (k:Int)<s.length:=of_decide_eq_false c0;omega)
   subst c0'
   rw [List.drop_length] at hrest
   simp only [tcut] at hrest
   conv=>whnf
   by_cases hl0:l=[]
   ·subst hl0
    rw [if_pos rfl] at hrest
    rw[←hrest]
    refine brF rfl ?_
    conv=>whnf
    by_cases hls:ls=[]
    ·rw[if_pos hls]
     subst hls
     conv=>whnf
     repeat'(first|exact ⟨⟩|exact rfl|exact fun _=>Iff.rfl|exact fun _ _=>rfl|exact renM_ent rfl _|apply And.intro)
    ·rw[if_neg hls]
     have:=List.length_pos_iff.2 hls
     conv=>whnf
     refine⟨⟨(by cases ls with
      |nil=>exact absurd rfl hls
      |cons a b=>rfl),rfl,.inr rfl,fun i hi=>rfl⟩,(show decide ((ls.length:Int) > 0)=true from decide_eq_true (by omega)),True.intro⟩
   ·try exact absurd (hql rfl) hl0
    all_goals
     have hl1:1≤l.length:=List.length_pos_iff.2 hl0
     rw [if_neg hl0] at hrest
     rw[←hrest]
     refine brT (decide_eq_true (by omega)) ?_
     conv=>whnf
     refine⟨fun i _=>⟨_,rfl⟩,?_⟩
     rw[bytesOf_bytesF]
     conv=>whnf
     refine⟨by omega,?_⟩
     conv=>whnf
     refine⟨⟨rfl,(show ls.length+1=(ls++[l]).length by simp),.inr rfl,strs_cat ls l _ rfl⟩,(show decide (((ls.length+1:Nat):Int) > 0)=true from decide_eq_true (by omega)),True.intro⟩
theorem tcut_out:∀ (m:Nat) (r l:List UInt8) (ls k:List (List UInt8)),tcut m r l ls=some k→k≠[]∧k.length≤ls.length+r.length+1
 |0,_,_,_,_,h=>by cases h
 |m+1,[],l,ls,k,h=>by
  simp only [tcut] at h
  split at h
  ·split at h
   ·cases h
   ·rename_i h2
    cases h
    exact⟨h2,by omega⟩
  ·cases h
   exact⟨by simp,by simp⟩
 |m+1,c :: r,l,ls,k,h=>by
  simp only [tcut] at h
  split at h
  ·split at h
   ·cases h
   ·obtain⟨h1,h2⟩:=tcut_out m _ _ _ _ h
    exact ⟨h1,by simp at h2 ⊢;omega⟩
  ·split at h
   ·split at h
    ·cases h
    ·obtain⟨h1,h2⟩:=tcut_out m _ _ _ _ h
     exact ⟨h1,by simp at h2 ⊢;omega⟩
   ·split at h
    ·obtain⟨h1,h2⟩:=tcut_out m _ _ _ _ h
     exact ⟨h1,by simp at h2 ⊢;omega⟩
    ·cases h
theorem labs_small{l:List (List UInt8)}(h:∀ x ∈ l,okL x):(labs l).length≤64 * l.length:=by
 induction l with
 |nil=>exact Nat.le_refl _
 |cons a l ih =>
  have h1:=h a (List.mem_cons_self ..)
  have h2:=ih (fun x hx=>h x (List.mem_cons_of_mem _ hx))
  show(lab a++labs l).length≤64 * (l.length+1)
  rw[List.length_append,lab_len]
  have:=h1.2
  omega
set_option maxHeartbeats 4000000 in
theorem ljoinb_ok(z:Bool)(l:List (List UInt8))(hl:l.length≤1000000)(hb:¬ (l.all okB=true∧(mk l).length≤255)):FnOk Tryz.prog 135 [.d (.str [0]),.d (.sl z l.length 1 (strs l))] (.tup [.d (.str []),.d (.int .i64 (if l.all okB=true then 7 else 2))]):=by
 refine fnOk_of_run (TT:=TT) (IN:=lookI []) TT_ok INok_nil mixed 1000 Tryz.func135 rfl (enters Tryz.func135 (by kernel_rfl) rfl) rfl 53 (by kernel_rfl) ?_
 conv=>whnf
 refine .one (.data _ (check_ok [0]) rfl rfl ?_)
 conv=>whnf
 refine⟨fun h=>absurd h (by decide),fun _=>?_⟩
 conv=>whnf
 have hml:(labs l).length+1=(mk l).length:=by rw[←labs_mk,List.length_append];rfl
 refine .inv Nat (fun i=>i≤l.length∧∀ x ∈ l.take i,okL x) (fun i=>[(6,.d (.int .i64 ((labs (l.take i)).length+1:Nat))),(19,.d (.int .i64 i))]) (fun _=>[]) (fun i=>l.length - i) ⟨0,[],⟨Nat.zero_le _,fun x hx=>by simp at hx⟩,?_⟩ ?_
 ·conv=>whnf
  repeat'(first|exact ⟨⟩|exact rfl|exact fun _=>Iff.rfl|exact fun _ _=>rfl|exact renM_ent rfl _|apply And.intro)
 intro i hi
 obtain⟨hi,hok⟩:=hi
 conv=>whnf
 have htl:=labs_small hok
 rw [List.length_take] at htl
 refine⟨fun c1=>?_,fun c1=>?_⟩
 ·have c1:(i:Int)<l.length:=of_decide_eq_true c1
  have hil:i<l.length:=by omega
  obtain⟨q,hq⟩:∃ q,l[i]?.getD []=q:=⟨_,rfl⟩
  have hq2:l[i]? = some q:=by rw[←hq,List.getElem?_eq_getElem hil];rfl
  have htk:l.take (i+1)=l.take i++[q]:=by rw[List.take_add_one,hq2];rfl
  have hw1:IntKind.i64.wrap ((i:Int)+1)=((i+1:Nat):Int):=by rw[w64_in _ (by omega)];omega
  have hno:¬ okL q→(if l.all okB=true then (7:Int) else 2)=2:=fun hn=>if_neg (fun h=>hn (all_ok.1 h q (List.mem_of_getElem? hq2)))
  conv=>whnf
  refine⟨by omega,?_⟩
  conv=>whnf
  rw[Int.toNat_natCast,hq]
  by_cases hq0:q.length=0
  ·rw[hno (fun h=>by have:=h.1;omega)]
   refine brT (by rw[beq_iff_eq];omega) ?_
   conv=>whnf
   repeat(first|(refine brF rfl ?_;conv=>whnf)|(refine brT rfl ?_;conv=>whnf))
   repeat'(first|exact ⟨⟩|exact rfl|exact fun _=>Iff.rfl|exact fun _ _=>rfl|exact renM_ent rfl _|apply And.intro)
  refine brF (by rw[beq_eq_false_iff_ne];omega) ?_
  conv=>whnf
  by_cases hq1:q.length≤63
  case neg =>
   rw[hno (fun h=>by have:=h.2;omega)]
   refine brT (decide_eq_true (by omega)) ?_
   conv=>whnf
   repeat(first|(refine brF rfl ?_;conv=>whnf)|(refine brT rfl ?_;conv=>whnf))
   repeat'(first|exact ⟨⟩|exact rfl|exact fun _=>Iff.rfl|exact fun _ _=>rfl|exact renM_ent rfl _|apply And.intro)
  refine brF (decide_eq_false (by omega)) ?_
  conv=>whnf
  refine⟨i+1,[],⟨hil,fun x hx=>?_⟩,by omega,?_⟩
  ·rw [htk] at hx
   rcases List.mem_append.1 hx with hx|hx
   ·exact hok x hx
   ·simp only [List.mem_singleton] at hx
    subst hx
    exact⟨by omega,hq1⟩
  conv=>whnf
  have hcat:labs (l.take (i+1))=labs (l.take i)++lab q:=by rw[htk,labs_snoc]
  rw[hw1,hcat,List.length_append,lab_len,w64_in (1+(q.length:Int)) (by omega),w64_in _ (by omega),show(((labs (l.take i)).length+1:Nat):Int)+(1+(q.length:Int))=(((labs (l.take i)).length+(1+q.length)+1:Nat):Int) by omega]
  repeat'(first|exact ⟨⟩|exact rfl|exact fun _=>Iff.rfl|exact fun _ _=>rfl|exact renM_ent rfl _|apply And.intro)
 ·have c1:¬ (i:Int)<l.length:=of_decide_eq_false c1
  rw [List.take_of_length_le (by omega)] at hok
  rw[List.take_of_length_le (by omega)]
  have hall:=all_ok.2 hok
  rw[if_pos hall]
  conv=>whnf
  refine brT (decide_eq_true (by
   have:¬ (mk l).length≤255:=fun h=>hb ⟨hall,h⟩
   omega)) ?_
  conv=>whnf
  repeat'(first|exact ⟨⟩|exact rfl|exact fun _=>Iff.rfl|exact fun _ _=>rfl|exact renM_ent rfl _|apply And.intro)
set_option maxHeartbeats 2000000 in
theorem lparse_ok(s:List UInt8):FnOk Tryz.prog 70 [.d (.str s)] (.tup [.d (.str (parseT s).1),.d (.int .i64 (parseT s).2)]):=by
 refine fnOk_of_run (TT:=TT) (IN:=lookI []) TT_ok INok_nil mixed 1000 Tryz.func70 rfl (enters Tryz.func70 (by kernel_rfl) rfl) rfl 27 (by kernel_rfl) ?_
 conv=>whnf
 refine⟨fun h1=>?_,fun h1=>?_⟩
 ·have h1:s.length > 2048:=by have:=of_decide_eq_true h1;omega
  rw[show parseT s=([],7) by unfold parseT;rw[if_pos h1]]
  conv=>whnf
  repeat'(first|exact ⟨⟩|exact rfl|exact fun _=>Iff.rfl|exact fun _ _=>rfl|exact renM_ent rfl _|apply And.intro)
 have h1:¬ s.length > 2048:=by have:=of_decide_eq_false h1;omega
 conv=>whnf
 refine⟨fun h2=>?_,fun h2=>?_⟩
 ·have h2:s=[46]:=by simpa using h2
  rw[show parseT s=([0],0) by unfold parseT;rw[if_neg h1,if_pos h2]]
  conv=>whnf
  repeat'(first|exact ⟨⟩|exact rfl|exact fun _=>Iff.rfl|exact fun _ _=>rfl|exact renM_ent rfl _|apply And.intro)
 have h2:s≠[46]:=by simpa using h2
 have he:parseT s=match tcut (s.length+1) s [] [] with
  |none=>([],6)
  |some ls=>if ls.all okB=true∧(mk ls).length≤255 then (mk ls,0) else ([],7):=by unfold parseT;rw[if_neg h1,if_neg h2];try rfl
 rw[he]
 conv=>whnf
 refine .one (.data _ (lcut_ok s (by omega)) rfl (by cases tcut (s.length+1) s [] [] <;> rfl) ?_)
 have ho:=tcut_out (s.length+1) s [] []
 cases htc:tcut (s.length+1) s [] [] with
 |none =>
  conv=>whnf
  repeat(first|(refine brF rfl ?_;conv=>whnf)|(refine brT rfl ?_;conv=>whnf))
  repeat'(first|exact ⟨⟩|exact rfl|exact fun _=>Iff.rfl|exact fun _ _=>rfl|exact renM_ent rfl _|apply And.intro)
 |some ls =>
  obtain⟨o1,o2⟩:=ho ls htc
  simp only [List.length_nil] at o2
  conv=>whnf
  repeat(first|(refine brF rfl ?_;conv=>whnf)|(refine brT rfl ?_;conv=>whnf))
  by_cases hb:ls.all okB=true∧(mk ls).length≤255
  ·refine .one (.data _ (ljoin_ok false ls o1 (all_ok.1 hb.1) hb.2) rfl rfl ?_)
   simp only[if_pos hb]
   conv=>whnf
   repeat(first|(refine brF rfl ?_;conv=>whnf)|(refine brT rfl ?_;conv=>whnf))
   repeat'(first|exact ⟨⟩|exact rfl|exact fun _=>Iff.rfl|exact fun _ _=>rfl|exact renM_ent rfl _|apply And.intro)
  ·refine .one (.data _ (ljoinb_ok false ls (by omega) hb) rfl rfl ?_)
   simp only[if_neg hb]
   by_cases ha:ls.all okB=true
   ·rw[if_pos ha]
    conv=>whnf
    repeat(first|(refine brF rfl ?_;conv=>whnf)|(refine brT rfl ?_;conv=>whnf))
    repeat'(first|exact ⟨⟩|exact rfl|exact fun _=>Iff.rfl|exact fun _ _=>rfl|exact renM_ent rfl _|apply And.intro)
   ·rw[if_neg ha]
    conv=>whnf
    repeat(first|(refine brF rfl ?_;conv=>whnf)|(refine brT rfl ?_;conv=>whnf))
    repeat'(first|exact ⟨⟩|exact rfl|exact fun _=>Iff.rfl|exact fun _ _=>rfl|exact renM_ent rfl _|apply And.intro)
end Go.Proofs.YtdfdlbnojmlpiaaGreatDoor
namespace Go.Proofs.YtdfdlbnojmlpiaaGreatDoor
open Go Go.Eng
theorem COk.frameX{P:Program}{f:FuncId}{as0:List SV}{ks0:List KB}{R0:SV→List KB→Prop}(h:COk P f as0 ks0 R0)(is:List Nat){al:List SV}{ks:List KB}
 (hok:okN (lenB ks) is=true) (ha:mapL (sig is (lenB ks)) as0=al) (hk:getBs ks is=mapB (sig is (lenB ks)) ks0):COk P f al ks (fun s k=>∃ s0 k0,R0 s0 k0∧s=mapV (sig is (lenB ks)) s0∧k=putBs ks is (mapB (sig is (lenB ks)) k0)) :=
 COk.frame h is hok ha hk (fun s0 k0 h=>⟨s0,k0,h,rfl,rfl⟩)
end Go.Proofs.YtdfdlbnojmlpiaaGreatDoor
