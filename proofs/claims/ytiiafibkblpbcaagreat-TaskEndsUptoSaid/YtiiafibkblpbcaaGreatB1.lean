/-
  Part of the proof: lemmas about the functions that the row calls, and about the steps of a run. Conditions: those ahead of each lemma.
-/
import Derived.Test.YtiiafibkblpbcaaGreatRows
import Derived.KernelRfl
import Derived.Shelf.Strings.OnBuilder
import Derived.Shelf.Small.Strs
import Derived.Test.YtiiafibkblpbcaaGreatProg
import Derived.Test.YtiiafibkblpbcaaGreatM4
set_option linter.unusedVariables false
set_option linter.unusedSimpArgs false
set_option maxRecDepth 100000
set_option maxHeartbeats 64000000
namespace Go.Proofs.YtiiafibkblpbcaaGreat
open Go Go.Eng
def types:List (Nat × TI):=[
 (2,⟨1,8,false,[.d (.int .i64 0)],.int .i64,[]⟩),
 (3,⟨1,8,false,[.d (.int .i64 0)],.int .i64,[]⟩),
 (4,⟨1,1,false,[.d .ff],.bool,[]⟩),
 (5,⟨1,1,false,[.d (.int .u8 0)],.int .u8,[]⟩),
 (6,⟨1,1,false,[.d (.int .u8 0)],.int .u8,[]⟩),
 (7,⟨4,24,true,[.d (.int .i64 0),.d (.int .i64 0),.d .ff,.d (.int .u8 0)],.struct [(0,2),(1,3),(2,4),(3,6)],[.int .i64,.int .i64,.bool,.int .u8]⟩),
 (9,⟨1,16,false,[.d (.str [])],.str,[]⟩),
 (17,⟨1,8,false,[.v (.pointer none)],.ptr 479,[]⟩),
 (18,⟨1,8,true,[.v (.pointer none)],.struct [(0,17)],[]⟩),
 (19,⟨1,8,true,[.v (.pointer none)],.struct [(0,17)],[]⟩),
 (21,⟨1,4,false,[.d (.int .i32 0)],.int .i32,[]⟩),
 (22,⟨1,24,false,[nilS],.slice 127,[]⟩),
 (23,⟨1,24,false,[nilS],.slice 47,[]⟩),
 (24,⟨1,2,false,[.d (.int .u16 0)],.int .u16,[]⟩),
 (25,⟨1,2,false,[.d (.int .u16 0)],.int .u16,[]⟩),
 (26,⟨3,24,true,[.d (.str []),.d (.int .u16 0),.d (.int .u16 0)],.struct [(0,9),(1,25),(2,24)],[.str,.int .u16,.int .u16]⟩),
 (27,⟨3,24,true,[.d (.str []),.d (.int .u16 0),.d (.int .u16 0)],.struct [(0,9),(1,25),(2,24)],[.str,.int .u16,.int .u16]⟩),
 (29,⟨1,8,false,[.v (.pointer none)],.ptr 307,[]⟩),
 (30,⟨1,24,false,[nilS],.slice 234,[]⟩),
 (31,⟨2,32,true,[.d (.int .i64 0),nilS],.struct [(0,3),(1,30)],[]⟩),
 (32,⟨2,32,true,[.d (.int .i64 0),nilS],.struct [(0,3),(1,30)],[]⟩),
 (35,⟨1,8,false,[.v (.pointer none)],.ptr 132,[]⟩),
 (36,⟨1,8,false,[.d (.int .i64 0)],.int .i64,[]⟩),
 (39,⟨1,24,false,[nilS],.slice 27,[]⟩),
 (40,⟨1,24,false,[nilS],.slice 68,[]⟩),
 (41,⟨1,24,false,[nilS],.slice 9,[]⟩),
 (42,⟨9,128,true,[.d (.int .i64 0),.d (.str []),.d (.int .u16 0),.d (.int .u16 0),nilS,nilS,nilS,.d (.int .i64 0),.d (.str [])],.struct [(0,3),(1,27),(4,39),(5,40),(6,41),(7,3),(8,9)],[]⟩),
 (43,⟨9,128,true,[.d (.int .i64 0),.d (.str []),.d (.int .u16 0),.d (.int .u16 0),nilS,nilS,nilS,.d (.int .i64 0),.d (.str [])],.struct [(0,3),(1,27),(4,39),(5,40),(6,41),(7,3),(8,9)],[]⟩),
 (45,⟨1,8,false,[.v .nilFunc],.other,[]⟩),
 (46,⟨1,24,false,[nilS],.slice 49,[]⟩),
 (47,⟨1,4,false,[.d (.int .u32 0)],.int .u32,[]⟩),
 (48,⟨4,48,true,[.d (.str []),.d (.int .u16 0),.d (.int .u32 0),nilS],.struct [(0,9),(1,25),(2,47),(3,41)],[]⟩),
 (49,⟨4,48,true,[.d (.str []),.d (.int .u16 0),.d (.int .u32 0),nilS],.struct [(0,9),(1,25),(2,47),(3,41)],[]⟩),
 (50,⟨6,80,true,[.d (.int .i64 0),nilS,.d (.str []),.d (.int .u16 0),.d (.int .u32 0),nilS],.struct [(0,3),(1,46),(2,49)],[]⟩),
 (51,⟨6,80,true,[.d (.int .i64 0),nilS,.d (.str []),.d (.int .u16 0),.d (.int .u32 0),nilS],.struct [(0,3),(1,46),(2,49)],[]⟩),
 (53,⟨1,8,false,[.v .nilFunc],.other,[]⟩),
 (54,⟨1,1,false,[.d (.int .u8 0)],.int .u8,[]⟩),
 (55,⟨8,104,true,[.d (.int .u8 0),nilS,.d (.str []),.d (.int .u16 0),.d (.int .u32 0),nilS,.d (.str []),.d (.int .u32 0)],.struct [(0,54),(1,46),(2,49),(6,9),(7,47)],[]⟩),
 (56,⟨8,104,true,[.d (.int .u8 0),nilS,.d (.str []),.d (.int .u16 0),.d (.int .u32 0),nilS,.d (.str []),.d (.int .u32 0)],.struct [(0,54),(1,46),(2,49),(6,9),(7,47)],[]⟩),
 (58,⟨1,1,false,[.d (.int .u8 0)],.int .u8,[]⟩),
 (59,⟨15,168,true,[.d (.int .u8 0),.d (.int .i64 0),.d (.int .u8 0),nilS,.d (.str []),.d (.int .u16 0),.d (.int .u32 0),nilS,.d (.str []),.d (.int .u32 0),.d (.int .u32 0),.d (.str []),.d (.str []),.d (.int .u16 0),.d (.int .u16 0)],.struct [(0,58),(1,36),(2,56),(10,47),(11,9),(12,27)],[]⟩),
 (60,⟨15,168,true,[.d (.int .u8 0),.d (.int .i64 0),.d (.int .u8 0),nilS,.d (.str []),.d (.int .u16 0),.d (.int .u32 0),nilS,.d (.str []),.d (.int .u32 0),.d (.int .u32 0),.d (.str []),.d (.str []),.d (.int .u16 0),.d (.int .u16 0)],.struct [(0,58),(1,36),(2,56),(10,47),(11,9),(12,27)],[]⟩),
 (63,⟨1,8,false,[.d (.int .u64 0)],.int .u64,[]⟩),
 (65,⟨1,8,false,[.v .nilFunc],.other,[]⟩),
 (66,⟨1,8,false,[.v .nilFunc],.other,[]⟩),
 (67,⟨4,48,true,[.d (.int .u32 0),.d (.str []),.d (.str []),.d (.int .u16 0)],.struct [(0,47),(1,9),(2,9),(3,25)],[.int .u32,.str,.str,.int .u16]⟩),
 (68,⟨4,48,true,[.d (.int .u32 0),.d (.str []),.d (.str []),.d (.int .u16 0)],.struct [(0,47),(1,9),(2,9),(3,25)],[.int .u32,.str,.str,.int .u16]⟩),
 (70,⟨1,24,false,[nilS],.slice 334,[]⟩),
 (71,⟨2,32,true,[.d .ff,nilS],.struct [(0,4),(1,70)],[]⟩),
 (72,⟨2,32,true,[.d .ff,nilS],.struct [(0,4),(1,70)],[]⟩),
 (73,⟨2,32,true,[.d (.str []),.d (.str [])],.struct [(0,9),(1,9)],[.str,.str]⟩),
 (74,⟨2,32,true,[.d (.str []),.d (.str [])],.struct [(0,9),(1,9)],[.str,.str]⟩),
 (75,⟨5,40,true,[.d (.int .i64 0),.d (.int .i64 0),.d (.int .i64 0),.d (.int .i64 0),.d (.int .i64 0)],.struct [(0,3),(1,2),(2,3),(3,3),(4,3)],[.int .i64,.int .i64,.int .i64,.int .i64,.int .i64]⟩),
 (76,⟨5,40,true,[.d (.int .i64 0),.d (.int .i64 0),.d (.int .i64 0),.d (.int .i64 0),.d (.int .i64 0)],.struct [(0,3),(1,2),(2,3),(3,3),(4,3)],[.int .i64,.int .i64,.int .i64,.int .i64,.int .i64]⟩),
 (77,⟨1,8,false,[.v .nilFunc],.other,[]⟩),
 (78,⟨1,8,false,[.v (.pointer none)],.ptr 154,[]⟩),
 (81,⟨1,24,false,[nilS],.slice 179,[]⟩),
 (82,⟨6,104,true,[.d (.int .u16 0),.d (.int .u16 0),nilS,nilS,nilS,nilS],.struct [(0,24),(1,24),(2,39),(3,81),(4,81),(5,81)],[]⟩),
 (83,⟨6,104,true,[.d (.int .u16 0),.d (.int .u16 0),nilS,nilS,nilS,nilS],.struct [(0,24),(1,24),(2,39),(3,81),(4,81),(5,81)],[]⟩),
 (84,⟨1,24,false,[nilS],.slice 192,[]⟩),
 (85,⟨6,32,true,[.d .ff,.d (.int .u16 0),.d (.int .u8 0),.d (.int .u8 0),.d (.int .u16 0),nilS],.struct [(0,4),(1,24),(2,5),(3,5),(4,24),(5,84)],[]⟩),
 (86,⟨6,32,true,[.d .ff,.d (.int .u16 0),.d (.int .u8 0),.d (.int .u8 0),.d (.int .u16 0),nilS],.struct [(0,4),(1,24),(2,5),(3,5),(4,24),(5,84)],[]⟩),
 (87,⟨15,176,true,[.d (.int .u16 0),.d (.int .u16 0),nilS,nilS,nilS,nilS,.d .ff,.d (.int .u16 0),.d (.int .u8 0),.d (.int .u8 0),.d (.int .u16 0),nilS,.d (.str []),.d (.str []),.d (.int .i64 0)],.struct [(0,83),(6,86),(12,9),(13,9),(14,3)],[]⟩),
 (88,⟨15,176,true,[.d (.int .u16 0),.d (.int .u16 0),nilS,nilS,nilS,nilS,.d .ff,.d (.int .u16 0),.d (.int .u8 0),.d (.int .u8 0),.d (.int .u16 0),nilS,.d (.str []),.d (.str []),.d (.int .i64 0)],.struct [(0,83),(6,86),(12,9),(13,9),(14,3)],[]⟩),
 (89,⟨1,8,false,[.v .nilFunc],.other,[]⟩),
 (91,⟨1,8,false,[.v .nilFunc],.other,[]⟩),
 (92,⟨1,1,false,[.d (.int .u8 0)],.int .u8,[]⟩),
 (93,⟨3,32,true,[.d (.int .u8 0),.d (.int .i64 0),.d (.str [])],.struct [(0,92),(1,3),(2,9)],[.int .u8,.int .i64,.str]⟩),
 (94,⟨3,32,true,[.d (.int .u8 0),.d (.int .i64 0),.d (.str [])],.struct [(0,92),(1,3),(2,9)],[.int .u8,.int .i64,.str]⟩),
 (97,⟨1,8,false,[.v .nilFunc],.other,[]⟩),
 (99,⟨1,8,false,[.v .nilFunc],.other,[]⟩),
 (101,⟨1,8,false,[.v .nilFunc],.other,[]⟩),
 (102,⟨1,8,false,[.v .nilFunc],.other,[]⟩),
 (103,⟨1,8,false,[.v .nilFunc],.other,[]⟩),
 (105,⟨1,8,false,[.v .nilFunc],.other,[]⟩),
 (106,⟨1,24,false,[nilS],.slice 94,[]⟩),
 (107,⟨1,8,false,[.v .nilFunc],.other,[]⟩),
 (108,⟨1,8,false,[.v .nilFunc],.other,[]⟩),
 (109,⟨1,8,false,[.v (.pointer none)],.ptr 212,[]⟩),
 (114,⟨1,8,false,[.v .nilFunc],.other,[]⟩),
 (115,⟨1,8,false,[.v .nilFunc],.other,[]⟩),
 (116,⟨1,8,false,[.v .nilFunc],.other,[]⟩),
 (117,⟨1,8,false,[.v .nilFunc],.other,[]⟩),
 (118,⟨1,8,false,[.v .nilFunc],.other,[]⟩),
 (119,⟨1,8,false,[.v .nilFunc],.other,[]⟩),
 (122,⟨1,8,false,[.v .nilFunc],.other,[]⟩),
 (123,⟨1,1,false,[.d (.int .u8 0)],.int .u8,[]⟩),
 (125,⟨1,8,false,[.v .nilFunc],.other,[]⟩),
 (126,⟨6,64,true,[.d (.str []),.d (.int .u16 0),.d (.int .u32 0),nilS,.d (.int .u8 0),.d (.int .i64 0)],.struct [(0,49),(4,123),(5,2)],[]⟩),
 (127,⟨6,64,true,[.d (.str []),.d (.int .u16 0),.d (.int .u32 0),nilS,.d (.int .u8 0),.d (.int .i64 0)],.struct [(0,49),(4,123),(5,2)],[]⟩),
 (128,⟨1,8,false,[.v .nilFunc],.other,[]⟩),
 (129,⟨1,8,false,[.v (.map none)],.map 47 130,[]⟩),
 (130,⟨1,8,false,[.v (.pointer none)],.ptr 391,[]⟩),
 (131,⟨4,32,true,[.d (.int .i64 0),.v (.map none),.v (.pointer none),.v (.pointer none)],.struct [(0,3),(1,129),(2,130),(3,130)],[]⟩),
 (132,⟨4,32,true,[.d (.int .i64 0),.v (.map none),.v (.pointer none),.v (.pointer none)],.struct [(0,3),(1,129),(2,130),(3,130)],[]⟩),
 (133,⟨1,8,false,[.v .nilFunc],.other,[]⟩),
 (134,⟨11,128,true,[.d (.int .u8 0),nilS,.d (.str []),.d (.int .u16 0),.d (.int .u32 0),nilS,.d (.str []),.d (.int .u32 0),.v (.pointer none),.d (.int .i64 0),.d .ff],.struct [(0,56),(8,29),(9,2),(10,4)],[]⟩),
 (135,⟨11,128,true,[.d (.int .u8 0),nilS,.d (.str []),.d (.int .u16 0),.d (.int .u32 0),nilS,.d (.str []),.d (.int .u32 0),.v (.pointer none),.d (.int .i64 0),.d .ff],.struct [(0,56),(8,29),(9,2),(10,4)],[]⟩),
 (136,⟨1,8,false,[.v .nilFunc],.other,[]⟩),
 (140,⟨1,8,false,[.v .nilFunc],.other,[]⟩),
 (141,⟨14,184,true,[.d (.int .i64 0),.d (.str []),.d (.int .u16 0),.d (.int .u16 0),nilS,nilS,nilS,.d (.int .i64 0),.d (.str []),.v (.pointer none),.v (.pointer none),nilS,.d (.int .i64 0),.d (.int .u64 0)],.struct [(0,43),(9,29),(10,35),(11,23),(12,2),(13,63)],[]⟩),
 (142,⟨14,184,true,[.d (.int .i64 0),.d (.str []),.d (.int .u16 0),.d (.int .u16 0),nilS,nilS,nilS,.d (.int .i64 0),.d (.str []),.v (.pointer none),.v (.pointer none),nilS,.d (.int .i64 0),.d (.int .u64 0)],.struct [(0,43),(9,29),(10,35),(11,23),(12,2),(13,63)],[]⟩),
 (146,⟨1,8,false,[.v .nilFunc],.other,[]⟩),
 (148,⟨1,8,false,[.v .nilFunc],.other,[]⟩),
 (149,⟨1,8,false,[.v .nilFunc],.other,[]⟩),
 (150,⟨1,8,false,[.v .nilFunc],.other,[]⟩),
 (151,⟨1,8,false,[.v (.map none)],.map 47 152,[]⟩),
 (152,⟨1,8,false,[.v (.pointer none)],.ptr 263,[]⟩),
 (153,⟨8,64,true,[.d (.int .i64 0),.d (.int .i64 0),.d (.int .i64 0),.d (.int .i64 0),.d (.int .i64 0),.v (.map none),.v (.pointer none),.v (.pointer none)],.struct [(0,76),(5,151),(6,152),(7,152)],[]⟩),
 (154,⟨8,64,true,[.d (.int .i64 0),.d (.int .i64 0),.d (.int .i64 0),.d (.int .i64 0),.d (.int .i64 0),.v (.map none),.v (.pointer none),.v (.pointer none)],.struct [(0,76),(5,151),(6,152),(7,152)],[]⟩),
 (156,⟨1,8,false,[.v .nilFunc],.other,[]⟩),
 (157,⟨1,8,false,[.v .nilFunc],.other,[]⟩),
 (158,⟨1,8,false,[.v (.pointer none)],.ptr 252,[]⟩),
 (160,⟨1,8,false,[.v .nilFunc],.other,[]⟩),
 (161,⟨1,8,false,[.v .nilFunc],.other,[]⟩),
 (162,⟨2,32,true,[.d (.str []),.d (.str [])],.array 2 9,[.str,.str]⟩),
 (163,⟨1,8,false,[.v .nilFunc],.other,[]⟩),
 (164,⟨1,8,false,[.v .nilFunc],.other,[]⟩),
 (166,⟨1,8,false,[.v .nilFunc],.other,[]⟩),
 (167,⟨1,1,false,[.d (.int .u8 0)],.int .u8,[]⟩),
 (168,⟨1,8,false,[.v .nilFunc],.other,[]⟩),
 (169,⟨1,8,false,[.v .nilFunc],.other,[]⟩),
 (170,⟨6,48,true,[.d (.int .i64 0),.d (.int .i64 0),.d (.int .i64 0),.d (.int .i64 0),.d (.int .i64 0),.d (.int .i64 0)],.array 6 3,[.int .i64,.int .i64,.int .i64,.int .i64,.int .i64,.int .i64]⟩),
 (171,⟨1,24,false,[nilS],.slice 3,[]⟩),
 (174,⟨1,8,false,[.v .nilFunc],.other,[]⟩),
 (176,⟨1,8,false,[.v (.pointer none)],.ptr 83,[]⟩),
 (177,⟨1,8,false,[.v (.pointer none)],.ptr 81,[]⟩),
 (178,⟨5,40,true,[.d (.str []),.d (.int .u16 0),.d (.int .u16 0),.d (.int .u32 0),.d (.str [])],.struct [(0,9),(1,25),(2,24),(3,47),(4,9)],[.str,.int .u16,.int .u16,.int .u32,.str]⟩),
 (179,⟨5,40,true,[.d (.str []),.d (.int .u16 0),.d (.int .u16 0),.d (.int .u32 0),.d (.str [])],.struct [(0,9),(1,25),(2,24),(3,47),(4,9)],[.str,.int .u16,.int .u16,.int .u32,.str]⟩),
 (183,⟨1,8,false,[.v .nilFunc],.other,[]⟩),
 (187,⟨1,8,false,[.d (.int .u64 0)],.int .u64,[]⟩),
 (189,⟨1,8,false,[.v .nilFunc],.other,[]⟩),
 (191,⟨2,24,true,[.d (.int .u16 0),.d (.str [])],.struct [(0,24),(1,9)],[.int .u16,.str]⟩),
 (192,⟨2,24,true,[.d (.int .u16 0),.d (.str [])],.struct [(0,24),(1,9)],[.int .u16,.str]⟩),
 (194,⟨1,24,false,[nilS],.slice 272,[]⟩),
 (195,⟨1,24,false,[nilS],.slice 274,[]⟩),
 (196,⟨2,48,true,[nilS,nilS],.struct [(0,194),(1,195)],[]⟩),
 (197,⟨2,48,true,[nilS,nilS],.struct [(0,194),(1,195)],[]⟩),
 (199,⟨1,8,false,[.v .nilFunc],.other,[]⟩),
 (200,⟨1,8,false,[.v .nilFunc],.other,[]⟩),
 (204,⟨1,8,false,[.v .nilFunc],.other,[]⟩),
 (205,⟨1,8,false,[.v (.pointer none)],.ptr 288,[]⟩),
 (207,⟨1,8,false,[.v .nilFunc],.other,[]⟩),
 (208,⟨1,8,false,[.v .nilFunc],.other,[]⟩),
 (210,⟨1,24,false,[nilS],.slice 5,[]⟩),
 (211,⟨1,24,true,[nilS],.struct [(0,210)],[]⟩),
 (212,⟨1,24,true,[nilS],.struct [(0,210)],[]⟩),
 (217,⟨1,8,false,[.v .nilFunc],.other,[]⟩),
 (221,⟨1,8,false,[.v .nilFunc],.other,[]⟩),
 (224,⟨1,8,false,[.v .nilFunc],.other,[]⟩),
 (227,⟨1,8,false,[.v .nilFunc],.other,[]⟩),
 (228,⟨1,8,false,[.v .nilFunc],.other,[]⟩),
 (229,⟨7,56,true,[.d (.str []),.d (.int .u16 0),.d (.int .u32 0),nilS,.d (.int .u8 0),.d .ff,.d .ff],.struct [(0,49),(4,123),(5,4),(6,4)],[]⟩),
 (230,⟨7,56,true,[.d (.str []),.d (.int .u16 0),.d (.int .u32 0),nilS,.d (.int .u8 0),.d .ff,.d .ff],.struct [(0,49),(4,123),(5,4),(6,4)],[]⟩),
 (231,⟨1,8,false,[.v .nilFunc],.other,[]⟩),
 (232,⟨1,8,false,[.v .nilFunc],.other,[]⟩),
 (233,⟨8,64,true,[.d (.str []),.d (.int .u16 0),.d (.int .u32 0),nilS,.d (.int .u8 0),.d .ff,.d .ff,.d (.int .i64 0)],.struct [(0,230),(7,2)],[]⟩),
 (234,⟨8,64,true,[.d (.str []),.d (.int .u16 0),.d (.int .u32 0),nilS,.d (.int .u8 0),.d .ff,.d .ff,.d (.int .i64 0)],.struct [(0,230),(7,2)],[]⟩),
 (235,⟨1,8,false,[.v (.pointer none)],.ptr 135,[]⟩),
 (237,⟨1,8,false,[.v .nilFunc],.other,[]⟩),
 (238,⟨1,8,false,[.v .nilFunc],.other,[]⟩),
 (239,⟨1,8,false,[.v (.pointer none)],.ptr 142,[]⟩),
 (240,⟨1,8,false,[.v .nilFunc],.other,[]⟩),
 (245,⟨1,8,false,[.v .nilFunc],.other,[]⟩),
 (247,⟨1,8,false,[.v .nilFunc],.other,[]⟩),
 (248,⟨1,8,false,[.v .nilFunc],.other,[]⟩),
 (249,⟨1,8,false,[.v .nilFunc],.other,[]⟩),
 (250,⟨1,8,false,[.v .nilFunc],.other,[]⟩),
 (251,⟨3,32,true,[.d (.str []),.d (.int .i64 0),.d .ff],.struct [(0,9),(1,3),(2,4)],[.str,.int .i64,.bool]⟩),
 (252,⟨3,32,true,[.d (.str []),.d (.int .i64 0),.d .ff],.struct [(0,9),(1,3),(2,4)],[.str,.int .i64,.bool]⟩),
 (253,⟨1,8,false,[.v .nilFunc],.other,[]⟩),
 (254,⟨8,8,true,[.d (.int .u8 0),.d (.int .u8 0),.d (.int .u8 0),.d (.int .u8 0),.d (.int .u8 0),.d (.int .u8 0),.d (.int .u8 0),.d (.int .u8 0)],.array 8 5,[.int .u8,.int .u8,.int .u8,.int .u8,.int .u8,.int .u8,.int .u8,.int .u8]⟩),
 (255,⟨1,8,false,[.v .nilFunc],.other,[]⟩),
 (257,⟨1,8,false,[.v .nilFunc],.other,[]⟩),
 (258,⟨1,8,false,[.v .nilFunc],.other,[]⟩),
 (259,⟨1,8,false,[.v .nilFunc],.other,[]⟩),
 (260,⟨1,8,false,[.v .nilFunc],.other,[]⟩),
 (261,⟨1,8,false,[.v .nilFunc],.other,[]⟩),
 (262,⟨6,48,true,[.d (.int .u32 0),.d (.int .i64 0),.d (.int .i64 0),.d (.int .i64 0),.v (.pointer none),.v (.pointer none)],.struct [(0,47),(1,2),(2,3),(3,3),(4,152),(5,152)],[]⟩),
 (263,⟨6,48,true,[.d (.int .u32 0),.d (.int .i64 0),.d (.int .i64 0),.d (.int .i64 0),.v (.pointer none),.v (.pointer none)],.struct [(0,47),(1,2),(2,3),(3,3),(4,152),(5,152)],[]⟩),
 (265,⟨1,8,false,[.v .nilFunc],.other,[]⟩),
 (269,⟨1,8,false,[.v .nilFunc],.other,[]⟩),
 (270,⟨1,8,false,[.v .nilFunc],.other,[]⟩),
 (271,⟨2,40,true,[.d (.str []),nilS],.struct [(0,9),(1,81)],[]⟩),
 (272,⟨2,40,true,[.d (.str []),nilS],.struct [(0,9),(1,81)],[]⟩),
 (273,⟨2,32,true,[.d (.int .u32 0),nilS],.struct [(0,47),(1,171)],[]⟩),
 (274,⟨2,32,true,[.d (.int .u32 0),nilS],.struct [(0,47),(1,171)],[]⟩),
 (275,⟨1,8,false,[.v .nilFunc],.other,[]⟩),
 (276,⟨1,8,false,[.v (.map none)],.map 9 3,[]⟩),
 (277,⟨1,8,false,[.v (.map none)],.map 353 81,[]⟩),
 (278,⟨4,64,true,[nilS,nilS,.v (.map none),.v (.map none)],.struct [(0,197),(2,276),(3,277)],[]⟩),
 (279,⟨4,64,true,[nilS,nilS,.v (.map none),.v (.map none)],.struct [(0,197),(2,276),(3,277)],[]⟩),
 (280,⟨1,8,false,[.v .nilFunc],.other,[]⟩),
 (281,⟨1,8,false,[.v .nilFunc],.other,[]⟩),
 (285,⟨1,8,false,[.v .nilFunc],.other,[]⟩),
 (287,⟨4,48,true,[nilS,.d (.int .i64 0),.d .ff,.v (.map none)],.struct [(0,210),(1,3),(2,4),(3,276)],[]⟩),
 (288,⟨4,48,true,[nilS,.d (.int .i64 0),.d .ff,.v (.map none)],.struct [(0,210),(1,3),(2,4),(3,276)],[]⟩),
 (289,⟨1,8,false,[.v .nilFunc],.other,[]⟩),
 (291,⟨1,8,false,[.v .nilFunc],.other,[]⟩),
 (293,⟨1,8,false,[.v .nilFunc],.other,[]⟩),
 (294,⟨1,8,false,[.v .nilFunc],.other,[]⟩),
 (295,⟨1,8,false,[.v .nilFunc],.other,[]⟩),
 (297,⟨1,8,false,[.v .nilFunc],.other,[]⟩),
 (298,⟨1,8,false,[.v (.pointer none)],.ptr 304,[]⟩),
 (299,⟨8,64,true,[.d (.str []),.d (.int .u16 0),.d (.int .u32 0),nilS,.d (.int .u8 0),.d .ff,.d .ff,.d (.int .i64 0)],.struct [(0,230),(7,2)],[]⟩),
 (300,⟨8,64,true,[.d (.str []),.d (.int .u16 0),.d (.int .u32 0),nilS,.d (.int .u8 0),.d .ff,.d .ff,.d (.int .i64 0)],.struct [(0,230),(7,2)],[]⟩),
 (301,⟨2,24,true,[.d (.str []),.d (.int .u16 0)],.struct [(0,9),(1,25)],[.str,.int .u16]⟩),
 (302,⟨2,24,true,[.d (.str []),.d (.int .u16 0)],.struct [(0,9),(1,25)],[.str,.int .u16]⟩),
 (303,⟨12,104,true,[.d (.str []),.d (.int .u16 0),.d (.int .u32 0),nilS,.d (.int .u8 0),.d .ff,.d .ff,.d (.int .i64 0),.d (.str []),.d (.int .u16 0),.v (.pointer none),.v (.pointer none)],.struct [(0,300),(8,302),(10,298),(11,298)],[]⟩),
 (304,⟨12,104,true,[.d (.str []),.d (.int .u16 0),.d (.int .u32 0),nilS,.d (.int .u8 0),.d .ff,.d .ff,.d (.int .i64 0),.d (.str []),.d (.int .u16 0),.v (.pointer none),.v (.pointer none)],.struct [(0,300),(8,302),(10,298),(11,298)],[]⟩),
 (305,⟨1,8,false,[.v (.map none)],.map 302 298,[]⟩),
 (306,⟨3,24,true,[.d (.int .i64 0),.v (.pointer none),.v (.map none)],.struct [(0,3),(1,298),(2,305)],[]⟩),
 (307,⟨3,24,true,[.d (.int .i64 0),.v (.pointer none),.v (.map none)],.struct [(0,3),(1,298),(2,305)],[]⟩),
 (308,⟨1,8,false,[.v .nilFunc],.other,[]⟩),
 (309,⟨1,8,false,[.v .nilFunc],.other,[]⟩),
 (310,⟨1,8,false,[.v .nilFunc],.other,[]⟩),
 (312,⟨1,8,false,[.v .nilFunc],.other,[]⟩),
 (315,⟨1,8,false,[.v .nilFunc],.other,[]⟩),
 (316,⟨2,4,true,[.d (.int .u16 0),.d (.int .u16 0)],.array 2 25,[.int .u16,.int .u16]⟩),
 (321,⟨1,24,false,[nilS],.slice 323,[]⟩),
 (322,⟨5,48,true,[.d (.int .u32 0),.d (.str []),.d .ff,.d (.int .i64 0),.d (.int .i64 0)],.struct [(0,47),(1,9),(2,4),(3,3),(4,2)],[.int .u32,.str,.bool,.int .i64,.int .i64]⟩),
 (323,⟨5,48,true,[.d (.int .u32 0),.d (.str []),.d .ff,.d (.int .i64 0),.d (.int .i64 0)],.struct [(0,47),(1,9),(2,4),(3,3),(4,2)],[.int .u32,.str,.bool,.int .i64,.int .i64]⟩),
 (324,⟨1,8,false,[.v .nilFunc],.other,[]⟩),
 (330,⟨1,8,false,[.v .nilFunc],.other,[]⟩),
 (331,⟨1,8,false,[.v .nilFunc],.other,[]⟩),
 (332,⟨1,8,false,[.v .nilFunc],.other,[]⟩),
 (333,⟨3,40,true,[.d (.str []),.d (.str []),.d (.int .u64 0)],.struct [(0,9),(1,9),(2,63)],[.str,.str,.int .u64]⟩),
 (334,⟨3,40,true,[.d (.str []),.d (.str []),.d (.int .u64 0)],.struct [(0,9),(1,9),(2,63)],[.str,.str,.int .u64]⟩),
 (336,⟨3,24,true,[.d (.int .i64 0),.d (.int .i64 0),.d (.int .i64 0)],.struct [(0,3),(1,3),(2,3)],[.int .i64,.int .i64,.int .i64]⟩),
 (337,⟨3,24,true,[.d (.int .i64 0),.d (.int .i64 0),.d (.int .i64 0)],.struct [(0,3),(1,3),(2,3)],[.int .i64,.int .i64,.int .i64]⟩),
 (339,⟨1,8,false,[.v .nilFunc],.other,[]⟩),
 (340,⟨1,8,false,[.v (.pointer none)],.ptr 342,[]⟩),
 (341,⟨2,32,true,[.v (.pointer none),nilS],.struct [(0,340),(1,210)],[]⟩),
 (342,⟨2,32,true,[.v (.pointer none),nilS],.struct [(0,340),(1,210)],[]⟩),
 (344,⟨1,16,false,[.v .nilIface],.iface,[]⟩),
 (350,⟨1,8,false,[.v .nilFunc],.other,[]⟩),
 (351,⟨1,8,false,[.v .nilFunc],.other,[]⟩),
 (352,⟨2,24,true,[.d (.int .i64 0),.d (.str [])],.struct [(0,3),(1,9)],[.int .i64,.str]⟩),
 (353,⟨2,24,true,[.d (.int .i64 0),.d (.str [])],.struct [(0,3),(1,9)],[.int .i64,.str]⟩),
 (355,⟨1,8,false,[.v .nilFunc],.other,[]⟩),
 (356,⟨1,8,false,[.v (.map none)],.map 435 3,[]⟩),
 (357,⟨1,8,false,[.v (.map none)],.map 9 437,[]⟩),
 (358,⟨4,56,true,[.d (.str []),nilS,.v (.map none),.v (.map none)],.struct [(0,272),(2,356),(3,357)],[]⟩),
 (359,⟨4,56,true,[.d (.str []),nilS,.v (.map none),.v (.map none)],.struct [(0,272),(2,356),(3,357)],[]⟩),
 (361,⟨1,8,false,[.v .nilFunc],.other,[]⟩),
 (363,⟨1,8,false,[.v .nilFunc],.other,[]⟩),
 (365,⟨1,8,false,[.v .nilFunc],.other,[]⟩),
 (367,⟨3,56,true,[.d (.str []),nilS,.d (.str [])],.struct [(0,9),(1,41),(2,9)],[]⟩),
 (368,⟨3,56,true,[.d (.str []),nilS,.d (.str [])],.struct [(0,9),(1,41),(2,9)],[]⟩),
 (370,⟨1,8,false,[.v .nilFunc],.other,[]⟩),
 (372,⟨2,2,true,[.d (.int .u8 0),.d (.int .u8 0)],.array 2 5,[.int .u8,.int .u8]⟩),
 (376,⟨1,8,false,[.v .nilFunc],.other,[]⟩),
 (379,⟨1,8,false,[.v .nilFunc],.other,[]⟩),
 (384,⟨1,8,false,[.v .nilFunc],.other,[]⟩),
 (386,⟨1,8,false,[.v .nilFunc],.other,[]⟩),
 (387,⟨1,8,false,[.v (.map none)],.map 47 3,[]⟩),
 (389,⟨1,8,false,[.v .nilFunc],.other,[]⟩),
 (390,⟨7,64,true,[.d (.int .u32 0),.d (.str []),.d .ff,.d (.int .i64 0),.d (.int .i64 0),.v (.pointer none),.v (.pointer none)],.struct [(0,323),(5,130),(6,130)],[]⟩),
 (391,⟨7,64,true,[.d (.int .u32 0),.d (.str []),.d .ff,.d (.int .i64 0),.d (.int .i64 0),.v (.pointer none),.v (.pointer none)],.struct [(0,323),(5,130),(6,130)],[]⟩),
 (393,⟨1,8,false,[.v .nilFunc],.other,[]⟩),
 (395,⟨1,8,false,[.v .nilFunc],.other,[]⟩),
 (396,⟨4,32,true,[.d (.int .u64 0),.d (.int .u64 0),.d (.int .u64 0),.d (.int .u64 0)],.array 4 63,[.int .u64,.int .u64,.int .u64,.int .u64]⟩),
 (398,⟨1,8,false,[.v .nilFunc],.other,[]⟩),
 (402,⟨1,8,false,[.v .nilFunc],.other,[]⟩),
 (403,⟨1,8,false,[.v (.pointer none)],.ptr 5,[]⟩),
 (404,⟨1,8,false,[.v .nilFunc],.other,[]⟩),
 (406,⟨1,8,false,[.v .nilFunc],.other,[]⟩),
 (408,⟨1,8,false,[.v (.pointer none)],.ptr 359,[]⟩),
 (412,⟨1,8,false,[.v .nilFunc],.other,[]⟩),
 (415,⟨1,8,false,[.v .nilFunc],.other,[]⟩),
 (416,⟨1,8,false,[.v .nilFunc],.other,[]⟩),
 (417,⟨1,8,false,[.v .nilFunc],.other,[]⟩),
 (420,⟨1,8,false,[.v .nilFunc],.other,[]⟩),
 (421,⟨1,8,false,[.v .nilFunc],.other,[]⟩),
 (422,⟨1,8,false,[.v .nilFunc],.other,[]⟩),
 (424,⟨1,8,false,[.v .nilFunc],.other,[]⟩),
 (426,⟨1,8,false,[.v .nilFunc],.other,[]⟩),
 (427,⟨1,8,false,[.v .nilFunc],.other,[]⟩),
 (428,⟨1,8,false,[.v (.pointer none)],.other,[]⟩),
 (430,⟨1,8,false,[.v (.map none)],.map 431 3,[]⟩),
 (431,⟨2,16,true,[.d (.int .i64 0),.d (.int .i64 0)],.array 2 3,[.int .i64,.int .i64]⟩),
 (434,⟨4,40,true,[.d (.str []),.d (.int .u16 0),.d (.int .u16 0),.d (.str [])],.struct [(0,9),(1,25),(2,24),(3,9)],[.str,.int .u16,.int .u16,.str]⟩),
 (435,⟨4,40,true,[.d (.str []),.d (.int .u16 0),.d (.int .u16 0),.d (.str [])],.struct [(0,9),(1,25),(2,24),(3,9)],[.str,.int .u16,.int .u16,.str]⟩),
 (436,⟨5,40,true,[.d (.int .i64 0),.d (.int .i64 0),.d (.int .i64 0),.d (.int .i64 0),.d (.int .i64 0)],.struct [(0,3),(1,3),(2,3),(3,3),(4,3)],[.int .i64,.int .i64,.int .i64,.int .i64,.int .i64]⟩),
 (437,⟨5,40,true,[.d (.int .i64 0),.d (.int .i64 0),.d (.int .i64 0),.d (.int .i64 0),.d (.int .i64 0)],.struct [(0,3),(1,3),(2,3),(3,3),(4,3)],[.int .i64,.int .i64,.int .i64,.int .i64,.int .i64]⟩),
 (438,⟨1,8,false,[.v .nilFunc],.other,[]⟩),
 (439,⟨1,24,false,[nilS],.slice 442,[]⟩),
 (441,⟨2,40,true,[.d (.str []),nilS],.struct [(0,9),(1,41)],[]⟩),
 (442,⟨2,40,true,[.d (.str []),nilS],.struct [(0,9),(1,41)],[]⟩),
 (445,⟨1,8,false,[.v .nilFunc],.other,[]⟩),
 (447,⟨1,8,false,[.v .nilFunc],.other,[]⟩),
 (450,⟨1,8,false,[.v .nilFunc],.other,[]⟩),
 (468,⟨4,40,true,[.v (.pointer none),.v (.pointer none),.v (.pointer none),.d (.str [])],.struct [(0,17),(1,17),(2,17),(3,9)],[]⟩),
 (473,⟨1,1,false,[.d (.int .u8 0)],.int .u8,[]⟩),
 (474,⟨1,1,false,[.d (.int .u8 0)],.int .u8,[]⟩),
 (476,⟨1,4,false,[.d (.int .i32 0)],.int .i32,[]⟩),
 (477,⟨1,4,false,[.d (.int .i32 0)],.int .i32,[]⟩),
 (479,⟨11,48,true,[.d (.int .u64 0),.d (.int .u64 0),.d (.int .u32 0),.d (.int .u8 0),.d (.int .u8 0),.d (.int .u8 0),.d (.int .u8 0),.v .nilFunc,.v (.pointer none),.d (.int .i32 0),.d (.int .i32 0)],.struct [(0,12),(1,12),(2,47),(3,473),(4,5),(5,5),(6,474),(7,475),(8,403),(9,476),(10,477)],[]⟩),
 (480,⟨1,8,false,[.v .nilFunc],.other,[]⟩)]
def TT(n:Nat):Option TI:=Eng.look types n
set_option maxRecDepth 100000 in
theorem qe:TTok Tryz.prog TT:=jh1 (P:=Tryz.prog) (l:=types) (by kernel_rfl)
theorem mixed:Tryz.prog.follows .mixedOrders=true:=by kernel_rfl
def bt(s:List UInt8)(k:Nat):Nat:=(s[k]?.getD 0).toNat
theorem zf(s:List UInt8)(k:Nat):yg s (k:Int)=(bt s k:Int):=by
 unfold yg bt;simp
theorem uy(s:List UInt8)(k:Nat):bt s k<256:=UInt8.toNat_lt _
def more(s:List UInt8)(k:Nat):Prop:=k<s.length/\¬ bt s k=0/\bt s k<=63/\bt s k<s.length - k
instance (s:List UInt8) (k:Nat):Decidable (more s k):=by unfold more;infer_instance
def xn(s:List UInt8):Nat->Nat->Nat
 |0,k=>k
 |m+1,k=>if more s k then xn s m (k+1+bt s k) else k
def lastOf(s:List UInt8):Nat:=xn s s.length 0
def At(s:List UInt8)(k:Nat):Prop:=k<=s.length/\∃ m,s.length<=k+m/\xn s m k=lastOf s
theorem At.zero(s:List UInt8):At s 0:=⟨Nat.zero_le _,s.length,by omega,rfl⟩
theorem At.next{s:List UInt8}{k:Nat}(h:At s k)(hm:more s k):At s (k+1+bt s k):=by
 obtain⟨h1,m,h2,h3⟩:=h
 have:=hm
 obtain⟨a1,a2,a3,a4⟩:=this
 cases m with
 |zero=>omega
 |succ m=>exact⟨by omega,m,by omega,by rw[<-h3];simp[xn,hm]⟩
theorem At.last{s:List UInt8}{k:Nat}(h:At s k)(hm:¬ more s k):k=lastOf s:=by
 obtain⟨h1,m,h2,h3⟩:=h
 rw[<-h3]
 cases m <;> simp[xn,hm]
def qc(s:List UInt8):Prop:=0<s.length/\s.length<=255/\lastOf s=s.length - 1/\bt s (lastOf s)=0
instance (s:List UInt8):Decidable (qc s):=by unfold qc;infer_instance
theorem qn(n:Int)(h : -9223372036854775808<=n/\n<=9223372036854775807):IntKind.i64.wrap n=n:=by rw[IntKind.wrap_i64];omega
theorem w64s(i:Nat)(h:i<9223372036854775807):IntKind.i64.wrap ((i:Int)+1)=((i+1:Nat):Int):=by rw[qn _ (by omega)];omega
theorem wl(s:List UInt8):FnOk Tryz.prog 15 [.d (.str s)] (.d (.int .i64 (if qc s then 0 else 2))):=by
 refine qs (TT:=TT) (IN:=qf [(50,Tryz.f50,1),(115,Tryz.f115,2)]) qe ?_ mixed 1000 Tryz.func15 rfl (qh Tryz.func15 (by kernel_rfl) rfl) rfl 27 (by kernel_rfl) ?_
 ·exact qw (qw qi Tryz.func115 (by kernel_rfl) (by kernel_rfl)) Tryz.func50 (by kernel_rfl) (by kernel_rfl)
 conv=>whnf
 refine⟨fun h1=>?_,fun h1=>?_⟩
 ·have:¬ qc s:=fun hn=>by have a:=hn.1;simp at h1;rw [h1] at a;simp at a
  exact congrArg (DV.int _) (by rw[if_neg this])
 have hpos:0<s.length:=by
  rcases Nat.eq_zero_or_pos s.length with e|e
  ·rw [e] at h1;cases h1
  ·exact e
 conv=>whnf
 refine⟨fun h2=>?_,fun h2=>?_⟩
 ·have:¬ qc s:=fun hn=>by have a:=hn.2.1;simp at h2;omega
  exact congrArg (DV.int _) (by rw[if_neg this])
 have hlen:s.length<=255:=by simp at h2;omega
 conv=>whnf
 refine .inv Nat (fun k=>At s k) (fun k=>[(3,.d (.int .i64 k))]) (fun k=>[(0,.cells 3 [.d (.int .i64 k)])]) (fun k=>s.length - k) ⟨0,[0,1,2],At.zero s,?_⟩ ?_
 ·conv=>whnf
  repeat'(first|exact ⟨⟩|exact rfl|apply And.intro)
 intro k hk
 have hkl:=hk.1
 have hby:=uy s k
 have hwb:IntKind.i64.wrap (yg s (k:Int))=(bt s k:Int):=by rw[zf,qn _ (by omega)]
 have hwl:IntKind.i64.wrap ((s.length:Int) - 1)=(s.length:Int) - 1:=qn _ (by omega)
 have key1:¬ more s k->(((k:Int) != IntKind.i64.wrap ((s.length:Int) - 1))=true)->¬ qc s:=fun hm hne hn=>by
  have:=hk.last hm
  obtain⟨_,_,a,_⟩:=hn
  rw [hwl] at hne
  simp at hne
  omega
 have key2:¬ more s k->(((k:Int) != IntKind.i64.wrap ((s.length:Int) - 1))=false)->(bt s k=0↔qc s)/\k<s.length:=fun hm hne=>by
  have:=hk.last hm
  rw [hwl] at hne
  simp at hne
  unfold qc
  rw[<-this]
  omega
 conv=>whnf
 refine⟨fun hlt=>?_,fun hge=>?_⟩
 ·have hlt':k<s.length:=by simpa using hlt
  conv=>whnf
  refine⟨by simp;omega,?_⟩
  conv=>whnf
  refine⟨fun h0=>?_,fun h0=>?_⟩
  ·have hm:¬ more s k:=fun hm=>by rw [hwb] at h0;simp at h0;exact hm.2.1 h0
   conv=>whnf
   refine⟨fun e=>congrArg (DV.int _) (by rw[if_neg (key1 hm e)]),fun e=>?_⟩
   obtain⟨e1,e2⟩:=key2 hm e
   conv=>whnf
   refine⟨by simp;omega,?_⟩
   conv=>whnf
   refine⟨fun hz=>?_,fun hz=>?_⟩
   ·exact congrArg (DV.int _) (by rw [if_neg (fun hn=>by rw [zf] at hz;simp at hz;exact hz (e1.2 hn))])
   ·exact congrArg (DV.int _) (by rw [if_pos (e1.1 (by rw [zf] at hz;simpa using hz))])
  ·have h0':¬ bt s k=0:=by rw [hwb] at h0;simpa using h0
   conv=>whnf
   refine⟨fun h3=>?_,fun h3=>?_⟩
   ·have hm:¬ more s k:=fun hm=>by rw [hwb] at h3;simp at h3;have:=hm.2.2.1;omega
    conv=>whnf
    refine⟨fun e=>congrArg (DV.int _) (by rw[if_neg (key1 hm e)]),fun e=>?_⟩
    obtain⟨e1,e2⟩:=key2 hm e
    conv=>whnf
    refine⟨by simp;omega,?_⟩
    conv=>whnf
    refine⟨fun hz=>?_,fun hz=>?_⟩
    ·exact congrArg (DV.int _) (by rw [if_neg (fun hn=>by rw [zf] at hz;simp at hz;exact hz (e1.2 hn))])
    ·exact congrArg (DV.int _) (by rw [if_pos (e1.1 (by rw [zf] at hz;simpa using hz))])
   ·have h3':bt s k<=63:=by rw [hwb] at h3;simp at h3;omega
    conv=>whnf
    have hws:IntKind.i64.wrap ((s.length:Int) - (k:Int))=(s.length:Int) - k:=qn _ (by omega)
    refine⟨fun h4=>?_,fun h4=>?_⟩
    ·have hm:¬ more s k:=fun hm=>by rw [hwb,hws] at h4;simp at h4;have:=hm.2.2.2;omega
     conv=>whnf
     refine⟨fun e=>congrArg (DV.int _) (by rw[if_neg (key1 hm e)]),fun e=>?_⟩
     obtain⟨e1,e2⟩:=key2 hm e
     conv=>whnf
     refine⟨by simp;omega,?_⟩
     conv=>whnf
     refine⟨fun hz=>?_,fun hz=>?_⟩
     ·exact congrArg (DV.int _) (by rw [if_neg (fun hn=>by rw [zf] at hz;simp at hz;exact hz (e1.2 hn))])
     ·exact congrArg (DV.int _) (by rw [if_pos (e1.1 (by rw [zf] at hz;simpa using hz))])
    ·have hm:more s k:=⟨hlt',h0',h3',by rw [hwb,hws] at h4;simp at h4;omega⟩
     conv=>whnf
     refine⟨k+1+bt s k,[0,1,2],hk.next hm,by show s.length - (k+1+bt s k)<s.length - k;omega,?_⟩
     have hnx:IntKind.i64.wrap ((k:Int)+IntKind.i64.wrap (1+IntKind.i64.wrap (yg s (k:Int))))=((k+1+bt s k:Nat):Int):=by rw[hwb,qn (1+(bt s k:Int)) (by omega),qn _ (by omega)];omega
     conv=>whnf
     repeat'(first|exact ⟨⟩|exact rfl|apply And.intro)
     all_goals exact congrArg SV.d (congrArg (DV.int _) hnx)
 ·have hm:¬ more s k:=fun hm=>by have:=hm.1;simp at hge;omega
  conv=>whnf
  refine⟨fun e=>congrArg (DV.int _) (by rw[if_neg (key1 hm e)]),fun e=>?_⟩
  obtain⟨e1,e2⟩:=key2 hm e
  conv=>whnf
  refine⟨by simp;omega,?_⟩
  conv=>whnf
  refine⟨fun hz=>?_,fun hz=>?_⟩
  ·exact congrArg (DV.int _) (by rw [if_neg (fun hn=>by rw [zf] at hz;simp at hz;exact hz (e1.2 hn))])
  ·exact congrArg (DV.int _) (by rw [if_pos (e1.1 (by rw [zf] at hz;simpa using hz))])
def low(b:UInt8):UInt8:=if 65<=b/\b<=90 then b+32 else b
def fold(s:List UInt8):List UInt8:=s.map low
theorem uj(b:UInt8):(low b).toNat=if 65<=b.toNat/\b.toNat<=90 then b.toNat+32 else b.toNat:=by
 unfold low
 have e1:(65<=b)↔65<=b.toNat:=by rw[UInt8.le_iff_toNat_le];rfl
 have e2:(b<=90)↔b.toNat<=90:=by rw[UInt8.le_iff_toNat_le];rfl
 simp only[e1,e2]
 split
 ·rw[UInt8.toNat_add]
  have:(32:UInt8).toNat=32:=rfl
  omega
 ·rfl
def mix(s:List UInt8)(k j:Nat):Int:=if j<k then ((low (s[j]?.getD 0)).toNat:Int) else (bt s j:Int)
theorem vq(s:List UInt8)(hs:s.length<9223372036854775808):FnOk Tryz.prog 51 [.d (.str s)] (.d (.str (fold s))):=by
 refine qs (TT:=TT) (IN:=qf []) qe qi mixed 1000 Tryz.func51 rfl (qh Tryz.func51 (by kernel_rfl) rfl) rfl 28 (by kernel_rfl) ?_
 conv=>whnf
 refine .inv Nat (fun k=>k<=s.length) (fun k=>[(10,.d (.int .i64 k))]) (fun k=>[(0,.row 5 1 s.length .no (fun j=>[.int .u8 (mix s k j)]))]) (fun k=>s.length - k) ⟨0,[0],by omega,?_⟩ ?_
 ·conv=>whnf
  repeat'(first|exact ⟨⟩|exact rfl|apply And.intro)
  intro i hi
  simp[mix,zf]
 intro k hk
 have hk1:k<s.length->IntKind.i64.wrap ((k:Int)+1)=((k+1:Nat):Int):=fun _=>by rw[qn _ (by omega)];omega
 conv=>whnf
 refine⟨fun hlt=>?_,fun hge=>?_⟩
 ·have hlt':k<s.length:=by simpa using hlt
  conv=>whnf
  refine⟨by simp;omega,?_⟩
  have hmk:mix s k (Int.toNat (k:Int))=(bt s k:Int):=by simp[mix]
  have hb:=uy s k
  conv=>whnf
  have stay:¬ (65<=bt s k/\bt s k<=90)->∀ i,i<s.length->[DV.int IntKind.u8 (mix s k i)]=[DV.int IntKind.u8 (mix s (k+1) i)]:=fun hn i hi=>by
   unfold mix
   by_cases e:i=k
   ·subst e
    rw [if_neg (by omega),if_pos (by omega),uj,if_neg (by unfold bt at hn;exact hn)]
    rfl
   ·by_cases e2:i<k
    ·rw[if_pos e2,if_pos (by omega)]
    ·rw[if_neg e2,if_neg (by omega)]
  rw[hmk]
  refine⟨fun h1=>?_,fun h1=>?_⟩
  ·conv=>whnf
   refine⟨fun h2=>?_,fun h2=>?_⟩
   ·conv=>whnf
    refine⟨by simp;omega,?_⟩
    conv=>whnf
    refine⟨k+1,[0],by omega,by show s.length - (k+1)<s.length - k;omega,?_⟩
    conv=>whnf
    repeat'(first|exact ⟨⟩|exact rfl|apply And.intro)
    all_goals first
     |exact congrArg SV.d (congrArg (DV.int _) (hk1 hlt'))
     |exact stay (by simp at h1 h2;omega)
     |(
      intro i hi
      show oneF _ _ _ _ i=_
      unfold oneF mix
      simp at h1 h2
      by_cases e:i=k
      ·subst e
       simp only[Int.toNat_natCast,if_true,putD,List.set_cons_zero]
       rw [if_pos (by omega),uj,if_pos (by unfold bt at h1 h2;omega),IntKind.wrap_u8]
       unfold bt at *
       congr 2
       omega
      ·rw[if_neg (by simpa using e)]
       show[DV.int _ _]=[DV.int _ _]
       by_cases e2:i<k
       ·rw[if_pos e2,if_pos (by omega)]
       ·rw[if_neg e2,if_neg (by omega)])
   ·conv=>whnf
    refine⟨k+1,[0],by omega,by show s.length - (k+1)<s.length - k;omega,?_⟩
    conv=>whnf
    repeat'(first|exact ⟨⟩|exact rfl|apply And.intro)
    all_goals first
     |exact congrArg SV.d (congrArg (DV.int _) (hk1 hlt'))
     |exact stay (by simp at h1 h2;omega)
     |(
      intro i hi
      show oneF _ _ _ _ i=_
      unfold oneF mix
      simp at h1 h2
      by_cases e:i=k
      ·subst e
       simp only[Int.toNat_natCast,if_true,putD,List.set_cons_zero]
       rw [if_pos (by omega),uj,if_pos (by unfold bt at h1 h2;omega),IntKind.wrap_u8]
       unfold bt at *
       congr 2
       omega
      ·rw[if_neg (by simpa using e)]
       show[DV.int _ _]=[DV.int _ _]
       by_cases e2:i<k
       ·rw[if_pos e2,if_pos (by omega)]
       ·rw[if_neg e2,if_neg (by omega)])
  ·conv=>whnf
   refine⟨k+1,[0],by omega,by show s.length - (k+1)<s.length - k;omega,?_⟩
   conv=>whnf
   repeat'(first|exact ⟨⟩|exact rfl|apply And.intro)
   all_goals first
    |exact congrArg SV.d (congrArg (DV.int _) (hk1 hlt'))
    |exact stay (by simp at h1;omega)
    |(
     intro i hi
     show oneF _ _ _ _ i=_
     unfold oneF mix
     simp at h1
     by_cases e:i=k
     ·subst e
      simp only[Int.toNat_natCast,if_true,putD,List.set_cons_zero]
      rw [if_pos (by omega),uj,if_pos (by unfold bt at h1;omega),IntKind.wrap_u8]
      unfold bt at *
      congr 2
      omega
     ·rw[if_neg (by simpa using e)]
      show[DV.int _ _]=[DV.int _ _]
      by_cases e2:i<k
      ·rw[if_pos e2,if_pos (by omega)]
      ·rw[if_neg e2,if_neg (by omega)])
 ·have hke:k=s.length:=by simp at hge;omega
  subst hke
  conv=>whnf
  refine⟨fun i _=>⟨_,rfl⟩,?_⟩
  conv=>whnf
  refine congrArg DV.str ?_
  unfold j8 fold
  apply List.ext_getElem?
  intro i
  rw[List.getElem?_map,List.getElem?_map]
  by_cases hi:i<s.length
  ·rw[List.getElem?_range hi,List.getElem?_eq_getElem hi]
   simp[mix,hi]
  ·rw[List.getElem?_eq_none (by simp;omega),List.getElem?_eq_none (by omega)]
   rfl
def xj(s:List UInt8):Nat->Nat->Nat
 |0,_=>0
 |m+1,k=>if k<s.length/\k<255 then (if bt s k=0 then (if qc (s.take (k+1)) then k+1 else 0) else xj s m (k+1+bt s k)) else 0
def qz(s:List UInt8):Nat:=xj s 256 0
def FAt(s:List UInt8)(k:Nat):Prop:=k<=510/\∃ m,256<=k+m/\xj s m k=qz s
theorem FAt.zero(s:List UInt8):FAt s 0:=⟨by omega,256,by omega,rfl⟩
theorem FAt.step{s:List UInt8}{k:Nat}(h:FAt s k)(h1:k<s.length)(h2:k<255):(qz s=if bt s k=0 then (if qc (s.take (k+1)) then k+1 else 0) else qz s)/\(bt s k≠0->FAt s (k+1+bt s k)):=by
 obtain⟨hk,m,hm,e⟩:=h
 cases m with
 |zero=>omega
 |succ m =>
  simp only [xj,h1,h2,and_self,if_true] at e
  have:=uy s k
  refine⟨?_,fun hb=>⟨by omega,m,by omega,?_⟩⟩
  ·split
   ·rename_i hb;rw [if_pos hb] at e;exact e.symm
   ·rfl
  ·rw [if_neg hb] at e;exact e
theorem FAt.last{s:List UInt8}{k:Nat}(h:FAt s k)(h1:¬ (k<s.length/\k<255)):qz s=0:=by
 obtain⟨hk,m,hm,e⟩:=h
 rw[<-e]
 cases m with
 |zero=>rfl
 |succ m=>simp only[xj,if_neg h1]
theorem brT{b:Bool}{p q:Prop}(h:b=true)(hp:p):(b=true->p)/\(b=false->q):=⟨fun _=>hp,fun e=>(by rw [h] at e;cases e)⟩
theorem brF{b:Bool}{p q:Prop}(h:b=false)(hq:q):(b=true->p)/\(b=false->q):=⟨fun e=>(by rw [h] at e;cases e),fun _=>hq⟩
def strs(l:List (List UInt8))(i:Nat):List DV:=[.str (l[i]?.getD [])]
theorem wi(l:List (List UInt8))(x:List UInt8)(g:Nat->List DV)(hg:g 0=[.str x]):∀ i,i<l.length+1->catF l.length (strs l) g i=strs (l++[x]) i:=fun i hi=>by
 unfold catF strs
 split
 ·rename_i h;rw[List.getElem?_append_left h]
 ·rename_i h
  have:i=l.length:=by omega
  subst this
  simp[hg]
theorem DEq_refl(x:DV):DEq x x:=by
 cases x <;> simp[DEq]
theorem firstF_le(s:List UInt8):∀ m k,xj s m k<=s.length/\xj s m k<=255:=by
 intro m
 induction m with
 |zero=>intro k;simp[xj]
 |succ m ih =>
  intro k
  simp only[xj]
  split
  ·split
   ·split
    ·omega
    ·omega
   ·exact ih _
  ·omega
theorem ql7(s:List UInt8):qz s<=s.length/\qz s<=255:=firstF_le s _ _
def errno(b:Bool):Int:=if b then 0 else 2
theorem lenEq(s:List UInt8)(n:Nat):((s.length:Int) == (n:Int))=(s.length == n):=by
 rw[Bool.eq_iff_iff];simp;omega
end Go.Proofs.YtiiafibkblpbcaaGreat
namespace Go.Proofs
open Go.Shelf Go.RowKit
def Try.lays156_ren:Go.Shelf.Ren:=⟨fun|156=>202|165=>238|166=>180|169=>181|240=>222|241=>271|276=>250|277=>284|n=>n,fun|31=>41|9=>9|3=>3|4=>4|0=>0|20=>20|72=>342|76=>345|70=>340|37=>210|75=>344|127=>403|164=>428|5=>5|80=>172|n=>n,fun|n=>n⟩
theorem Try.lays156:Go.Proofs.Lays.n156 Tryz.prog Try.lays156_ren:={
 mixed:=by kernel_rfl
 f156:=Tryz.func202.trans (congrArg some (by kernel_rfl))
 f165:=Tryz.func238.trans (congrArg some (by kernel_rfl))
 f166:=Tryz.func180.trans (congrArg some (by kernel_rfl))
 f169:=Tryz.func181.trans (congrArg some (by kernel_rfl))
 f240:=Tryz.func222.trans (congrArg some (by kernel_rfl))
 f241:=Tryz.func271.trans (congrArg some (by kernel_rfl))
 f276:=Tryz.func250.trans (congrArg some (by kernel_rfl))
 f277:=Tryz.func284.trans (congrArg some (by kernel_rfl))
 t0:=Tryz.underlying0
 a0:=Tryz.isAgg0
 z0:=Tryz.sizeOf0
 v0:=Tryz.zeroValue0
 t3:=Tryz.underlying3
 a3:=Tryz.isAgg3
 z3:=Tryz.sizeOf3
 v3:=Tryz.zeroValue3
 t4:=Tryz.underlying4
 a4:=Tryz.isAgg4
 z4:=Tryz.sizeOf4
 v4:=Tryz.zeroValue4
 t9:=Tryz.underlying9
 a9:=Tryz.isAgg9
 z9:=Tryz.sizeOf9
 v9:=Tryz.zeroValue9
 t20:=Tryz.underlying20
 a20:=Tryz.isAgg20
 z20:=Tryz.sizeOf20
 v20:=Tryz.zeroValue20
 t31:=Tryz.underlying41
 a31:=Tryz.isAgg41
 z31:=Tryz.sizeOf41
 v31:=Tryz.zeroValue41
 t37:=Tryz.underlying210
 a37:=Tryz.isAgg210
 z37:=Tryz.sizeOf210
 v37:=Tryz.zeroValue210
 t70:=Tryz.underlying340
 a70:=Tryz.isAgg340
 z70:=Tryz.sizeOf340
 v70:=Tryz.zeroValue340
 t72:=Tryz.underlying342
 a72:=Tryz.isAgg342
 z72:=Tryz.sizeOf342
 v72:=Tryz.zeroValue342
 t75:=Tryz.underlying344
 a75:=Tryz.isAgg344
 z75:=Tryz.sizeOf344
 v75:=Tryz.zeroValue344
 t76:=Tryz.underlying345
 a76:=Tryz.isAgg345
 z76:=Tryz.sizeOf345
 v76:=Tryz.zeroValue345
 t127:=Tryz.underlying403
 a127:=Tryz.isAgg403
 z127:=Tryz.sizeOf403
 v127:=Tryz.zeroValue403
 t164:=Tryz.underlying428
 a164:=Tryz.isAgg428
 z164:=Tryz.sizeOf428
 v164:=Tryz.zeroValue428 }
theorem Try.Builder_Extra_156:Builder.Extra Tryz.prog Try.lays156_ren:={
 sizeBuilder:=by kernel_rfl
 liesBuilder:=by kernel_rfl
 t5:=Tryz.underlying5
 a5:=Tryz.isAgg5
 z5:=Tryz.sizeOf5
 v5:=Tryz.zeroValue5
 infoByte:=by kernel_rfl
 cellsByte:=by kernel_rfl
 sizeByte:=by kernel_rfl
 neB5:=by decide }
theorem Try.strings_Join_none(a:Option Addr)(c:Nat)(sep:ByteArray)(w:World) :
 Calls Tryz.prog 202 #[.slice a 0 c,.string sep] w fun e w'=>e = .returned (.string ⟨#[]⟩)/\w'=w:=Any.strings_Join_none Try.lays156 Try.Builder_Extra_156 a c sep w
theorem Try.strings_Join(bk o c:Nat)(xs:List ByteArray)(sep:ByteArray)(w:World)(hcells:∀ (j:Nat) x,xs[j]? = some x->w.cell? ⟨bk,o+j,none⟩=some (.string x))(hbk:bk<w.heap.size)(hN:xs.length<=140737488355328)(hcap:xs.length<=c)(hlen:(Lib.join (xs.map (·.data.toList)) sep.data.toList).length<=140737488355328) :
 Calls Tryz.prog 202 #[.slice (some ⟨bk,o,none⟩) xs.length c,.string sep] w fun e w'=>e = .returned (.string ⟨(Lib.join (xs.map (·.data.toList)) sep.data.toList).toArray⟩)/\Below w.heap.size w w':=Any.strings_Join Try.lays156 Try.Builder_Extra_156 bk o c xs sep w hcells hbk hN hcap hlen
end Go.Proofs
namespace Go.Proofs.YtiiafibkblpbcaaGreat
open Go Go.Eng
theorem rd_slice{w:World}{M:Nat->Prop}{b:Bool}{n sz:Nat}{f:Nat->List DV}{v:Value}(h:Rd w M (.sl b n sz f) v):(n=0/\v = .slice none 0 0)\/∃ (ad:Addr) (cap:Nat) (u:Nat->Nat->Value),v = .slice (some ad) n cap/\n<=cap /\
 (0<n->ad.block<w.heap.size/\¬ M ad.block)/\(∀ (i j:Nat) (d:DV),i<n->(f i)[j]? = some d->w.cell? (ad.add (i * sz+j))=some (u i j))/\(∀ (i j:Nat) (d:DV),i<n->(f i)[j]? = some d->Rd w M d (u i j)):=by
 cases h with
 |nil=>exact .inl ⟨rfl,rfl⟩
 |sl _ _ _ ad cap u g1 g3 g4 g5 g6=>exact .inr ⟨ad,cap,u,rfl,g1,g3,g5,g6⟩
theorem join_ok(b:Bool)(l:List (List UInt8))(sep:List UInt8)(hn:l.length<=140737488355328)(hj:(Lib.join l sep).length<=140737488355328):FnOk Tryz.prog 202 [.d (.sl b l.length 1 (strs l)),.d (.str sep)] (.d (.str (Lib.join l sep))):=by
 refine⟨qh Tryz.func202 (by kernel_rfl) rfl,fun M w vs _ hM hl hd=>?_⟩
 match vs,hl with
 |[v0,v1],_ =>
  have h0:=q9 (hd 0 _ v0 rfl rfl)
  have h1:=kq (hd 1 _ v1 rfl rfl)
  subst h1
  rcases rd_slice h0 with⟨hl0,rfl⟩|⟨ad,cap,u,rfl,g1,g3,g5,g6⟩
  ·have:l=[]:=List.eq_nil_of_length_eq_zero hl0
   subst this
   refine(Try.strings_Join_none none 0 ⟨sep.toArray⟩ w).mono ?_
   rintro e w' ⟨rfl,rfl⟩
   exact⟨_,rfl,Step.refl _ _,.d (.str _)⟩
  ·by_cases hz:l=[]
   ·subst hz
    refine(Try.strings_Join_none (some ad) cap ⟨sep.toArray⟩ w).mono ?_
    rintro e w' ⟨rfl,rfl⟩
    exact⟨_,rfl,Step.refl _ _,.d (.str _)⟩
   ·have hpos:0<l.length:=List.length_pos_iff.2 hz
    obtain⟨hb,_⟩:=g3 hpos
    have hu:∀ i,i<l.length->u i 0=strV (l[i]?.getD []):=fun i hi=>by
     have:=g6 i 0 (.str (l[i]?.getD [])) hi rfl
     exact kq (β:=noE) (.d this)
    have hc0:=g5 0 0 (.str (l[0]?.getD [])) hpos rfl
    have hspot:ad.spot=none:=by
     rw [show ad.add (0 * 1+0)=ad from rfl] at hc0
     unfold World.cell? at hc0
     split at hc0
     ·cases hs:ad.spot with
      |none=>rfl
      |some _=>simp [hs] at hc0
     ·cases hc0
    obtain⟨bk,o,sp⟩:=ad
    simp only at hspot hb
    subst hspot
    have:=Try.strings_Join bk o cap (l.map fun x=>⟨x.toArray⟩) ⟨sep.toArray⟩ w (fun j x hx=>by
     rw [List.getElem?_map,Option.map_eq_some_iff] at hx
     obtain⟨y,hy,rfl⟩:=hx
     have hj:j<l.length:=(List.getElem?_eq_some_iff.1 hy).1
     have h5:=g5 j 0 (.str (l[j]?.getD [])) hj rfl
     rw [hu j hj,j7,hy] at h5
     simpa[strV] using h5) hb (by simpa using hn) (by simpa using g1) (by
      simp only[List.map_map,Function.comp_def,List.toList_toArray,List.map_id']
      exact hj)
    simp only [List.length_map,List.map_map,Function.comp_def,List.toList_toArray,List.map_id'] at this
    refine this.mono ?_
    rintro e w' ⟨rfl,hw⟩
    exact⟨_,rfl,Step.of_below _ hw,.d (.str _)⟩
theorem first_ok(s:List UInt8):FnOk Tryz.prog 237 [.d (.str s)] (.d (.int .i64 (qz s))):=by
 refine qs (TT:=TT) (IN:=qf []) qe qi mixed 1000 Tryz.func237 rfl (qh Tryz.func237 (by kernel_rfl) rfl) rfl 30 (by kernel_rfl) ?_
 conv=>whnf
 refine .inv Nat (fun k=>FAt s k) (fun k=>[(3,.d (.int .i64 k))]) (fun k=>[]) (fun k=>600 - k) ⟨0,[],FAt.zero s,?_⟩ ?_
 ·conv=>whnf
  repeat'(first|exact ⟨⟩|exact rfl|apply And.intro)
 intro k hk
 have hk1:=hk.1
 have hby:=uy s k
 conv=>whnf
 refine⟨fun hlt=>?_,fun hge=>?_⟩
 ·conv=>whnf
  refine⟨fun hlt2=>?_,fun hge2=>?_⟩
  ·have h1:k<s.length:=by simpa using hlt
   have h2:k<255:=by simp at hlt2;omega
   obtain⟨e1,e2⟩:=hk.step h1 h2
   conv=>whnf
   refine⟨by simp;omega,?_⟩
   conv=>whnf
   rw[zf]
   refine⟨fun hb=>?_,fun hb=>?_⟩
   ·have hb':bt s k≠0:=by simpa using hb
    conv=>whnf
    refine⟨by simp;omega,?_⟩
    conv=>whnf
    refine⟨k+1+bt s k,[],e2 hb',by show 600 - (k+1+bt s k)<600 - k;omega,?_⟩
    have hnx:IntKind.i64.wrap ((k:Int)+IntKind.i64.wrap (1+IntKind.i64.wrap (yg s (k:Int))))=((k+1+bt s k:Nat):Int):=by simp(disch:=omega) only[zf,qn];omega
    conv=>whnf
    repeat'(first|exact ⟨⟩|exact rfl|apply And.intro)
    all_goals exact congrArg SV.d (congrArg (DV.int _) hnx)
   ·have hb':bt s k=0:=by simpa using hb
    rw [if_pos hb'] at e1
    have hw:=w64s k (by omega)
    conv=>whnf
    rw[hw]
    refine⟨by omega,?_⟩
    conv=>whnf
    refine oD (wl _) rfl rfl ?_
    have hsub:sub s 0 ((k+1:Nat):Int)=s.take (k+1):=by simp[sub]
    rw[hsub]
    by_cases hn:qc (s.take (k+1))
    ·rw [if_pos hn] at e1 ⊢
     conv=>whnf
     refine brF (by decide) ?_
     conv=>whnf
     refine congrArg (DV.int _) ?_
     rw[e1,hw]
    ·rw [if_neg hn] at e1 ⊢
     conv=>whnf
     refine brT (by decide) ?_
     conv=>whnf
     exact congrArg (DV.int _) (by rw[e1];rfl)
  ·conv=>whnf
   exact congrArg (DV.int _) (by rw [hk.last (by simp at hge2;omega)];rfl)
 ·conv=>whnf
  exact congrArg (DV.int _) (by rw [hk.last (by simp at hge;omega)];rfl)
def textsF:Nat->List UInt8->Option (List (List UInt8))
 |_,[]=>some []
 |0,_ :: _=>none
 |m+1,a :: r=>if a.toNat<=r.length then (textsF m (r.drop a.toNat)).map (r.take a.toNat :: ·) else none
def qi7(s:List UInt8):Option (List (List UInt8)):=textsF s.length s
def kg(s:List UInt8):Bool:=match qi7 s with
 |some l=>decide (0<l.length)
 |none=>false
def TAt(s:List UInt8)(k:Nat)(l:List (List UInt8)):Prop:=k<=s.length/\l.length<=k/\∃ m,s.length<=k+m/\(textsF m (s.drop k)).map (l ++ ·)=qi7 s
theorem TAt.zero(s:List UInt8):TAt s 0 []:=⟨Nat.zero_le _,Nat.zero_le _,s.length,by omega,by simp[qi7]⟩
theorem TAt.step{s:List UInt8}{k:Nat}{l:List (List UInt8)}(h:TAt s k l)(hk:k<s.length):(s.length<k+1+bt s k->qi7 s=none)/\(k+1+bt s k<=s.length->TAt s (k+1+bt s k) (l++[(s.drop (k+1)).take (bt s k)])):=by
 obtain⟨h1,h2,m,h3,h4⟩:=h
 have hd:s.drop k=s[k] :: s.drop (k+1):=List.drop_eq_getElem_cons hk
 have hb:bt s k=s[k].toNat:=by simp[bt,hk]
 cases m with
 |zero=>omega
 |succ m =>
  rw [hd] at h4
  simp only [textsF,List.length_drop,<-hb] at h4
  refine⟨fun hlt=>?_,fun hle=>⟨hle,by simp;omega,m,by omega,?_⟩⟩
  ·rw [if_neg (by omega)] at h4
   simpa using h4.symm
  ·rw [if_pos (by omega),List.drop_drop] at h4
   rw[<-h4]
   simp[Function.comp_def]
theorem TAt.last{s:List UInt8}{k:Nat}{l:List (List UInt8)}(h:TAt s k l)(hk:k=s.length):qi7 s=some l:=by
 obtain⟨h1,h2,m,h3,h4⟩:=h
 rw[<-h4,hk,List.drop_length]
 cases m <;> simp[textsF]
theorem texts_ok(s:List UInt8)(hs:s.length<=4096):FnOk Tryz.prog 200 [.d (.str s)] (.tup [.any,.d (.bool (kg s))]):=by
 refine qs (TT:=TT) (IN:=qf []) qe qi mixed 1000 Tryz.func200 rfl (qh Tryz.func200 (by kernel_rfl) rfl) rfl 28 (by kernel_rfl) ?_
 conv=>whnf
 refine .nilT 4 9 1 (fun _=>[]) _ _ rfl ?_
 conv=>whnf
 refine .inv (Nat × List (List UInt8)) (fun p=>TAt s p.1 p.2) (fun p=>[(0,.d (.str (s.drop p.1))),(4,.all 0)]) (fun p=>[(0,.row 9 1 p.2.length .iff (strs p.2))]) (fun p=>s.length - p.1) ⟨(0,[]),[0],TAt.zero s,?_⟩ ?_
 ·conv=>whnf
  repeat'(first|exact ⟨⟩|exact rfl|apply And.intro)
  intro i hi
  exact absurd hi (by simp)
 intro p hk
 have hk0:p.1<=s.length:=hk.1
 have hk2:p.2.length<=p.1:=hk.2.1
 have hby:=uy s p.1
 have hlen:(s.drop p.1).length=s.length - p.1:=by simp
 conv=>whnf
 refine⟨fun hne=>?_,fun heq=>?_⟩
 ·have hlt:p.1<s.length:=by
   rcases Nat.lt_or_ge p.1 s.length with e|e
   ·exact e
   ·rw [List.drop_eq_nil_of_le e] at hne;simp at hne
  obtain⟨e1,e2⟩:=TAt.step hk hlt
  have hb0:yg (s.drop p.1) 0=(bt s p.1:Int):=by
   rw[show(0:Int)=((0:Nat):Int) from rfl,zf]
   simp[bt]
  conv=>whnf
  refine⟨by omega,?_⟩
  have hsz:IntKind.i64.wrap (1+IntKind.i64.wrap (yg (s.drop p.1) 0))=((1+bt s p.1:Nat):Int):=by rw[hb0];simp(disch:=omega) only[qn];omega
  conv=>whnf
  rw[hsz]
  refine⟨fun hgt=>?_,fun hle=>?_⟩
  ·conv=>whnf
   refine⟨True.intro,?_,True.intro⟩
   have:kg s=false:=by unfold kg;rw [e1 (by simp at hgt;omega)]
   rw[this]
   exact rfl
  ·have hle':p.1+1+bt s p.1<=s.length:=by simp at hle;omega
   conv=>whnf
   refine⟨by omega,?_⟩
   conv=>whnf
   refine⟨by omega,?_⟩
   conv=>whnf
   refine⟨by omega,?_⟩
   conv=>whnf
   refine⟨(p.1+1+bt s p.1,p.2++[(s.drop (p.1+1)).take (bt s p.1)]),[2],e2 hle',by show s.length - (p.1+1+bt s p.1)<s.length - p.1;omega,?_⟩
   conv=>whnf
   repeat'(first|exact ⟨⟩|exact rfl|apply And.intro)
   ·refine congrArg SV.d (congrArg DV.str ?_)
    show sub (s.drop p.1) _ _=s.drop (p.1+1+bt s p.1)
    simp only[sub,Int.toNat_natCast,List.drop_drop]
    rw[List.take_of_length_le (by simp;omega)]
    congr 1
    omega
   ·simp
   ·refine wi _ _ _ ?_
    show[DV.str _]=[DV.str _]
    congr 2
    simp only[sub,Int.toNat_natCast,List.drop_drop]
    rw[show(1:Int).toNat=1 from rfl]
    congr 1
    omega
 ·have hke:p.1=s.length:=by
   simp at heq
   omega
  conv=>whnf
  refine⟨True.intro,?_,True.intro⟩
  have:kg s=decide (0<p.2.length):=by unfold kg;rw[TAt.last hk hke]
  rw[this]
  refine congrArg DV.bool ?_
  simp
def zv:Nat->List UInt8->Option (List (List UInt8) × List UInt8)
 |0,s=>some ([],s)
 |n+1,s=>if qz s=0 then none else (zv n (s.drop (qz s))).map (fun p=>(s.take (qz s) :: p.1,p.2))
def cutF(a n c:Nat)(s:List UInt8):Option (List UInt8 × List (List UInt8) × List UInt8) :=
 if s.length<2 * a then none else (zv n (s.drop (2 * a))).bind fun p=>if p.2.length=4 * c then some (s.take (2 * a),p.1,p.2) else none
def partsV(x:List UInt8)(l:List (List UInt8))(r:List UInt8):SV:=.agg [.d (.str x),.d (.sl (Nat.beq l.length 0) l.length 1 (strs l)),.d (.str r)]
def noParts:SV:=.agg [.d (.str []),nilS,.d (.str [])]
def cutR:Option (List UInt8 × List (List UInt8) × List UInt8)->SV
 |none=>.tup [noParts,.d .ff]
 |some (x,l,r)=>.tup [partsV x l r,.d .tt]
structure NAt(n:Nat)(s:List UInt8)(i:Nat)(l:List (List UInt8))(r:List UInt8):Prop where
 le:i<=n
 len:l.length=i
 short:r.length<=s.length
 eq:(zv (n - i) r).map (fun p=>(l++p.1,p.2))=zv n s
theorem NAt.zero(n:Nat)(s:List UInt8):NAt n s 0 [] s:=⟨Nat.zero_le _,rfl,Nat.le_refl _,by simp⟩
theorem NAt.step{n:Nat}{s:List UInt8}{i:Nat}{l:List (List UInt8)}{r:List UInt8}(h:NAt n s i l r)(hi:i<n):(qz r=0->zv n s=none)/\(qz r≠0->NAt n s (i+1) (l++[r.take (qz r)]) (r.drop (qz r))):=by
 have e:=h.eq
 rw [show n - i=(n - (i+1))+1 from by omega] at e
 simp only [zv] at e
 refine ⟨fun h0=>by rw [if_pos h0] at e;simpa using e.symm,fun h0=>⟨hi,by simp [h.len],by have:=h.short;simp;omega,?_⟩⟩
 rw [if_neg h0] at e
 rw[<-e]
 simp[Function.comp_def]
theorem NAt.last{n:Nat}{s:List UInt8}{l:List (List UInt8)}{r:List UInt8}(h:NAt n s n l r):zv n s=some (l,r):=by
 rw[<-h.eq]
 simp[zv]
theorem cut_ok(a n c:Nat)(ha:a<=100)(hn:n<=100)(hc:c<=100)(s:List UInt8):FnOk Tryz.prog 201 [.agg [.d (.int .i64 a),.d (.int .i64 n),.d (.int .i64 c)],.d (.str s)] (cutR (cutF a n c s)):=by
 refine qs (TT:=TT) (IN:=qf []) qe qi mixed 1000 Tryz.func201 rfl (qh Tryz.func201 (by kernel_rfl) rfl) rfl 56 (by kernel_rfl) ?_
 have h2a:IntKind.i64.wrap (2 * (a:Int))=((2 * a:Nat):Int):=by rw[qn _ (by omega)];omega
 have h4c:IntKind.i64.wrap (4 * (c:Int))=((4 * c:Nat):Int):=by rw[qn _ (by omega)];omega
 conv=>whnf
 rw[h2a]
 refine⟨fun hlt=>?_,fun hge=>?_⟩
 ·have:cutF a n c s=none:=by unfold cutF;rw [if_pos (by simp at hlt;omega)]
  rw[this]
  conv=>whnf
  repeat'(first|exact ⟨⟩|exact rfl|exact Or.inl rfl|exact .inr rfl|exact fun _ _=>rfl|apply And.intro)
 ·have hge':2 * a<=s.length:=by simp at hge;omega
  conv=>whnf
  rw[h2a]
  refine⟨by omega,?_⟩
  conv=>whnf
  rw[h2a]
  refine⟨by omega,?_⟩
  conv=>whnf
  refine .nilC 2 1 9 1 (fun _=>[]) _ _ _ _ rfl rfl ?_
  conv=>whnf
  have hr0:sub s ((2 * a:Nat):Int) (s.length:Int)=s.drop (2 * a):=by
   simp only[sub,Int.toNat_natCast]
   rw[List.take_of_length_le (by simp)]
  have hx0:sub s 0 ((2 * a:Nat):Int)=s.take (2 * a):=by simp only[sub,Int.toNat_natCast];simp
  rw[hr0,hx0]
  refine .inv (Nat × List (List UInt8) × List UInt8) (fun p=>NAt n (s.drop (2 * a)) p.1 p.2.1 p.2.2) (fun p=>[(7,.d (.str p.2.2)),(29,.d (.int .i64 p.1))]) (fun p=>[(2,.cells 368 [.d (.str (s.take (2 * a))),.all 3,.d (.str [])]),(3,.row 9 1 p.2.1.length .iff (strs p.2.1))]) (fun p=>n - p.1) ⟨(0,[],s.drop (2 * a)),[0,1,2,3],NAt.zero _ _,?_⟩ ?_
  ·conv=>whnf
   repeat'(first|exact ⟨⟩|exact rfl|apply And.intro)
   intro i hi
   omega
  intro p hp
  have hp1:=hp.le
  have hp2:=hp.len
  have hp3:=hp.short
  have hf:=ql7 p.2.2
  simp only [List.length_drop] at hp3
  conv=>whnf
  refine⟨fun hlt=>?_,fun hge=>?_⟩
  ·have hi:p.1<n:=by simpa using hlt
   obtain⟨e1,e2⟩:=hp.step hi
   conv=>whnf
   refine oD (first_ok _) rfl rfl ?_
   conv=>whnf
   refine⟨fun h0=>?_,fun h0=>?_⟩
   ·have h0':qz p.2.2=0:=by simpa using h0
    have:cutF a n c s=none:=by unfold cutF;rw[if_neg (by omega),e1 h0'];rfl
    rw[this]
    conv=>whnf
    repeat'(first|exact ⟨⟩|exact rfl|exact Or.inl rfl|exact .inr rfl|exact fun _ _=>rfl|apply And.intro)
   ·have h0':qz p.2.2≠0:=by simpa using h0
    conv=>whnf
    refine⟨by omega,?_⟩
    conv=>whnf
    refine⟨by omega,?_⟩
    conv=>whnf
    refine⟨by omega,?_⟩
    conv=>whnf
    refine⟨(p.1+1,p.2.1++[p.2.2.take (qz p.2.2)],p.2.2.drop (qz p.2.2)),[0,1,2,5],e2 h0',by show n - (p.1+1)<n - p.1;omega,?_⟩
    have hw:IntKind.i64.wrap ((p.1:Int)+1)=((p.1+1:Nat):Int):=by rw[qn _ (by omega)];omega
    conv=>whnf
    repeat'(first|exact ⟨⟩|exact rfl|apply And.intro)
    ·refine congrArg SV.d (congrArg DV.str ?_)
     simp only[sub,Int.toNat_natCast]
     rw[List.take_of_length_le (by simp)]
    ·exact congrArg SV.d (congrArg (DV.int _) hw)
    ·simp
    ·refine wi _ _ _ ?_
     show[DV.str _]=[DV.str _]
     simp[sub]
  ·have hi:p.1=n:=by simp at hge;omega
   rw [hi] at hp
   have hnm:=hp.last
   conv=>whnf
   rw[h4c]
   refine⟨fun hne=>?_,fun heq=>?_⟩
   ·have:cutF a n c s=none:=by unfold cutF;rw [if_neg (by omega),hnm];simp at hne ⊢;omega
    rw[this]
    conv=>whnf
    repeat'(first|exact ⟨⟩|exact rfl|exact Or.inl rfl|exact .inr rfl|exact fun _ _=>rfl|apply And.intro)
   ·have:cutF a n c s=some (s.take (2 * a),p.2.1,p.2.2):=by unfold cutF;rw [if_neg (by omega),hnm];simp at heq ⊢;omega
    rw[this]
    conv=>whnf
    repeat'(first|exact ⟨⟩|exact rfl|exact Or.inl rfl|exact .inr rfl|exact fun _ _=>rfl|apply And.intro)
def qy(t:Int):Option (Nat × Nat × Nat) :=
 if t=2\/t=5\/t=12 then some (0,1,0) else if t=15 then some (1,1,0) else if t=33 then some (3,1,0) else if t=6 then some (0,2,5) else none
def formV(p:Nat × Nat × Nat):SV:=.agg [.d (.int .i64 p.1),.d (.int .i64 p.2.1),.d (.int .i64 p.2.2)]
def formR:Option (Nat × Nat × Nat)->SV
 |some p=>.tup [formV p,.d .tt]
 |none=>.tup [formV (0,0,0),.d .ff]
theorem qh4{t:Int}{p:Nat × Nat × Nat}(h:qy t=some p):p.1<=100/\p.2.1<=100/\p.2.2<=100:=by
 unfold qy at h
 repeat'(split at h)
 all_goals first|(cases h;decide)|cases h
theorem formOf_ok(t:Int):FnOk Tryz.prog 179 [.d (.int .u16 t)] (formR (qy t)):=by
 refine qs (TT:=TT) (IN:=qf []) qe qi mixed 1000 Tryz.func179 rfl (qh Tryz.func179 (by kernel_rfl) rfl) rfl 19 (by kernel_rfl) ?_
 have fin1:t=2\/t=5\/t=12->qy t=some (0,1,0):=fun h=>by unfold qy;rw[if_pos h]
 conv=>whnf
 refine⟨fun h1=>?_,fun h1=>?_⟩
 ·rw[fin1 (.inl (by simpa using h1))]
  conv=>whnf
  refine brT h1 ?_
  conv=>whnf
  repeat'(first|exact ⟨⟩|exact rfl|apply And.intro)
 simp only [beq_eq_false_iff_ne,ne_eq] at h1
 conv=>whnf
 refine⟨fun h2=>?_,fun h2=>?_⟩
 ·rw[fin1 (.inr (.inl (by simpa using h2)))]
  conv=>whnf
  refine brT h2 ?_
  conv=>whnf
  repeat'(first|exact ⟨⟩|exact rfl|apply And.intro)
 simp only [beq_eq_false_iff_ne,ne_eq] at h2
 conv=>whnf
 refine⟨fun h3=>?_,fun h3=>?_⟩
 ·rw[fin1 (.inr (.inr (by simpa using h3)))]
  conv=>whnf
  repeat'(first|exact ⟨⟩|exact rfl|apply And.intro)
 simp only [beq_eq_false_iff_ne,ne_eq] at h3
 conv=>whnf
 refine⟨fun h4=>?_,fun h4=>?_⟩
 ·have:qy t=some (1,1,0):=by unfold qy;simp at h4;simp [h4]
  rw[this]
  conv=>whnf
  repeat'(first|exact ⟨⟩|exact rfl|apply And.intro)
 simp only [beq_eq_false_iff_ne,ne_eq] at h4
 conv=>whnf
 refine⟨fun h5=>?_,fun h5=>?_⟩
 ·have:qy t=some (3,1,0):=by unfold qy;simp at h5;simp [h5]
  rw[this]
  conv=>whnf
  repeat'(first|exact ⟨⟩|exact rfl|apply And.intro)
 simp only [beq_eq_false_iff_ne,ne_eq] at h5
 conv=>whnf
 refine⟨fun h6=>?_,fun h6=>?_⟩
 ·have:qy t=some (0,2,5):=by unfold qy;simp at h6;simp [h6]
  rw[this]
  conv=>whnf
  repeat'(first|exact ⟨⟩|exact rfl|apply And.intro)
 simp only [beq_eq_false_iff_ne,ne_eq] at h6
 have:qy t=none:=by unfold qy;simp[h1,h2,h3,h4,h5,h6]
 rw[this]
 conv=>whnf
 repeat'(first|exact ⟨⟩|exact rfl|apply And.intro)
def jf(t:Int)(s:List UInt8):Bool :=
 if t=1 then s.length == 4 else if t=28 then s.length == 16 else if t=16 then kg s else match qy t with
 |some p=>(cutF p.1 p.2.1 p.2.2 s).isSome
 |none=>true
def qr(t:Int)(s:List UInt8):Bool:=decide (s.length<=4096) && jf t s
theorem rcheck_ok(t:Int)(s:List UInt8):FnOk Tryz.prog 153 [.d (.int .u16 t),.d (.str s)] (.d (.int .i64 (errno (qr t s)))):=by
 refine qs (TT:=TT) (IN:=qf []) qe qi mixed 1000 Tryz.func153 rfl (qh Tryz.func153 (by kernel_rfl) rfl) rfl 43 (by kernel_rfl) ?_
 conv=>whnf
 refine⟨fun h0=>?_,fun h0=>?_⟩
 ·have:qr t s=false:=by unfold qr;simp at h0;simp;intro h;omega
  rw[this]
  conv=>whnf
  exact rfl
 have hle:s.length<=4096:=by simp at h0;omega
 have hr:qr t s=jf t s:=by unfold qr;simp[hle]
 rw[hr]
 have hlast:∀ b:Bool,jf t s=b->(((!b)=true->(if jf t s=true then (0:Int) else 2)=2)/\((!b)=false->(if jf t s=true then (0:Int) else 2)=0)):=fun b h=>by rw[h];cases b <;> simp
 conv=>whnf
 refine⟨fun h1=>?_,fun h1=>?_⟩
 ·simp only [beq_iff_eq] at h1
  have e:jf t s=((s.length:Int) == 4):=by unfold jf;rw[if_pos h1,<-lenEq];rfl
  obtain⟨l1,l2⟩:=hlast _ e
  conv=>whnf
  refine⟨fun h=>?_,fun h=>?_⟩
  ·conv=>whnf
   exact congrArg (DV.int _) (l1 h).symm
  ·conv=>whnf
   exact congrArg (DV.int _) (l2 h).symm
 simp only [beq_eq_false_iff_ne,ne_eq] at h1
 conv=>whnf
 refine⟨fun h2=>?_,fun h2=>?_⟩
 ·simp only [beq_iff_eq] at h2
  have e:jf t s=((s.length:Int) == 16):=by unfold jf;rw[if_neg h1,if_pos h2,<-lenEq];rfl
  obtain⟨l1,l2⟩:=hlast _ e
  conv=>whnf
  refine⟨fun h=>?_,fun h=>?_⟩
  ·conv=>whnf
   exact congrArg (DV.int _) (l1 h).symm
  ·conv=>whnf
   exact congrArg (DV.int _) (l2 h).symm
 simp only [beq_eq_false_iff_ne,ne_eq] at h2
 conv=>whnf
 refine⟨fun h3=>?_,fun h3=>?_⟩
 ·simp only [beq_iff_eq] at h3
  have e:jf t s=kg s:=by unfold jf;rw[if_neg h1,if_neg h2,if_pos h3]
  obtain⟨l1,l2⟩:=hlast _ e
  conv=>whnf
  refine oD (texts_ok s hle) rfl rfl ?_
  conv=>whnf
  refine⟨fun h=>?_,fun h=>?_⟩
  ·conv=>whnf
   exact congrArg (DV.int _) (l1 h).symm
  ·conv=>whnf
   exact congrArg (DV.int _) (l2 h).symm
 simp only [beq_eq_false_iff_ne,ne_eq] at h3
 conv=>whnf
 refine .one (.data _ (formOf_ok t) rfl ?_ ?_)
 ·cases qy t <;> rfl
 cases hf:qy t with
 |none =>
  have e:jf t s=true:=by unfold jf;rw[if_neg h1,if_neg h2,if_neg h3,hf]
  obtain⟨l1,l2⟩:=hlast _ e
  conv=>whnf
  refine brF (by simpa using h0) ?_
  conv=>whnf
  exact congrArg (DV.int _) (l2 rfl).symm
 |some p =>
  obtain⟨f1,f2,f3⟩:=qh4 hf
  have e:jf t s=(cutF p.1 p.2.1 p.2.2 s).isSome:=by unfold jf;rw[if_neg h1,if_neg h2,if_neg h3,hf]
  obtain⟨l1,l2⟩:=hlast _ e
  conv=>whnf
  refine .one (.data _ (cut_ok p.1 p.2.1 p.2.2 f1 f2 f3 s) rfl ?_ ?_)
  ·cases cutF p.1 p.2.1 p.2.2 s <;> rfl
  cases hc:cutF p.1 p.2.1 p.2.2 s with
  |none =>
   rw [hc] at l1
   conv=>whnf
   exact congrArg (DV.int _) (l1 rfl).symm
  |some q =>
   rw [hc] at l2
   conv=>whnf
   exact congrArg (DV.int _) (l2 rfl).symm
def zd(t:Int)(s:List UInt8):Option ((Nat × Nat × Nat) × (List UInt8 × List (List UInt8) × List UInt8)) :=
 if s.length<=4096 then (qy t).bind fun p=>(cutF p.1 p.2.1 p.2.2 s).map fun q=>(p,q) else none
def lookR:Option ((Nat × Nat × Nat) × (List UInt8 × List (List UInt8) × List UInt8))->SV
 |none=>.tup [.agg [.any,.any,.any],noParts,.d .ff]
 |some (p,x,l,r)=>.tup [formV p,partsV x l r,.d .tt]
theorem look_ok(t:Int)(s:List UInt8):FnOk Tryz.prog 197 [.d (.int .u16 t),.d (.str s)] (lookR (zd t s)):=by
 refine qs (TT:=TT) (IN:=qf []) qe qi mixed 1000 Tryz.func197 rfl (qh Tryz.func197 (by kernel_rfl) rfl) rfl 32 (by kernel_rfl) ?_
 conv=>whnf
 refine .one (.data _ (formOf_ok t) rfl ?_ ?_)
 ·cases qy t <;> rfl
 cases hf:qy t with
 |none =>
  have e:zd t s=none:=by unfold zd;rw[hf];split <;> rfl
  rw[e]
  conv=>whnf
  repeat'(first|exact ⟨⟩|exact rfl|exact Or.inl rfl|exact .inr rfl|exact fun _ _=>rfl|apply And.intro)
 |some p =>
  obtain⟨f1,f2,f3⟩:=qh4 hf
  conv=>whnf
  refine⟨fun hgt=>?_,fun hle=>?_⟩
  ·have e:zd t s=none:=by unfold zd;rw [if_neg (by simp at hgt;omega)]
   rw[e]
   conv=>whnf
   repeat'(first|exact ⟨⟩|exact rfl|exact Or.inl rfl|exact .inr rfl|exact fun _ _=>rfl|apply And.intro)
  ·have e:zd t s=(cutF p.1 p.2.1 p.2.2 s).map fun q=>(p,q):=by unfold zd;rw [if_pos (by simp at hle;omega),hf];rfl
   rw[e]
   conv=>whnf
   refine .one (.data _ (cut_ok p.1 p.2.1 p.2.2 f1 f2 f3 s) rfl ?_ ?_)
   ·cases cutF p.1 p.2.1 p.2.2 s <;> rfl
   cases hc:cutF p.1 p.2.1 p.2.2 s with
   |none =>
    conv=>whnf
    (apply Exists.intro;apply Exists.intro;apply And.intro;focus ((conv=>whnf);repeat'(first|exact ⟨⟩|exact rfl|apply And.intro)))
    conv=>whnf
    repeat'(first|exact ⟨⟩|exact rfl|exact Or.inl rfl|exact .inr rfl|exact fun _ _=>rfl|apply And.intro)
   |some q =>
    conv=>whnf
    (apply Exists.intro;apply Exists.intro;apply And.intro;focus ((conv=>whnf);repeat'(first|exact ⟨⟩|exact rfl|apply And.intro)))
    conv=>whnf
    repeat'(first|exact ⟨⟩|exact rfl|exact Or.inl rfl|exact .inr rfl|exact fun _ _=>rfl|apply And.intro)
def ju(t:Int)(s:List UInt8):List UInt8:=match zd t s with
 |none=>s
 |some (_,x,l,r)=>x++fold (Lib.join l [])++r
theorem qm7(l:List (List UInt8)):Lib.join l []=l.flatten:=by
 induction l with
 |nil=>rfl
 |cons a l ih=>cases l with
  |nil=>simp[Lib.join]
  |cons b l=>simp [Lib.join] at ih ⊢;rw [ih]
theorem jb7:∀ (n:Nat) (s:List UInt8) (l:List (List UInt8)) (r:List UInt8),zv n s=some (l,r)->l.length=n/\l.flatten.length+r.length=s.length:=by
 intro n
 induction n with
 |zero=>intro s l r h;simp only [zv,Option.some.injEq,Prod.mk.injEq] at h;obtain ⟨rfl,rfl⟩:=h;simp
 |succ n ih =>
  intro s l r h
  simp only [zv] at h
  split at h
  ·cases h
  ·cases hn:zv n (s.drop (qz s)) with
   |none=>rw [hn] at h;cases h
   |some p =>
    rw [hn] at h
    simp only [Option.map_some,Option.some.injEq,Prod.mk.injEq] at h
    obtain⟨rfl,rfl⟩:=h
    obtain⟨h1,h2⟩:=ih _ p.1 p.2 hn
    have:=ql7 s
    refine⟨by simp[h1],?_⟩
    simp only [List.flatten_cons,List.length_append,List.length_take,List.length_drop] at h2 ⊢
    omega
theorem lookF_len{t:Int}{s:List UInt8}{p:Nat × Nat × Nat}{x:List UInt8}{l:List (List UInt8)}{r:List UInt8}(h:zd t s=some (p,x,l,r)):s.length<=4096/\l.length<=100/\x.length+l.flatten.length+r.length=s.length:=by
 unfold zd at h
 split at h
 ·rename_i hs
  cases hf:qy t with
  |none=>rw [hf] at h;cases h
  |some q =>
   rw [hf] at h
   simp only [Option.bind_some] at h
   cases hc:cutF q.1 q.2.1 q.2.2 s with
   |none=>rw [hc] at h;cases h
   |some c =>
    rw [hc] at h
    simp only [Option.map_some,Option.some.injEq,Prod.mk.injEq] at h
    obtain⟨rfl,rfl⟩:=h
    unfold cutF at hc
    split at hc
    ·cases hc
    ·cases hn:zv q.2.1 (s.drop (2 * q.1)) with
     |none=>rw [hn] at hc;cases hc
     |some y =>
      rw [hn] at hc
      simp only [Option.bind_some] at hc
      split at hc
      ·simp only [Option.some.injEq,Prod.mk.injEq] at hc
       obtain⟨rfl,rfl,rfl⟩:=hc
       obtain⟨h1,h2⟩:=jb7 _ _ y.1 y.2 hn
       have:=(qh4 hf).2.1
       refine⟨hs,by omega,?_⟩
       simp only [List.length_take,List.length_drop] at h2 ⊢
       omega
      ·cases hc
 ·cases h
theorem rfold_ok(t:Int)(s:List UInt8):FnOk Tryz.prog 154 [.d (.int .u16 t),.d (.str s)] (.d (.str (ju t s))):=by
 refine qs (TT:=TT) (IN:=qf []) qe qi mixed 1000 Tryz.func154 rfl (qh Tryz.func154 (by kernel_rfl) rfl) rfl 26 (by kernel_rfl) ?_
 conv=>whnf
 refine .one (.data _ (look_ok t s) rfl ?_ ?_)
 ·cases zd t s <;> rfl
 cases hf:zd t s with
 |none =>
  have e:ju t s=s:=by unfold ju;rw[hf]
  rw[e]
  conv=>whnf
 |some p =>
  obtain⟨p,x,l,r⟩:=p
  obtain⟨h1,h2,h3⟩:=lookF_len hf
  have e:ju t s=x++fold (Lib.join l [])++r:=by unfold ju;rw[hf]
  rw[e]
  conv=>whnf
  refine .data _ (join_ok _ l [] (by omega) (by rw[qm7];omega)) rfl rfl ?_
  conv=>whnf
  refine .data _ (vq _ (by rw[qm7];omega)) rfl rfl ?_
  have hfl:(fold (Lib.join l [])).length=l.flatten.length:=by rw[qm7];simp only[fold,List.length_map]
  conv=>whnf
  refine⟨by omega,?_⟩
  conv=>whnf
  refine⟨by simp only[List.length_append];omega,?_⟩
  conv=>whnf
def zj(t:Int):Bool->List UInt8->List (List UInt8)->Bool
 |_,_,[]=>true
 |b,last,d :: l=>qr t d && !(b && (Op.bytesLess (ju t d) last || ju t d == last)) && zj t true (ju t d) l
def jn(name:List UInt8)(t ttl:Int)(l:List (List UInt8)):Bool :=
 qc name && decide (ttl<=2147483647) && decide (0<l.length/\l.length<=64) && zj t false [] l
def setV(name:List UInt8)(t ttl:Int)(b:Bool)(l:List (List UInt8)):SV:=.agg [.d (.str name),.d (.int .u16 t),.d (.int .u32 ttl),.d (.sl b l.length 1 (strs l))]
theorem scheck_ok(name:List UInt8)(t ttl:Int)(b:Bool)(l:List (List UInt8)):FnOk Tryz.prog 101 [setV name t ttl b l] (.d (.int .i64 (errno (jn name t ttl l)))):=by
 refine qs (TT:=TT) (IN:=qf []) qe qi mixed 1000 Tryz.func101 rfl (qh Tryz.func101 (by kernel_rfl) rfl) rfl 51 (by kernel_rfl) ?_
 have bad:jn name t ttl l=false->errno (jn name t ttl l)=2:=fun h=>by rw[h];rfl
 conv=>whnf
 refine oD (wl _) rfl rfl ?_
 by_cases hn:qc name
 ·rw[if_pos hn]
  conv=>whnf
  refine brF (by decide) ?_
  conv=>whnf
  refine⟨fun hgt=>?_,fun hle=>?_⟩
  ·rw [bad (by simp only [jn,Bool.and_eq_false_iff,decide_eq_false_iff_not];simp at hgt;omega)]
   conv=>whnf
  conv=>whnf
  refine⟨fun h0=>?_,fun h0=>?_⟩
  ·rw [bad (by simp only [jn,Bool.and_eq_false_iff,decide_eq_false_iff_not];simp at h0;simp [h0])]
   conv=>whnf
  conv=>whnf
  refine⟨fun h1=>?_,fun h1=>?_⟩
  ·rw [bad (by simp only [jn,Bool.and_eq_false_iff,decide_eq_false_iff_not];simp at h1;omega)]
   conv=>whnf
  have hl:0<l.length/\l.length<=64:=by simp at h0 h1;exact ⟨by rw [List.length_pos_iff];exact h0,by omega⟩
  have hsc:jn name t ttl l=zj t false [] l:=by
   unfold jn
   rw[decide_eq_true hl]
   have:ttl<=2147483647:=by simpa using hle
   simp[hn,this]
  rw[hsc]
  conv=>whnf
  refine .inv (Nat × List UInt8) (fun p=>p.1<=l.length/\zj t (decide (0<p.1)) p.2 (l.drop p.1)=zj t false [] l) (fun p=>[(3,.d (.str p.2)),(29,.d (.int .i64 p.1))]) (fun p=>[]) (fun p=>l.length - p.1) ⟨(0,[]),[0],⟨by omega,rfl⟩,?_⟩ ?_
  ·conv=>whnf
   repeat'(first|exact ⟨⟩|exact rfl|apply And.intro)
  intro p hp
  obtain⟨hp1,hp2⟩:=hp
  conv=>whnf
  refine⟨fun hlt=>?_,fun hge=>?_⟩
  ·have hi:p.1<l.length:=by simpa using hlt
   have hd:l.drop p.1=l[p.1] :: l.drop (p.1+1):=List.drop_eq_getElem_cons hi
   rw [hd] at hp2
   simp only [zj] at hp2
   conv=>whnf
   refine⟨by omega,?_⟩
   conv=>whnf
   have hel:l[((p.1:Nat):Int).toNat]?.getD []=l[p.1]:=by simp[hi]
   rw[hel]
   generalize hdd:l[p.1]=d at hp2 ⊢
   refine oD (rcheck_ok t d) rfl rfl ?_
   cases hr:qr t d with
   |false =>
    rw [hr,Bool.false_and,Bool.false_and] at hp2
    rw[show zj t false [] l=false from hp2.symm]
    conv=>whnf
    refine brT (by decide) ?_
    conv=>whnf
    exact rfl
   |true =>
    rw [hr,Bool.true_and] at hp2
    conv=>whnf
    refine brF (by decide) ?_
    conv=>whnf
    refine oD (rfold_ok t d) rfl rfl ?_
    conv=>whnf
    have fin:∀ z:Bool,((decide (0<p.1) && (Op.bytesLess (ju t d) p.2 || ju t d == p.2))=z)->z=false->zj t true (ju t d) (l.drop (p.1+1))=zj t false [] l:=fun z h1 h2=>by rw [h2] at h1;rw [h1] at hp2;simpa using hp2
    have hw:IntKind.i64.wrap ((p.1:Int)+1)=((p.1+1:Nat):Int):=by rw[qn _ (by omega)];omega
    refine⟨fun hg=>?_,fun hg=>?_⟩
    ·have hg':0<p.1:=by simp at hg;omega
     conv=>whnf
     refine⟨fun hle=>?_,fun hle=>?_⟩
     ·have:(Op.bytesLess (ju t d) p.2 || ju t d == p.2)=true:=hle
      rw [this] at hp2
      rw [decide_eq_true hg'] at hp2
      rw[show zj t false [] l=false from hp2.symm]
      conv=>whnf
      exact rfl
     ·conv=>whnf
      refine⟨(p.1+1,ju t d),[0],⟨hi,?_⟩,by show l.length - (p.1+1)<l.length - p.1;omega,?_⟩
      ·rw[decide_eq_true (Nat.succ_pos _)]
       exact fin _ rfl (by rw[show(Op.bytesLess (ju t d) p.2 || ju t d == p.2)=false from hle,Bool.and_false])
      conv=>whnf
      repeat'(first|exact ⟨⟩|exact rfl|apply And.intro)
      all_goals exact congrArg SV.d (congrArg (DV.int _) hw)
    ·have hg':p.1=0:=by simp at hg;omega
     conv=>whnf
     refine⟨(p.1+1,ju t d),[0],⟨hi,?_⟩,by show l.length - (p.1+1)<l.length - p.1;omega,?_⟩
     ·rw[decide_eq_true (Nat.succ_pos _)]
      exact fin _ rfl (by rw[hg'];rfl)
     conv=>whnf
     repeat'(first|exact ⟨⟩|exact rfl|apply And.intro)
     all_goals exact congrArg SV.d (congrArg (DV.int _) hw)
  ·have hi:p.1=l.length:=by simp at hge;omega
   rw [hi,List.drop_length] at hp2
   rw[<-hp2]
   conv=>whnf
   exact congrArg (DV.int _) rfl
 ·rw[if_neg hn]
  rw[bad (by simp[jn,hn])]
  conv=>whnf
  refine brT (by decide) ?_
  conv=>whnf
structure Th where
 nm:List UInt8
 ty:Int
 ttl:Int
 ni:Bool
 ln:Nat
 dg:Nat->List DV
 rk:Int
 no:Bool
 nb:Bool
 til:Int
def Th.cells(x:Th):List SV:=[.d (.str x.nm),.d (.int .u16 x.ty),.d (.int .u32 x.ttl),.d (.sl x.ni x.ln 1 x.dg),.d (.int .u8 x.rk),.d (.bool x.no),.d (.bool x.nb),.d (.int .i64 x.til)]
def Th.V(x:Th):SV:=.agg x.cells
theorem qh3(a0 a1 a2 a3 a4 a5 a6:DV)(til now:Int):FnOk Tryz.prog 157 [.agg [.d a0,.d a1,.d a2,.d a3,.d a4,.d a5,.d a6,.d (.int .i64 til)],.d (.int .i64 now)] (.d (.bool (decide (now<til)))):=by
 refine qs (TT:=TT) (IN:=qf []) qe qi mixed 1000 Tryz.func157 rfl (qh Tryz.func157 (by kernel_rfl) rfl) rfl 7 (by kernel_rfl) ?_
 conv=>whnf
theorem qg7(s:List UInt8)(t:Int)(hs:s.length<9223372036854775808):FnOk Tryz.prog 156 [.d (.str s),.d (.int .u16 t)] (.agg [.d (.str (fold s)),.d (.int .u16 t)]):=by
 refine qs (TT:=TT) (IN:=qf []) qe qi mixed 1000 Tryz.func156 rfl (qh Tryz.func156 (by kernel_rfl) rfl) rfl 7 (by kernel_rfl) ?_
 conv=>whnf
 refine oD (vq s hs) rfl rfl ?_
 conv=>whnf
 repeat'(first|exact ⟨⟩|exact rfl|apply And.intro)
theorem clone_ok(b:Bool)(n:Nat)(f:Nat->List DV)(hb:b=true->n=0)(hl:n<=1099511627776):FnOk Tryz.prog 47 [.d (.sl b n 1 f)] (.d (.sl b n 1 f)):=by
 refine qs (TT:=TT) (IN:=qf []) qe qi mixed 1000 Tryz.func47 rfl (qh Tryz.func47 (by kernel_rfl) rfl) rfl 7 (by kernel_rfl) ?_
 conv=>whnf
 refine⟨fun h=>?_,fun h=>?_⟩
 ·have h0:=hb h
  conv=>whnf
  refine⟨h.symm,h0.symm,.inl rfl,fun i hi=>absurd hi (by omega)⟩
 ·conv=>whnf
  refine⟨by omega,?_⟩
  conv=>whnf
  exact⟨h.symm,by omega,.inr rfl,fun i _=>by simp[catF]⟩
theorem qb7(nm:List UInt8)(ty ttl:Int)(b:Bool)(n:Nat)(f:Nat->List DV)(rk:Int)(x y:DV)(til:Int)(hb:b=true->n=0)(hl:n<=1099511627776):FnOk Tryz.prog 159 [.agg [.d (.str nm),.d (.int .u16 ty),.d (.int .u32 ttl),.d (.sl b n 1 f),.d (.int .u8 rk),.d x,.d y,.d (.int .i64 til)]] (.agg [.d (.str nm),.d (.int .u16 ty),.d (.int .u32 ttl),.d (.sl b n 1 f),.d (.int .u8 rk),.d x,.d y,.d (.int .i64 til)]):=by
 refine qs (TT:=TT) (IN:=qf []) qe qi mixed 1000 Tryz.func159 rfl (qh Tryz.func159 (by kernel_rfl) rfl) rfl 11 (by kernel_rfl) ?_
 conv=>whnf
 refine oD (clone_ok b n f hb hl) rfl rfl ?_
 conv=>whnf
 repeat'(first|exact ⟨⟩|exact rfl|exact DEq_refl _|exact .inr rfl|exact fun _ _=>rfl|apply And.intro)
structure CSt where
 room:Int
 r:Nat
 dom:Nat->Prop
 nm:Nat->List UInt8
 ty:Nat->Int
 ttl:Nat->Int
 ni:Nat->Bool
 ln:Nat->Nat
 dg:Nat->Nat->List DV
 rk:Nat->Int
 no:Nat->Bool
 nb:Nat->Bool
 til:Nat->Int
 an:Nat->List UInt8
 ak:Nat->Int
 bf:Nat->Nat
 bh:Nat->Nat
 m:List (List UInt8 × Int × Nat)
def ent(i:Nat)(e:List UInt8 × Int × Nat):List DV × List SV:=([.str e.1,.int .u16 e.2.1],[.ap i e.2.2 0])
def entL(i:Nat):List (List UInt8 × Int × Nat)->List (List DV × List SV)
 |[]=>[]
 |e :: l=>ent i e :: entL i l
def CSt.cols(c:CSt)(i:Nat):List Col:=[.str c.nm,.int .u16 c.ty,.int .u32 c.ttl,.sl 1 c.ni c.ln c.dg,.int .u8 c.rk,.bool c.no,.bool c.nb,.int .i64 c.til,.str c.an,.int .u16 c.ak,.np i c.bf,.np i c.bh]
def CSt.ks(c:CSt)(j:Nat):List KB:=[.cells 307 [.d (.int .i64 c.room),.np (j+1) c.r,.map (j+2)],.arena 304 c.dom (c.cols (j+1)),.map [EK.str,EK.int .u16] true false (entL (j+1) c.m)]
def CSt.th(c:CSt)(q:Nat):Th:=⟨c.nm q,c.ty q,c.ttl q,c.ni q,c.ln q,c.dg q,c.rk q,c.no q,c.nb q,c.til q⟩
structure CSt.Wf(c:CSt):Prop where
 h0:¬ c.dom 0
 hr:c.dom c.r
 hbf:∀ n,c.dom n->c.dom (c.bf n)
 hbh:∀ n,c.dom n->c.dom (c.bh n)
 hm:∀ e ∈ c.m,c.dom e.2.2/\c.an e.2.2=e.1/\c.ak e.2.2=e.2.1/\(c.ni e.2.2=true->c.ln e.2.2=0)/\c.ln e.2.2<=100000/\c.til e.2.2<=9223372036854775807
def fnd{α:Type}:List (List UInt8 × Int × α)->List UInt8->Int->Option α
 |[],_,_=>none
 |e :: l,a,k=>if a=e.1/\k=e.2.1 then some e.2.2 else fnd l a k
def put{α:Type}:List (List UInt8 × Int × α)->List UInt8->Int->α->List (List UInt8 × Int × α)
 |[],a,k,x=>[(a,k,x)]
 |e :: l,a,k,x=>if a=e.1/\k=e.2.1 then (a,k,x) :: l else e :: put l a k x
def del{α:Type}:List (List UInt8 × Int × α)->List UInt8->Int->List (List UInt8 × Int × α)
 |[],_,_=>[]
 |e :: l,a,k=>if a=e.1/\k=e.2.1 then l else e :: del l a k
theorem qs5(a:List UInt8)(k:Int)(e:List UInt8 × Int × Nat)(i:Nat):jy [.str a,.int .u16 k] (ent i e).1=decide (a=e.1/\k=e.2.1):=by
 rw[Bool.eq_iff_iff]
 simp[ent,jy,dEq,kEq]
theorem qi3(i:Nat)(l:List (List UInt8 × Int × Nat))(a:List UInt8)(k:Int):wb (entL i l) [.str a,.int .u16 k]=(fnd l a k).map (fun q=>[.ap i q 0]):=by
 induction l with
 |nil=>rfl
 |cons e l ih =>
  show(if jy [.str a,.int .u16 k] (ent i e).1 then some (ent i e).2 else wb (entL i l) [.str a,.int .u16 k])=_
  rw[qs5,ih,fnd]
  by_cases h:a=e.1/\k=e.2.1
  ·simp[h,ent]
  ·simp[h]
theorem put_ent(i:Nat)(l:List (List UInt8 × Int × Nat))(a:List UInt8)(k:Int)(q:Nat):putM (entL i l) [.str a,.int .u16 k] [.ap i q 0]=entL i (put l a k q):=by
 induction l with
 |nil=>rfl
 |cons e l ih =>
  show(if jy [.str a,.int .u16 k] (ent i e).1 then _ else ent i e :: putM (entL i l) [.str a,.int .u16 k] [.ap i q 0])=_
  rw[qs5,ih,put]
  by_cases h:a=e.1/\k=e.2.1
  ·simp[h,ent,entL]
  ·simp[h,entL]
theorem del_ent(i:Nat)(l:List (List UInt8 × Int × Nat))(a:List UInt8)(k:Int):delM (entL i l) [.str a,.int .u16 k]=entL i (del l a k):=by
 induction l with
 |nil=>rfl
 |cons e l ih =>
  show(if jy [.str a,.int .u16 k] (ent i e).1 then entL i l else ent i e :: delM (entL i l) [.str a,.int .u16 k])=_
  rw[qs5,ih,del]
  by_cases h:a=e.1/\k=e.2.1
  ·simp[h]
  ·simp[h,entL]
theorem entL_length(i:Nat)(l:List (List UInt8 × Int × Nat)):(entL i l).length=l.length:=by
 induction l with
 |nil=>rfl
 |cons e l ih=>simp[entL,ih]
theorem fnd_mem{α:Type}{l:List (List UInt8 × Int × α)}{a:List UInt8}{k:Int}{q:α}(h:fnd l a k=some q):(a,k,q) ∈ l:=by
 induction l with
 |nil=>cases h
 |cons e l ih =>
  simp only [fnd] at h
  split at h
  ·rename_i e1
   simp only [Option.some.injEq] at h
   obtain⟨rfl,rfl⟩:=e1
   subst h
   exact List.mem_cons_self ..
  ·exact List.mem_cons_of_mem _ (ih h)
theorem del_mem{α:Type}{l:List (List UInt8 × Int × α)}{a:List UInt8}{k:Int}{e:List UInt8 × Int × α}(h:e ∈ del l a k):e ∈ l:=by
 induction l with
 |nil=>cases h
 |cons x l ih =>
  simp only [del] at h
  split at h
  ·exact List.mem_cons_of_mem _ h
  ·rcases List.mem_cons.1 h with rfl|h
   ·exact List.mem_cons_self ..
   ·exact List.mem_cons_of_mem _ (ih h)
theorem put_mem{α:Type}{l:List (List UInt8 × Int × α)}{a:List UInt8}{k:Int}{x:α}{e:List UInt8 × Int × α}(h:e ∈ put l a k x):e=(a,k,x)\/e ∈ l:=by
 induction l with
 |nil=>exact .inl (by simpa[put] using h)
 |cons y l ih =>
  simp only [put] at h
  split at h
  ·rcases List.mem_cons.1 h with rfl|h
   ·exact .inl rfl
   ·exact .inr (List.mem_cons_of_mem _ h)
  ·rcases List.mem_cons.1 h with rfl|h
   ·exact .inr (List.mem_cons_self ..)
   ·exact(ih h).imp id (List.mem_cons_of_mem _)
def absL(f:Nat->Th):List (List UInt8 × Int × Nat)->List (List UInt8 × Int × Th)
 |[]=>[]
 |e :: l=>(e.1,e.2.1,f e.2.2) :: absL f l
theorem fnd_abs(f:Nat->Th)(l:List (List UInt8 × Int × Nat))(a:List UInt8)(k:Int):fnd (absL f l) a k=(fnd l a k).map f:=by
 induction l with
 |nil=>rfl
 |cons e l ih=>simp only[absL,fnd];split <;> simp[ih]
def CSt.abs(c:CSt):List (List UInt8 × Int × Th):=absL c.th c.m
theorem zq{D:Nat->Prop}{f:Nat->Nat}{i v j:Nat}(hv:D v)(hf:j≠i->D (f j)):D (upd f i v j):=by
 unfold upd
 split
 ·exact hv
 ·rename_i h;exact hf h
theorem zk{D:Nat->Prop}{n:Nat}(h0:¬ D 0)(h:D n):n≠0:=fun e=>h0 (e ▸ h)
def CSt.ring(c:CSt)(f g:Nat->Nat):CSt:={ c with bf:=f,bh:=g }
theorem CSt.Wf.ring{c:CSt}(h:c.Wf){f g:Nat->Nat}(hf:∀ n,c.dom n->c.dom (f n))(hg:∀ n,c.dom n->c.dom (g n)):(c.ring f g).Wf:=⟨h.h0,h.hr,hf,hg,h.hm⟩
theorem qa{ρ:List Nat}{i p:Nat}(h:posN i ρ 0=some p)(l:List (List UInt8 × Int × Nat)):renM ρ (entL i l)=entL p l:=by
 induction l with
 |nil=>rfl
 |cons e l ih=>simp[entL,renM,ent,renL,renV,h,ih]
def CSt.add(c:CSt)(p:Nat)(x:Th)(f g:Nat->Nat)(m:List (List UInt8 × Int × Nat)):CSt :=
 ⟨c.room,c.r,fun q=>q=p\/c.dom q,upd c.nm p x.nm,upd c.ty p x.ty,upd c.ttl p x.ttl,upd c.ni p x.ni,upd c.ln p x.ln,upd c.dg p x.dg,upd c.rk p x.rk,upd c.no p x.no,upd c.nb p x.nb,upd c.til p x.til,upd c.an p (fold x.nm),upd c.ak p x.ty,f,g,put m (fold x.nm) x.ty p⟩
theorem ins_dom{D:Nat->Prop}{f g:Nat->Nat}{p r:Nat}(hrp:r≠p)(hr:D r)(hf:∀ n,D n->D (f n))(hg:∀ n,D n->D (g n)) :
 (∀ m,(m=p\/D m)->(upd (upd (upd f p 0) p r) (upd (upd (upd g p 0) p (upd g p 0 r)) (upd (upd f p 0) p r p) p p) p m=p\/D (upd (upd (upd f p 0) p r) (upd (upd (upd g p 0) p (upd g p 0 r)) (upd (upd f p 0) p r p) p p) p m))) /\
 (∀ m,(m=p\/D m)->(upd (upd (upd g p 0) p (upd g p 0 r)) (upd (upd f p 0) p r p) p m=p\/D (upd (upd (upd g p 0) p (upd g p 0 r)) (upd (upd f p 0) p r p) p m))):=by
 have e1:upd (upd f p 0) p r p=r:=qm _ _ _
 have e2:upd g p 0 r=g r:=ql _ _ hrp
 rw[e1,e2]
 have e3:upd (upd (upd g p 0) p (g r)) r p p=g r:=by rw[ql _ _ (Ne.symm hrp),qm]
 rw[e3]
 refine⟨fun m hm=>?_,fun m hm=>?_⟩ <;> simp only[upd] <;> (repeat' split) <;> first
  |exact .inl rfl
  |exact .inr hr
  |exact .inr (hg _ hr)
  |exact .inr (hf _ (hm.resolve_left (by assumption)))
  |exact .inr (hg _ (hm.resolve_left (by assumption)))
theorem CSt.Wf.add{c:CSt}(h:c.Wf){p:Nat}(hp0:p≠0)(hpd:¬ c.dom p)(x:Th){f g:Nat->Nat}{m:List (List UInt8 × Int × Nat)}(hx:(x.ni=true->x.ln=0)/\x.ln<=100000/\x.til<=9223372036854775807)
 (hf:∀ m,(m=p\/c.dom m)->(f m=p\/c.dom (f m))) (hg:∀ m,(m=p\/c.dom m)->(g m=p\/c.dom (g m))) (hm:∀ e ∈ m,e ∈ c.m):(c.add p x f g m).Wf:=by
 refine⟨?_,.inr h.hr,hf,hg,fun e he=>?_⟩
 ·rintro (e|e)
  ·exact hp0 e.symm
  ·exact h.h0 e
 ·show(e.2.2=p\/c.dom e.2.2)/\upd c.an p (fold x.nm) e.2.2=e.1/\upd c.ak p x.ty e.2.2=e.2.1/\(upd c.ni p x.ni e.2.2=true->upd c.ln p x.ln e.2.2=0)/\upd c.ln p x.ln e.2.2<=100000/\upd c.til p x.til e.2.2<=9223372036854775807
  rcases put_mem he with rfl|he
  ·simpa[qm] using hx
  ·obtain⟨h1,h2⟩:=h.hm e (hm e he)
   have hne:e.2.2≠p:=fun q=>hpd (q ▸ h1)
   simp only[ql _ _ hne]
   exact⟨.inr h1,h2⟩
def Chn(f g:Nat->Nat):List Nat->Prop
 |a :: b :: l=>g a=b/\f b=a/\Chn f g (b :: l)
 |_=>True
structure Rng(f g:Nat->Nat)(r:Nat)(L:List Nat):Prop where
 nd:(r :: L).Nodup
 ch:Chn f g (r :: (L++[r]))
theorem Chn.app{f g:Nat->Nat}:∀ {X:List Nat} {a:Nat} {Y:List Nat},Chn f g (X++a :: Y)↔Chn f g (X++[a])/\Chn f g (a :: Y)
 |[],a,Y=>by simp[Chn]
 |[x],a,Y=>by
  cases Y with
  |nil=>simp[Chn]
  |cons y Y=>simp only[List.cons_append,List.nil_append,Chn,and_true];constructor <;> (intro h;simp_all)
 |x :: y :: X,a,Y=>by
  have ih:=Chn.app (f:=f) (g:=g) (X:=y :: X) (a:=a) (Y:=Y)
  simp only [List.cons_append,Chn] at ih ⊢
  rw[ih]
  simp only[and_assoc]
theorem Chn.congr{f g f' g':Nat->Nat}:∀ {W:List Nat},Chn f g W->(∀ x ∈ W.dropLast,g' x=g x)->(∀ x ∈ W.tail,f' x=f x)->Chn f' g' W
 |[],_,_,_=>trivial
 |[_],_,_,_=>trivial
 |a :: b :: l,h,hg,hf=>by
  obtain⟨h1,h2,h3⟩:=h
  refine⟨?_,?_,Chn.congr h3 (fun x hx=>hg x ?_) (fun x hx=>hf x (List.mem_cons_of_mem _ hx))⟩
  ·rw[hg a (by simp)];exact h1
  ·rw[hf b (by simp)];exact h2
  ·simp only[List.dropLast_cons_cons];exact List.mem_cons_of_mem _ hx
theorem Rng.cut{f g:Nat->Nat}{r q:Nat}{A B:List Nat}(h:Rng f g r (A++q :: B)):Rng (upd f (upd g (f q) (g q) q) (f q)) (upd g (f q) (g q)) r (A++B):=by
 obtain⟨nd,ch⟩:=h
 obtain⟨X,a,hX⟩:∃ X a,r :: A=X++[a]:=⟨(r :: A).dropLast,(r :: A).getLast (by simp),(List.dropLast_concat_getLast _).symm⟩
 obtain⟨b,Y,hY⟩:∃ b Y,B++[r]=b :: Y:=by
  cases B with
  |nil=>exact⟨r,[],rfl⟩
  |cons b B=>exact⟨b,B++[r],rfl⟩
 have e:r :: (A++q :: B++[r])=X++a :: q :: b :: Y:=by
  rw[show r :: (A++q :: B++[r])=(r :: A)++q :: (B++[r]) by simp,hX,hY]
  simp
 rw [e] at ch
 obtain⟨c1,c2⟩:=Chn.app.1 ch
 obtain⟨c3,c4,c5,c6,c7⟩:=c2
 have nd':((r :: A)++q :: B).Nodup:=nd
 rw [List.nodup_append] at nd'
 obtain⟨n1,n2,n3⟩:=nd'
 rw [List.nodup_cons] at n2
 have haA:a ∈ r :: A:=by rw[hX];simp
 have haq:a≠q:=fun e=>n3 a haA q (by simp) e
 have hbB:b ∈ B++[r]:=by rw[hY];simp
 have hrA:r ∉ A:=(List.nodup_cons.1 n1).1
 have hbA:b ∉ A:=fun hm=>by
  rcases List.mem_append.1 hbB with h|h
  ·exact n3 b (List.mem_cons_of_mem _ hm) b (List.mem_cons_of_mem _ h) rfl
  ·simp at h;subst h;exact hrA hm
 have haX:a ∉ X:=by
  rw [hX,List.nodup_append] at n1
  exact fun hm=>n1.2.2 a hm a (by simp) rfl
 have haB:a ∉ B:=fun hm=>n3 a haA a (List.mem_cons_of_mem _ hm) rfl
 have hrB:r ∉ B:=fun hm=>n3 r (by simp) r (List.mem_cons_of_mem _ hm) rfl
 have hbY:b ∉ Y:=fun hm=>by
  have:(B++[r]).Nodup:=by
   rw[List.nodup_append]
   exact ⟨n2.2,by simp,fun x hx y hy e'=>by simp at hy;rw [hy] at e';exact hrB (e' ▸ hx)⟩
  rw [hY] at this
  exact(List.nodup_cons.1 this).1 hm
 have hqa:upd g (f q) (g q) q=b:=by rw[c4,c5,ql _ _ (Ne.symm haq)];exact c5
 rw[hqa,c4,c5]
 refine⟨?_,?_⟩
 ·have:(r :: (A++B)).Sublist (r :: (A++q :: B)):=by simp
  exact this.nodup nd
 ·have e2:r :: (A++B++[r])=X++a :: b :: Y:=by
   rw[show r :: (A++B++[r])=(r :: A)++(B++[r]) by simp,hX,hY]
   simp
  rw[e2]
  refine Chn.app.2 ⟨c1.congr (fun x hx=>?_) (fun x hx=>?_),qm _ _ _,qm _ _ _,c7.congr (fun x hx=>?_) (fun x hx=>?_)⟩
  ·rw [List.dropLast_concat] at hx
   exact ql _ _ (fun e=>haX (e ▸ hx))
  ·rw [<-hX] at hx
   exact ql _ _ (fun e=>hbA (e ▸ hx))
  ·rw [<-hY,List.dropLast_concat] at hx
   exact ql _ _ (fun e=>haB (e ▸ hx))
  ·exact ql _ _ (fun e=>hbY (e ▸ hx))
theorem Rng.ins{f g:Nat->Nat}{r p:Nat}{L:List Nat}(h:Rng f g r L)(hp:p ∉ r :: L) :
 Rng (upd (upd (upd f p 0) p r) (upd (upd (upd g p 0) p (upd g p 0 r)) (upd (upd f p 0) p r p) p p) p) (upd (upd (upd g p 0) p (upd g p 0 r)) (upd (upd f p 0) p r p) p) r (p :: L):=by
 obtain⟨nd,ch⟩:=h
 obtain⟨b,Y,hY⟩:∃ b Y,L++[r]=b :: Y:=by
  cases L with
  |nil=>exact⟨r,[],rfl⟩
  |cons b B=>exact⟨b,B++[r],rfl⟩
 rw [hY] at ch
 obtain⟨c1,c2,c3⟩:=ch
 have hpr:p≠r:=fun e=>hp (e ▸ List.mem_cons_self ..)
 have hpL:p ∉ L:=fun hm=>hp (List.mem_cons_of_mem _ hm)
 have hrL:=(List.nodup_cons.1 nd).1
 have hbB:b ∈ L++[r]:=by rw[hY];simp
 have hpb:p≠b:=fun e=>by
  subst e
  rcases List.mem_append.1 hbB with h|h
  ·exact hpL h
  ·simp at h;exact hpr h
 have hbY:b ∉ Y:=fun hm=>by
  have:(L++[r]).Nodup:=by
   rw[List.nodup_append]
   exact ⟨(List.nodup_cons.1 nd).2,by simp,fun x hx y hy e'=>by simp at hy;rw [hy] at e';exact hrL (e' ▸ hx)⟩
  rw [hY] at this
  exact(List.nodup_cons.1 this).1 hm
 have e1:upd (upd f p 0) p r p=r:=qm _ _ _
 have e2:upd g p 0 r=b:=by rw[ql _ _ (Ne.symm hpr)];exact c1
 rw[e1,e2]
 have e3:upd (upd (upd g p 0) p b) r p p=b:=by rw[ql _ _ hpr,qm]
 rw[e3]
 refine⟨?_,?_⟩
 ·rw[List.nodup_cons,List.nodup_cons]
  refine⟨fun hm=>?_,hpL,(List.nodup_cons.1 nd).2⟩
  rcases List.mem_cons.1 hm with h|h
  ·exact hpr h.symm
  ·exact hrL h
 ·show Chn _ _ (r :: p :: (L++[r]))
  rw[hY]
  refine⟨qm _ _ _,?_,?_,qm _ _ _,c3.congr (fun x hx=>?_) (fun x hx=>?_)⟩
  ·rw[ql _ _ hpb,qm]
  ·rw[ql _ _ hpr,qm]
  ·rw [<-hY,List.dropLast_concat] at hx
   have h1:x≠r:=fun e=>hrL (e ▸ hx)
   have h2:x≠p:=fun e=>hpL (e ▸ hx)
   rw[ql _ _ h1,ql _ _ h2,ql _ _ h2]
  ·have hxm:x ∈ L++[r]:=by rw[hY];exact List.mem_cons_of_mem _ hx
   have h1:x≠b:=fun e=>hbY (e ▸ hx)
   have h2:x≠p:=fun e=>by
    subst e
    rcases List.mem_append.1 hxm with h|h
    ·exact hpL h
    ·simp at h;exact hpr h
   rw[ql _ _ h1,ql _ _ h2,ql _ _ h2]
theorem Rng.next{f g:Nat->Nat}{r:Nat}{L:List Nat}(h:Rng f g r L){k:Nat}(hk:k<=L.length):g ((r :: L).getD k 0)=(L++[r]).getD k 0:=by
 have hc:∀ (W:List Nat) (a:Nat),Chn f g (a :: W)->∀ k,k<W.length->g ((a :: W).getD k 0)=W.getD k 0:=by
  intro W
  induction W with
  |nil=>intro a _ k hk;simp at hk
  |cons b W ih =>
   intro a ha k hk
   cases k with
   |zero=>exact ha.1
   |succ k =>
    have:=ih b ha.2.2 k (by simpa using hk)
    simpa using this
 have:=hc (L++[r]) r h.ch k (by simp;omega)
 have e:(r :: (L++[r])).getD k 0=(r :: L).getD k 0:=by
  rw[show r :: (L++[r])=(r :: L)++[r] from rfl,List.getD,List.getD,List.getElem?_append_left (by simp;omega)]
 rw[<-e]
 exact this
structure Held where
 nm:List UInt8
 ty:Int
 ttl:Int
 z:Bool
 data:List (List UInt8)
 rank:Int
 no:Bool
 name:Bool
 til:Int
def Held.enc(h:Held):List DV:=[.str h.nm,.int .u16 h.ty,.int .u32 h.ttl,.sl h.z h.data.length 1 (strs h.data),.int .u8 h.rank,.bool h.no,.bool h.name,.int .i64 h.til]
def Held.V(h:Held):SV:=.agg [.d (.str h.nm),.d (.int .u16 h.ty),.d (.int .u32 h.ttl),.d (.sl h.z h.data.length 1 (strs h.data)),.d (.int .u8 h.rank),.d (.bool h.no),.d (.bool h.name),.d (.int .i64 h.til)]
instance:Inhabited Held:=⟨⟨[],0,0,true,[],0,false,false,0⟩⟩
def Held.ok(h:Held):Bool:=decide (0<=h.til/\h.til<=4611686018428436480) &&
 if h.no=false then decide (h.name=false/\1<=h.rank/\h.rank<=4) && jn h.nm h.ty h.ttl h.data
 else decide (1<=h.ttl/\h.data.length=0/\h.rank=4/\h.name=decide (h.ty=0)) && decide (qc h.nm)
theorem Held.ok_til{h:Held}(h1:¬ (0<=h.til/\h.til<=4611686018428436480)):h.ok=false:=by
 unfold Held.ok
 rw[decide_eq_false h1,Bool.false_and]
theorem Held.ok_set{h:Held}(h1:0<=h.til/\h.til<=4611686018428436480)(hno:h.no=false):h.ok=(decide (h.name=false/\1<=h.rank/\h.rank<=4) && jn h.nm h.ty h.ttl h.data):=by
 unfold Held.ok
 rw[decide_eq_true h1,Bool.true_and,if_pos hno]
def Held.fV(h:Held):SV:=.agg [.d (.str h.nm),.d (.int .u16 h.ty),.d (.int .u32 h.ttl),.d (.sl h.z h.data.length 1 (strs h.data)),.d (.int .u8 h.rank),.d (.bool h.no),.d (.bool h.name)]
def heldsD(z:Bool)(l:List Held):DV:=.sl z l.length 8 (fun i=>(l.getD i default).enc)
theorem held_cat(l:List Held)(q:Held)(j:Nat)(hj:j<l.length+1):catF l.length (fun j=>(l.getD j default).enc) (q8 q.enc 8) j=((l++[q]).getD j default).enc:=by
 unfold catF
 split
 ·rename_i h
  show(l.getD j default).enc=_
  rw[List.getD,List.getD,List.getElem?_append_left h]
 ·rename_i h
  have:j=l.length:=by omega
  subst this
  rw[Nat.sub_self,List.getD,List.getElem?_append_right (Nat.le_refl _),Nat.sub_self]
  rfl
structure Held.In(h:Held):Prop where
 ty:0<=h.ty/\h.ty<=65535
 ttl:0<=h.ttl/\h.ttl<=4294967295
 rank:0<=h.rank/\h.rank<=255
 til : -9223372036854775808<=h.til/\h.til<=9223372036854775807
theorem held_name{h:Held}(hk:h.ok=true):qc h.nm:=by
 unfold Held.ok jn at hk
 simp only [Bool.and_eq_true] at hk
 cases hn:h.no with
 |false =>
  rw [hn,if_pos rfl] at hk
  simp only [Bool.and_eq_true,decide_eq_true_eq] at hk
  exact hk.2.2.1.1.1
 |true =>
  rw [hn,if_neg (by decide)] at hk
  simp only [Bool.and_eq_true,decide_eq_true_eq] at hk
  exact hk.2.2
def Held.th(h:Held):Th:=⟨h.nm,h.ty,h.ttl,h.z,h.data.length,strs h.data,h.rank,h.no,h.name,h.til⟩
def plEq(h y:Held):Bool:=decide (fold y.nm=fold h.nm/\y.ty=h.ty)
structure CSt.Rep(c:CSt)(L:List Nat)(H:List Held):Prop where
 wf:c.Wf
 ring:Rng c.bf c.bh c.r L
 dom:∀ q ∈ L,c.dom q/\c.an q=fold (c.nm q)/\c.ak q=c.ty q
 th:L.map c.th=H.map Held.th
 map:∀ a k,fnd c.m a k=L.find? (fun q=>decide (c.an q=a/\c.ak q=k))
 len:c.m.length<=L.length
 dist:H.Pairwise (fun y y'=>plEq y y'=false)
 good:∀ h ∈ H,(h.z=true->h.data.length=0)/\h.data.length<=100000
theorem fnd_put{α:Type}(l:List (List UInt8 × Int × α))(a:List UInt8)(k:Int)(x:α)(a':List UInt8)(k':Int):fnd (put l a k x) a' k'=if a'=a/\k'=k then some x else fnd l a' k':=by
 induction l with
 |nil=>simp only[put,fnd]
 |cons e l ih =>
  simp only[put]
  split
  ·rename_i h
   show(if a'=a/\k'=k then some x else fnd l a' k')=if a'=a/\k'=k then some x else (if a'=e.1/\k'=e.2.1 then some e.2.2 else fnd l a' k')
   rw[<-h.1,<-h.2]
   split <;> rfl
  ·rename_i h
   simp only[fnd,ih]
   by_cases h1:a'=a/\k'=k
   ·rw[if_neg (by rw[h1.1,h1.2];exact h),if_pos h1,if_pos h1]
   ·rw[if_neg h1,if_neg h1]
theorem fnd_del{α:Type}(l:List (List UInt8 × Int × α))(a:List UInt8)(k:Int)(a':List UInt8)(k':Int)(hne:¬ (a'=a/\k'=k)):fnd (del l a k) a' k'=fnd l a' k':=by
 induction l with
 |nil=>rfl
 |cons e l ih =>
  simp only[del]
  split
  ·rename_i h
   simp only[fnd]
   rw[if_neg (by rw[<-h.1,<-h.2];exact hne)]
  ·simp only[fnd,ih]
theorem put_len{α:Type}(l:List (List UInt8 × Int × α))(a:List UInt8)(k:Int)(x:α):(put l a k x).length<=l.length+1:=by
 induction l with
 |nil=>simp[put]
 |cons e l ih=>simp only[put];split <;> simp <;> omega
theorem del_len{α:Type}(l:List (List UInt8 × Int × α))(a:List UInt8)(k:Int){x:α}(h:fnd l a k=some x):(del l a k).length+1=l.length:=by
 induction l with
 |nil=>cases h
 |cons e l ih =>
  simp only [fnd] at h
  simp only[del]
  split
  ·simp
  ·rename_i hn
   rw [if_neg hn] at h
   simp[ih h]
theorem CSt.Rep.add{c:CSt}{L M:List Nat}{H H1:List Held}(hr:c.Rep L H){p:Nat}(hp0:p≠0)(hpd:¬ c.dom p)(h:Held){m1:List (List UInt8 × Int × Nat)}{f1 g1:Nat->Nat}
 (hh:(h.z=true->h.data.length=0)/\h.data.length<=100000/\h.til<=9223372036854775807)
 (hM:∀ q ∈ M,q ∈ L) (hring:Rng f1 g1 c.r M) (hth:M.map c.th=H1.map Held.th) (hmap:∀ a k,¬ (a=fold h.nm/\k=h.ty)->fnd m1 a k=M.find? (fun q=>decide (c.an q=a/\c.ak q=k)))
 (hlen:m1.length<=M.length) (hm:∀ e ∈ m1,e ∈ c.m) (hd:H1.Pairwise (fun y y'=>plEq y y'=false)) (hno:∀ y ∈ H1,plEq h y=false) (hH1:∀ y ∈ H1,y ∈ H) {F G:Nat->Nat}
 (hF:F=upd (upd (upd f1 p 0) p c.r) (upd (upd (upd g1 p 0) p (upd g1 p 0 c.r)) (upd (upd f1 p 0) p c.r p) p p) p) (hG:G=upd (upd (upd g1 p 0) p (upd g1 p 0 c.r)) (upd (upd f1 p 0) p c.r p) p)
 (hf1:∀ n,c.dom n->c.dom (f1 n)) (hg1:∀ n,c.dom n->c.dom (g1 n)):(c.add p h.th F G m1).Rep (p :: M) (h :: H1):=by
 have hne:∀ q ∈ M,q≠p:=fun q hq e=>hpd (e ▸ (hr.dom q (hM q hq)).1)
 have hrp:c.r≠p:=fun e=>hpd (e ▸ hr.wf.hr)
 obtain⟨hF1,hG1⟩:=ins_dom hrp hr.wf.hr hf1 hg1
 refine⟨hr.wf.add hp0 hpd h.th hh (by rw[hF];exact hF1) (by rw[hG];exact hG1) hm,?_,fun q hq=>?_,?_,fun a k=>?_,?_,?_,fun y hy=>?_⟩
 ·show Rng F G c.r (p :: M)
  rw[hF,hG]
  refine hring.ins (fun hm'=>?_)
  rcases List.mem_cons.1 hm' with e|e
  ·exact hrp e.symm
  ·exact hne p e rfl
 ·rcases List.mem_cons.1 hq with rfl|hq
  ·refine⟨.inl rfl,?_,?_⟩
   ·show upd c.an q (fold h.nm) q=fold (upd c.nm q h.nm q)
    rw[qm,qm]
   ·show upd c.ak q h.ty q=upd c.ty q h.ty q
    rw[qm,qm]
  ·obtain⟨d1,d2,d3⟩:=hr.dom q (hM q hq)
   have hn:=hne q hq
   refine⟨.inr d1,?_,?_⟩
   ·show upd c.an p (fold h.nm) q=fold (upd c.nm p h.nm q)
    rw[ql _ _ hn,ql _ _ hn];exact d2
   ·show upd c.ak p h.ty q=upd c.ty p h.ty q
    rw[ql _ _ hn,ql _ _ hn];exact d3
 ·rw[List.map_cons,List.map_cons,<-hth]
  congr 1
  ·simp[CSt.th,CSt.add,qm,Held.th]
  ·refine List.map_congr_left fun q hq=>?_
   have hn:=hne q hq
   simp[CSt.th,CSt.add,ql _ _ hn]
 ·show fnd (put m1 (fold h.nm) h.ty p) a k=(p :: M).find? (fun q=>decide (upd c.an p (fold h.nm) q=a/\upd c.ak p h.ty q=k))
  rw[fnd_put,List.find?_cons,qm,qm]
  by_cases e:a=fold h.nm/\k=h.ty
  ·rw[if_pos e,decide_eq_true ⟨e.1.symm,e.2.symm⟩]
  ·rw[if_neg e,decide_eq_false (fun e'=>e ⟨e'.1.symm,e'.2.symm⟩),hmap a k e]
   show _=M.find? _
   have:∀ (N:List Nat),(∀ q ∈ N,q≠p)->N.find? (fun q=>decide (c.an q=a/\c.ak q=k))=N.find? (fun q=>decide (upd c.an p (fold h.nm) q=a/\upd c.ak p h.ty q=k)):=by
    intro N
    induction N with
    |nil=>intro _;rfl
    |cons x N ih =>
     intro hN
     have hx:=hN x (List.mem_cons_self ..)
     rw[List.find?_cons,List.find?_cons,ql _ _ hx,ql _ _ hx,ih (fun q hq=>hN q (List.mem_cons_of_mem _ hq))]
   exact this M hne
 ·show(put m1 (fold h.nm) h.ty p).length<=(p :: M).length
  have:=put_len m1 (fold h.nm) h.ty p
  rw[List.length_cons]
  omega
 ·rw[List.pairwise_cons]
  exact⟨hno,hd⟩
 ·rcases List.mem_cons.1 hy with rfl|hy
  ·exact⟨hh.1,hh.2.1⟩
  ·exact hr.good y (hH1 y hy)
theorem CSt.Rep.none{c:CSt}{L:List Nat}{H:List Held}(hr:c.Rep L H){h:Held}(hf:fnd c.m (fold h.nm) h.ty=none):∀ y ∈ H,plEq h y=false:=fun y hy=>by
 rw [hr.map] at hf
 have:y.th ∈ L.map c.th:=by rw[hr.th];exact List.mem_map_of_mem hy
 obtain⟨q,hq,e⟩:=List.mem_map.1 this
 have h1:=List.find?_eq_none.1 hf q hq
 obtain⟨_,d2,d3⟩:=hr.dom q hq
 have e1:c.nm q=y.nm:=congrArg Th.nm e
 have e2:c.ty q=y.ty:=congrArg Th.ty e
 rw [d2,d3,e1,e2] at h1
 unfold plEq
 simpa using h1
theorem CSt.Rep.some{c:CSt}{L:List Nat}{H:List Held}(hr:c.Rep L H){h:Held}{q:Nat}(hf:fnd c.m (fold h.nm) h.ty=some q):∃ A B HA y HB,L=A++q :: B/\H=HA++y :: HB/\A.map c.th=HA.map Held.th/\c.th q=y.th/\B.map c.th=HB.map Held.th /\
 c.an q=fold h.nm/\c.ak q=h.ty/\plEq h y=true/\(∀ x ∈ HA++HB,plEq h x=false):=by
 rw [hr.map] at hf
 obtain⟨h1,A,B,rfl,h2⟩:=List.find?_eq_some_iff_append.1 hf
 have ht:=hr.th
 rw [List.map_append,List.map_cons] at ht
 obtain⟨HA,T,rfl,t1,t2⟩:=List.append_eq_map_iff.1 ht
 obtain⟨y,HB,rfl,t3,t4⟩:=List.map_eq_cons_iff.1 t2
 have h1:c.an q=fold h.nm/\c.ak q=h.ty:=by simpa using h1
 obtain⟨_,d2,d3⟩:=hr.dom q (by simp)
 have e1:y.nm=c.nm q:=congrArg Th.nm t3
 have e2:y.ty=c.ty q:=congrArg Th.ty t3
 have hy:fold y.nm=fold h.nm/\y.ty=h.ty:=by rw[e1,e2,<-d2,<-d3];exact h1
 refine⟨A,B,HA,y,HB,rfl,rfl,t1.symm,t3.symm,t4.symm,h1.1,h1.2,?_,fun x hx=>?_⟩
 ·unfold plEq;exact decide_eq_true hy
 ·have hd:=hr.dist
  rw [List.pairwise_append] at hd
  obtain⟨_,p2,p3⟩:=hd
  rw [List.pairwise_cons] at p2
  rcases List.mem_append.1 hx with hx|hx
  ·have:=p3 x hx y (List.mem_cons_self ..)
   unfold plEq at this ⊢
   rw [decide_eq_false_iff_not] at this ⊢
   rw [hy.1,hy.2] at this
   exact fun e=>this ⟨e.1.symm,e.2.symm⟩
  ·have:=p2.1 x hx
   unfold plEq at this ⊢
   rw [decide_eq_false_iff_not] at this ⊢
   rw [hy.1,hy.2] at this
   exact this
theorem qr0{α:Type}{p:α->Bool}:∀ {l:List α},(∀ x ∈ l,p x=true)->l.filter p=l:=fun h=>List.filter_eq_self.2 h
def refH(H:List Held)(h:Held)(ttl now:Int):Bool:=decide (ttl=0) || (decide (now<0) || (decide (now > 4611686018427387904) || H.any (fun y=>plEq h y && (decide (now<y.til) && decide (h.rank<y.rank)))))
def HoldS(c:CSt)(H:List Held)(h:Held)(ttl now:Int)(s:SV)(k:List KB):Prop :=
 (refH H h ttl now=true/\s = .d .ff/\k=c.ks 0)\/(refH H h ttl now=false/\s = .d .tt/\∃ (c':CSt) (L':List Nat),k=c'.ks 0/\c'.Rep L' (h :: H.filter (fun y=>!plEq h y))/\c'.room=c.room)
theorem hold2_ok(c:CSt)(L:List Nat)(H:List Held)(hr:c.Rep L H)(hroom:(H.length:Int)<c.room)(h:Held)(ttl now:Int)(hb:h.z=true->h.data.length=0)(hl:h.data.length<=100000)(hnm:h.nm.length<9223372036854775808)(htt:0<=ttl/\ttl<=4294967295)(htil:h.til=now+ttl) :
 COk Tryz.prog 102 [.ptr 0 0,h.fV,.d (.int .u32 ttl),.d (.int .i64 now)] (c.ks 0) (HoldS c H h ttl now):=by
 have hw:=hr.wf
 refine jk (TT:=TT) (IN:=qf [(155,Tryz.f155,1),(158,Tryz.f158,2),(160,Tryz.f160,2),(203,Tryz.f203,1)]) qe (qw (qw (qw (qw qi Tryz.func203 (by kernel_rfl) (by kernel_rfl)) Tryz.func160 (by kernel_rfl) (by kernel_rfl)) Tryz.func158 (by kernel_rfl) (by kernel_rfl)) Tryz.func155 (by kernel_rfl) (by kernel_rfl)) mixed 1000 Tryz.func102 rfl (qh Tryz.func102 (by kernel_rfl) rfl) 104 (by kernel_rfl) ?_
 have hr0:c.r≠0:=zk hw.h0 hw.hr
 conv=>whnf
 refine brF (by simp[hr0]) ?_
 conv=>whnf
 refine⟨fun h1=>?_,fun h1=>?_⟩
 ·have h1':ttl=0:=by simpa using h1
  conv=>whnf
  refine⟨[0,1,2],.d .ff,c.ks 0,rfl,rfl,rfl,?_,.inl ⟨?_,rfl,rfl⟩⟩
  ·repeat'(first|exact ⟨⟩|exact rfl|exact fun _=>Iff.rfl|exact fun _ _=>rfl|exact qa rfl _|apply And.intro)
  ·unfold refH;rw[decide_eq_true h1'];rfl
 have h1':ttl≠0:=by simpa using h1
 conv=>whnf
 refine⟨fun h2=>?_,fun h2=>?_⟩
 ·have h2':now<0:=by simpa using h2
  conv=>whnf
  refine⟨[0,1,2],.d .ff,c.ks 0,rfl,rfl,rfl,?_,.inl ⟨?_,rfl,rfl⟩⟩
  ·repeat'(first|exact ⟨⟩|exact rfl|exact fun _=>Iff.rfl|exact fun _ _=>rfl|exact qa rfl _|apply And.intro)
  ·unfold refH;rw[decide_eq_true h2',Bool.true_or,Bool.or_true]
 have h2':¬ now<0:=by simpa using h2
 conv=>whnf
 refine⟨fun h3=>?_,fun h3=>?_⟩
 ·have h3':now > 4611686018427387904:=by simpa using h3
  conv=>whnf
  refine⟨[0,1,2],.d .ff,c.ks 0,rfl,rfl,rfl,?_,.inl ⟨?_,rfl,rfl⟩⟩
  ·repeat'(first|exact ⟨⟩|exact rfl|exact fun _=>Iff.rfl|exact fun _ _=>rfl|exact qa rfl _|apply And.intro)
  ·unfold refH;rw[decide_eq_true h3',Bool.true_or,Bool.or_true,Bool.or_true]
 have h3':¬ now > 4611686018427387904:=by simpa using h3
 have href:refH H h ttl now=H.any (fun y=>plEq h y && (decide (now<y.til) && decide (h.rank<y.rank))):=by
  unfold refH
  rw[decide_eq_false h1',decide_eq_false h2',decide_eq_false h3',Bool.false_or,Bool.false_or,Bool.false_or]
 conv=>whnf
 have hwr:IntKind.i64.wrap (now+IntKind.i64.wrap ttl)=h.til:=by
  rw[qn ttl (by omega),qn _ (by omega),htil]
 have hok:(h.z=true->h.data.length=0)/\h.data.length<=100000/\h.til<=9223372036854775807:=⟨hb,hl,by omega⟩
 refine oD (qg7 _ _ hnm) rfl rfl ?_
 conv=>whnf
 refine⟨_,(qi3 1 c.m (fold h.nm) h.ty),?_⟩
 rcases hq:fnd c.m (fold h.nm) h.ty with _|q
 ·have hno:∀ y ∈ H,plEq h y=false:=hr.none (h:=h) hq
  have hacc:refH H h ttl now=false:=by
   rw[href,List.any_eq_false]
   intro y hy
   rw[hno y hy]
   simp
  have hfil:H.filter (fun y=>!plEq h y)=H:=qr0 fun y hy=>by rw[hno y hy];rfl
  conv=>whnf
  have hfull:¬ ((c.m.length:Nat):Int) >= c.room:=by
   have:=hr.len
   have e:=congrArg List.length hr.th
   rw [List.length_map,List.length_map] at e
   omega
  refine brF (by rw[entL_length];exact decide_eq_false hfull) ?_
  conv=>whnf
  have hf1:=hw.hbf
  have hg1:=hw.hbh
  rw[hwr]
  refine .data _ (qb7 _ _ _ _ _ _ _ _ _ _ hb (by omega)) rfl rfl ?_
  conv=>whnf
  intro p hp0 hpd
  have hrp:c.r≠p:=fun e=>hpd (e ▸ hw.hr)
  conv=>whnf
  repeat(refine And.intro (by first|exact hr0|exact Or.inl rfl|exact Or.inr hw.hr|(refine zk hw.h0 ?_;first|(simpa[upd,hrp,Ne.symm hrp] using hw.hr)|(simpa[upd,hrp,Ne.symm hrp] using hg1 _ hw.hr))|(refine Or.inr ?_;first|(simpa[upd,hrp,Ne.symm hrp] using hw.hr)|(simpa[upd,hrp,Ne.symm hrp] using hg1 _ hw.hr))) ?_;conv=>whnf)
  refine⟨_,put_ent 1 _ _ _ _,?_⟩
  conv=>whnf
  have hR:=hr.add hp0 hpd h (m1:=c.m) (f1:=c.bf) (g1:=c.bh) hok (fun q hq=>hq) hr.ring hr.th (fun a k _=>hr.map a k) hr.len (fun e he=>he) hr.dist hno (fun y hy=>hy) rfl rfl hf1 hg1
  refine⟨[0,1,2],.d .tt,(c.add p h.th _ _ c.m).ks 0,rfl,rfl,rfl,?_,.inr ⟨hacc,rfl,_,p :: L,rfl,by rw[hfil];exact hR,rfl⟩⟩
  repeat'(first|exact ⟨⟩|exact rfl|exact fun _=>Iff.rfl|exact fun _ _=>rfl|exact qa rfl _|apply And.intro)
 ·obtain⟨A,B,HA,y,HB,rfl,rfl,t1,t2,t3,a1,a2,hpy,hno⟩:=hr.some (h:=h) hq
  have hqd:c.dom q:=(hr.dom q (by simp)).1
  have hq0:=zk hw.h0 hqd
  have e1:c.til q=y.til:=congrArg Th.til t2
  have e2:c.rk q=y.rank:=congrArg Th.rk t2
  have hany:(HA++y :: HB).any (fun y=>plEq h y && (decide (now<y.til) && decide (h.rank<y.rank)))=(decide (now<y.til) && decide (h.rank<y.rank)):=by
   rw[List.any_append,List.any_cons,hpy,Bool.true_and]
   have n1:HA.any (fun y=>plEq h y && (decide (now<y.til) && decide (h.rank<y.rank)))=false:=List.any_eq_false.2 fun x hx=>by rw[hno x (List.mem_append.2 (.inl hx))];simp
   have n2:HB.any (fun y=>plEq h y && (decide (now<y.til) && decide (h.rank<y.rank)))=false:=List.any_eq_false.2 fun x hx=>by rw[hno x (List.mem_append.2 (.inr hx))];simp
   rw[n1,n2,Bool.false_or,Bool.or_false]
  have hfil:(HA++y :: HB).filter (fun y=>!plEq h y)=HA++HB:=by
   rw[List.filter_append,List.filter_cons,hpy]
   simp only[Bool.not_true,Bool.false_eq_true,if_false]
   rw[qr0 fun x hx=>by rw[hno x (List.mem_append.2 (.inl hx))];rfl,qr0 fun x hx=>by rw[hno x (List.mem_append.2 (.inr hx))];rfl]
  rw [hany] at href
  have hkey:c.an q=fold h.nm/\c.ak q=h.ty:=⟨a1,a2⟩
  have hm1:∀ e ∈ del c.m (c.an q) (c.ak q),e ∈ c.m:=fun e he=>del_mem he
  have hf1:∀ n,c.dom n->c.dom (upd c.bf (upd c.bh (c.bf q) (c.bh q) q) (c.bf q) n):=fun n hn=>zq (hw.hbf _ hqd) (fun _=>hw.hbf _ hn)
  have hg1:∀ n,c.dom n->c.dom (upd c.bh (c.bf q) (c.bh q) n):=fun n hn=>zq (hw.hbh _ hqd) (fun _=>hw.hbh _ hn)
  have hdist:(HA++HB).Pairwise (fun y y'=>plEq y y'=false):=by
   refine List.Pairwise.sublist ?_ hr.dist
   simp
  have hmap:∀ a k,¬ (a=fold h.nm/\k=h.ty)->fnd (del c.m (c.an q) (c.ak q)) a k=(A++B).find? (fun q=>decide (c.an q=a/\c.ak q=k)):=fun a k hne=>by
   rw[fnd_del _ _ _ _ _ (by rw[a1,a2];exact hne),hr.map a k,List.find?_append,List.find?_append,List.find?_cons,decide_eq_false (by rw[a1,a2];exact fun e=>hne ⟨e.1.symm,e.2.symm⟩)]
  have hlen:(del c.m (c.an q) (c.ak q)).length<=(A++B).length:=by
   have:=del_len c.m (c.an q) (c.ak q) (x:=q) (by rw[hkey.1,hkey.2];exact hq)
   have h2:=hr.len
   simp only [List.length_append,List.length_cons] at h2 ⊢
   omega
  conv=>whnf
  refine⟨hqd,?_⟩
  conv=>whnf
  refine .data _ (qh3 _ _ _ _ _ _ _ _ _) rfl rfl ?_
  conv=>whnf
  refine⟨fun h4=>?_,fun h4=>?_⟩
  ·have h4':now<y.til:=by rw[<-e1];exact of_decide_eq_true h4
   conv=>whnf
   refine⟨hqd,?_⟩
   conv=>whnf
   refine⟨fun h5=>?_,fun h5=>?_⟩
   ·have h5':h.rank<y.rank:=by rw[<-e2];exact of_decide_eq_true h5
    conv=>whnf
    refine⟨[0,1,2],.d .ff,c.ks 0,rfl,rfl,rfl,?_,.inl ⟨by rw[href,decide_eq_true h4',decide_eq_true h5'];rfl,rfl,rfl⟩⟩
    repeat'(first|exact ⟨⟩|exact rfl|exact fun _=>Iff.rfl|exact fun _ _=>rfl|exact qa rfl _|apply And.intro)
   ·have h5':¬ h.rank<y.rank:=by rw[<-e2];exact of_decide_eq_false h5
    have hacc:refH (HA++y :: HB) h ttl now=false:=by rw[href,decide_eq_false h5',Bool.and_false]
    conv=>whnf
    repeat(refine And.intro (by first|exact hr0|exact hw.hr|exact hqd|exact hq0|(repeat'(first|assumption|exact hw.hr|apply hw.hbf|apply hw.hbh|(refine zq ?_ (fun _=>?_))|exact zk hw.h0 (by repeat'(first|assumption|exact hw.hr|apply hw.hbf|apply hw.hbh|(refine zq ?_ (fun _=>?_))))))) ?_;conv=>whnf)
    refine⟨_,del_ent 1 c.m _ _,?_⟩
    conv=>whnf
    rw[hwr]
    refine .data _ (qb7 _ _ _ _ _ _ _ _ _ _ hb (by omega)) rfl rfl ?_
    conv=>whnf
    have hring:=hr.ring.cut
    generalize upd c.bf (upd c.bh (c.bf q) (c.bh q) q) (c.bf q)=f1 at hf1 hring ⊢
    generalize upd c.bh (c.bf q) (c.bh q)=g1 at hg1 hring ⊢
    intro p hp0 hpd
    have hrp:c.r≠p:=fun e=>hpd (e ▸ hw.hr)
    conv=>whnf
    repeat(refine And.intro (by first|exact hr0|exact Or.inl rfl|exact Or.inr hw.hr|(refine zk hw.h0 ?_;first|(simpa[upd,hrp,Ne.symm hrp] using hw.hr)|(simpa[upd,hrp,Ne.symm hrp] using hg1 _ hw.hr))|(refine Or.inr ?_;first|(simpa[upd,hrp,Ne.symm hrp] using hw.hr)|(simpa[upd,hrp,Ne.symm hrp] using hg1 _ hw.hr))) ?_;conv=>whnf)
    refine⟨_,put_ent 1 _ _ _ _,?_⟩
    conv=>whnf
    have hR:=hr.add hp0 hpd h (M:=A++B) (H1:=HA++HB) (m1:=del c.m (c.an q) (c.ak q)) hok (fun x hx=>by rcases List.mem_append.1 hx with hx|hx <;> simp[hx]) hring (by rw[List.map_append,List.map_append,t1,t3]) hmap hlen hm1 hdist hno (fun x hx=>by rcases List.mem_append.1 hx with hx|hx <;> simp[hx]) rfl rfl hf1 hg1
    refine⟨[0,1,2],.d .tt,(c.add p h.th _ _ (del c.m (c.an q) (c.ak q))).ks 0,rfl,rfl,rfl,?_,.inr ⟨hacc,rfl,_,p :: (A++B),rfl,by rw[hfil];exact hR,rfl⟩⟩
    repeat'(first|exact ⟨⟩|exact rfl|exact fun _=>Iff.rfl|exact fun _ _=>rfl|exact qa rfl _|apply And.intro)
  ·have h4':¬ now<y.til:=by rw[<-e1];exact of_decide_eq_false h4
   have hacc:refH (HA++y :: HB) h ttl now=false:=by rw[href,decide_eq_false h4',Bool.false_and]
   conv=>whnf
   repeat(refine And.intro (by first|exact hr0|exact hw.hr|exact hqd|exact hq0|(repeat'(first|assumption|exact hw.hr|apply hw.hbf|apply hw.hbh|(refine zq ?_ (fun _=>?_))|exact zk hw.h0 (by repeat'(first|assumption|exact hw.hr|apply hw.hbf|apply hw.hbh|(refine zq ?_ (fun _=>?_))))))) ?_;conv=>whnf)
   refine⟨_,del_ent 1 c.m _ _,?_⟩
   conv=>whnf
   rw[hwr]
   refine .data _ (qb7 _ _ _ _ _ _ _ _ _ _ hb (by omega)) rfl rfl ?_
   conv=>whnf
   have hring:=hr.ring.cut
   generalize upd c.bf (upd c.bh (c.bf q) (c.bh q) q) (c.bf q)=f1 at hf1 hring ⊢
   generalize upd c.bh (c.bf q) (c.bh q)=g1 at hg1 hring ⊢
   intro p hp0 hpd
   have hrp:c.r≠p:=fun e=>hpd (e ▸ hw.hr)
   conv=>whnf
   repeat(refine And.intro (by first|exact hr0|exact Or.inl rfl|exact Or.inr hw.hr|(refine zk hw.h0 ?_;first|(simpa[upd,hrp,Ne.symm hrp] using hw.hr)|(simpa[upd,hrp,Ne.symm hrp] using hg1 _ hw.hr))|(refine Or.inr ?_;first|(simpa[upd,hrp,Ne.symm hrp] using hw.hr)|(simpa[upd,hrp,Ne.symm hrp] using hg1 _ hw.hr))) ?_;conv=>whnf)
   refine⟨_,put_ent 1 _ _ _ _,?_⟩
   conv=>whnf
   have hR:=hr.add hp0 hpd h (M:=A++B) (H1:=HA++HB) (m1:=del c.m (c.an q) (c.ak q)) hok (fun x hx=>by rcases List.mem_append.1 hx with hx|hx <;> simp[hx]) hring (by rw[List.map_append,List.map_append,t1,t3]) hmap hlen hm1 hdist hno (fun x hx=>by rcases List.mem_append.1 hx with hx|hx <;> simp[hx]) rfl rfl hf1 hg1
   refine⟨[0,1,2],.d .tt,(c.add p h.th _ _ (del c.m (c.an q) (c.ak q))).ks 0,rfl,rfl,rfl,?_,.inr ⟨hacc,rfl,_,p :: (A++B),rfl,by rw[hfil];exact hR,rfl⟩⟩
   repeat'(first|exact ⟨⟩|exact rfl|exact fun _=>Iff.rfl|exact fun _ _=>rfl|exact qa rfl _|apply And.intro)
theorem mapM_ent2(σ:Nat->Nat)(l:List (List UInt8 × Int × Nat))(h:σ 1=1):mapM σ (entL 1 l)=entL 1 l:=by
 induction l with
 |nil=>rfl
 |cons e l ih=>simp[entL,mapM,ent,mapL,mapV,h,ih]
theorem mapB_ks2(c:CSt)(N:Nat):mapB (sig [0,1,2] N) (c.ks 0)=c.ks 0:=by
 show[_,_,KB.map [EK.str,EK.int IntKind.u16] true false (mapM (sig [0,1,2] N) (entL 1 c.m))]=_
 rw[mapM_ent2 _ _ rfl]
 rfl
theorem cks2{P:Program}{f:FuncId}{al:List SV}{c:CSt}{R:SV->List KB->Prop}(h:COk P f al (c.ks 0) R)(rest:List KB)(ha:∀ N,mapL (sig [0,1,2] N) al=al)(hR:∀ s k,R s k->(∃ c':CSt,k=c'.ks 0)/\∀ N,mapV (sig [0,1,2] N) s=s) :
 COk P f al (c.ks 0++rest) (fun s k=>∃ c':CSt,k=c'.ks 0++rest/\R s (c'.ks 0)):=by
 refine h.frame [0,1,2] ?_ (ha _) ?_ (fun s0 k0 h0=>?_)
 ·rw[vl]
  show okN (rest.length+3) [0,1,2]=true
  have:∀ n i,i<=2->Nat.ble (i+1) (n+3)=true:=fun n i hi=>Nat.ble_eq_true_of_le (by omega)
  simp only[okN,memN,this _ 0 (by omega),this _ 1 (by omega),this _ 2 (by omega)]
 ·rw[mapB_ks2];rfl
 ·obtain⟨⟨c',rfl⟩,hs⟩:=hR s0 k0 h0
  rw[hs,mapB_ks2]
  refine⟨c',?_,h0⟩
  unfold vz
  rw[qo5,qn1]
  show _++[]=_
  rw[List.append_nil]
  rfl
def AccS(c:CSt)(H:List Held)(h:Held)(acc:Bool)(s:SV)(k:List KB):Prop :=
 (acc=false/\s = .d .ff/\k=c.ks 0)\/(acc=true/\s = .d .tt/\∃ (c':CSt) (L':List Nat),k=c'.ks 0/\c'.Rep L' (h :: H.filter (fun y=>!plEq h y))/\c'.room=c.room)
theorem acc_of{c:CSt}{H:List Held}{h:Held}{ttl now:Int}{s:SV}{k:List KB}(hs:HoldS c H h ttl now s k):AccS c H h (!refH H h ttl now) s k:=by
 rcases hs with⟨h1,h2,h3⟩|⟨h1,h2,h3⟩
 ·exact .inl ⟨by rw[h1];rfl,h2,h3⟩
 ·exact .inr ⟨by rw[h1];rfl,h2,h3⟩
theorem acc_ks{c:CSt}{H:List Held}{h:Held}{acc:Bool}(s:SV)(k:List KB)(h:AccS c H h acc s k):(∃ c':CSt,k=c'.ks 0)/\∀ N,mapV (sig [0,1,2] N) s=s:=by
 rcases h with⟨_,rfl,rfl⟩|⟨_,rfl,c',_,rfl,_⟩
 ·exact⟨⟨c,rfl⟩,fun _=>rfl⟩
 ·exact⟨⟨c',rfl⟩,fun _=>rfl⟩
def z6(nm:List UInt8)(ty ttl:Int)(l:List (List UInt8))(k:Int):Bool:=jn nm ty ttl l && (ty != 0 && decide (1<=k/\k<=4))
def mn(a b:Int):Int:=if b<a then b else a
theorem put2_ok(c:CSt)(L:List Nat)(H:List Held)(hr:c.Rep L H)(hroom:(H.length:Int)<c.room)(nm:List UInt8)(ty ttl:Int)(b:Bool)(l:List (List UInt8))(k now:Int)(hb:b=true->l.length=0)(httl:0<=ttl) :
 COk Tryz.prog 40 [.ptr 0 0,setV nm ty ttl b l,.d (.int .u8 k),.d (.int .i64 now)] (c.ks 0) (AccS c H ⟨nm,ty,ttl,b,l,k,false,false,now+mn ttl 604800⟩ (z6 nm ty ttl l k && !refH H ⟨nm,ty,ttl,b,l,k,false,false,now+mn ttl 604800⟩ (mn ttl 604800) now)):=by
 refine jk (TT:=TT) (IN:=qf []) qe qi mixed 1000 Tryz.func40 rfl (qh Tryz.func40 (by kernel_rfl) rfl) 30 (by kernel_rfl) ?_
 conv=>whnf
 refine oD (scheck_ok nm ty ttl b l) rfl rfl ?_
 conv=>whnf
 have hbad:z6 nm ty ttl l k=false->AccS c H ⟨nm,ty,ttl,b,l,k,false,false,now+mn ttl 604800⟩ (z6 nm ty ttl l k && !refH H ⟨nm,ty,ttl,b,l,k,false,false,now+mn ttl 604800⟩ (mn ttl 604800) now) (.d .ff) (c.ks 0):=fun h=>.inl ⟨by rw[h];rfl,rfl,rfl⟩
 refine⟨fun h1=>?_,fun h1=>?_⟩
 ·have hk:z6 nm ty ttl l k=false:=by
   cases hs:jn nm ty ttl l
   ·simp[z6,hs]
   ·rw [hs] at h1;cases h1
  conv=>whnf
  refine⟨[0,1,2],.d .ff,c.ks 0,rfl,rfl,rfl,?_,hbad hk⟩
  repeat'(first|exact ⟨⟩|exact rfl|exact fun _=>Iff.rfl|exact fun _ _=>rfl|exact qa rfl _|apply And.intro)
 have hs:jn nm ty ttl l=true:=by
  cases hs:jn nm ty ttl l
  ·rw [hs] at h1;cases h1
  ·rfl
 conv=>whnf
 refine⟨fun h2=>?_,fun h2=>?_⟩
 ·have hk:z6 nm ty ttl l k=false:=by
   have:ty=0:=by simpa using h2
   simp[z6,this]
  conv=>whnf
  refine⟨[0,1,2],.d .ff,c.ks 0,rfl,rfl,rfl,?_,hbad hk⟩
  repeat'(first|exact ⟨⟩|exact rfl|exact fun _=>Iff.rfl|exact fun _ _=>rfl|exact qa rfl _|apply And.intro)
 conv=>whnf
 refine⟨fun h3=>?_,fun h3=>?_⟩
 ·have hk:z6 nm ty ttl l k=false:=by
   have:k<1:=by simpa using h3
   have:¬ 1<=k:=by omega
   simp[z6,this]
  conv=>whnf
  refine⟨[0,1,2],.d .ff,c.ks 0,rfl,rfl,rfl,?_,hbad hk⟩
  repeat'(first|exact ⟨⟩|exact rfl|exact fun _=>Iff.rfl|exact fun _ _=>rfl|exact qa rfl _|apply And.intro)
 conv=>whnf
 refine⟨fun h4=>?_,fun h4=>?_⟩
 ·have hk:z6 nm ty ttl l k=false:=by
   have:k > 4:=by simpa using h4
   have:¬ k<=4:=by omega
   simp[z6,this]
  conv=>whnf
  refine⟨[0,1,2],.d .ff,c.ks 0,rfl,rfl,rfl,?_,hbad hk⟩
  repeat'(first|exact ⟨⟩|exact rfl|exact fun _=>Iff.rfl|exact fun _ _=>rfl|exact qa rfl _|apply And.intro)
 have hk:z6 nm ty ttl l k=true:=by
  have a2:¬ ty=0:=by simpa using h2
  have a3:¬ k<1:=by simpa using h3
  have a4:¬ k > 4:=by simpa using h4
  simp[z6,hs,a2]
  omega
 have hsc:=hs
 simp only [jn,Bool.and_eq_true,decide_eq_true_eq] at hsc
 have hnm:nm.length<9223372036854775808:=by
  have:=hsc.1.1.1.2.1
  omega
 conv=>whnf
 refine .rel _ (cks2 (((hold2_ok c L H hr hroom ⟨nm,ty,ttl,b,l,k,false,false,now+mn ttl 604800⟩ (mn ttl 604800) now hb (by show l.length<=100000;omega) hnm (by unfold mn;split <;> omega) rfl).imp fun _ _=>acc_of).convA (args':=[.ptr 0 0,.agg [.d (.str nm),.d (.int .u16 ty),.d (.int .u32 ttl),.d (.sl b l.length 1 (strs l)),.d (.int .u8 k),.d .ff,.d .ff],.d (.int .u32 (mn ttl 604800)),.d (.int .i64 now)]) ⟨.refl _,.aggL ⟨.refl _,.refl _,.refl _,.refl _,.refl _,.d .fb,.d .fb,True.intro⟩,.refl _,.refl _,True.intro⟩) _ (fun _=>rfl) acc_ks) (fun r ks' hR=>?_)
 obtain⟨c',rfl,hR⟩:=hR
 conv=>whnf
 refine⟨[0,1,2],r,c'.ks 0,rfl,rfl,?_,?_,?_⟩
 ·rcases hR with⟨_,rfl,_⟩|⟨_,rfl,_⟩ <;> exact rfl
 ·repeat'(first|exact ⟨⟩|exact rfl|exact fun _=>Iff.rfl|exact fun _ _=>rfl|exact qa rfl _|apply And.intro)
 ·rw[hk,Bool.true_and];exact hR
def c00:CSt:=⟨0,0,fun _=>False,fun _=>[],fun _=>0,fun _=>0,fun _=>true,fun _=>0,fun _ _=>[],fun _=>0,fun _=>false,fun _=>false,fun _=>0,fun _=>[],fun _=>0,fun _=>0,fun _=>0,[]⟩
theorem new2_ok(room:Int)(hrm:1<=room/\room<=4096):COk Tryz.prog 39 [.d (.int .i64 room)] [] (fun s k=>s = .tup [.ptr 0 0,.d (.int .i64 0)]/\∃ c:CSt,k=c.ks 0/\c.Rep [] []/\c.room=room):=by
 refine jd8 (TT:=TT) (IN:=qf [(100,Tryz.f100,1)]) qe (qw qi Tryz.func100 (by kernel_rfl) (by kernel_rfl)) mixed 1000 Tryz.func39 rfl (qh Tryz.func39 (by kernel_rfl) rfl) 304 (c00.cols 0) 11 (by kernel_rfl) ?_
 conv=>whnf
 refine brF (decide_eq_false (by omega)) ?_
 conv=>whnf
 refine brF (decide_eq_false (by omega)) ?_
 conv=>whnf
 intro p hp0 _
 conv=>whnf
 refine⟨.inl rfl,?_⟩
 conv=>whnf
 refine⟨.inl rfl,?_⟩
 conv=>whnf
 let c:CSt:=⟨room,p,fun q=>q=p\/False,upd c00.nm p [],upd c00.ty p 0,upd c00.ttl p 0,upd c00.ni p true,upd c00.ln p 0,upd c00.dg p (fun _=>[]),upd c00.rk p 0,upd c00.no p false,upd c00.nb p false,upd c00.til p 0,upd c00.an p [],upd c00.ak p 0,upd (upd c00.bf p 0) p p,upd (upd c00.bh p 0) p p,[]⟩
 have hw:c.Wf:=by
  refine⟨fun e=>e.elim (fun e=>hp0 e.symm) id,.inl rfl,fun n hn=>?_,fun n hn=>?_,fun e he=>by cases he⟩
  ·have:n=p:=hn.resolve_right id
   exact .inl (by show upd _ p p n=p;rw[this,qm])
  ·have:n=p:=hn.resolve_right id
   exact .inl (by show upd _ p p n=p;rw[this,qm])
 have hR:c.Rep [] []:=⟨hw,⟨by simp,by
  show upd (upd c00.bh p 0) p p p=p/\upd (upd c00.bf p 0) p p p=p/\True
  exact⟨qm _ _ _,qm _ _ _,trivial⟩⟩,(fun q hq=>by cases hq),rfl,(fun _ _=>rfl),Nat.le_refl _,List.Pairwise.nil,(fun h hh=>by cases hh)⟩
 refine⟨[3,0,2],.tup [.ptr 0 0,.d (.int .i64 0)],c.ks 0,rfl,rfl,rfl,?_,rfl,c,rfl,hR,rfl⟩
 repeat'(first|exact ⟨⟩|exact rfl|exact fun _=>Iff.rfl|exact fun _ _=>rfl|exact qa rfl _|apply And.intro)
def qv(a b:List UInt8):Bool:=decide (qc a) && (decide (qc b) && fold a == fold b)
theorem qu2(s:List UInt8):(fold s).length=s.length:=by simp[fold]
theorem qj8{s:List UInt8}(h:qc s):s.length<9223372036854775808:=by have:=h.2.1;omega
def okL(l:List UInt8):Prop:=1<=l.length/\l.length<=63
def lab(l:List UInt8):List UInt8:=UInt8.ofNat l.length :: l
def mk:List (List UInt8)->List UInt8
 |[]=>[0]
 |l :: ls=>lab l++mk ls
theorem qa6(s:List UInt8)(k j:Nat):bt (s.drop k) j=bt s (k+j):=by simp[bt]
theorem more_drop(s:List UInt8)(k:Nat):more s k↔more (s.drop k) 0:=by
 unfold more
 rw[qa6,Nat.add_zero,List.length_drop]
 omega
theorem qk9:∀ (m:Nat) (s:List UInt8) (k:Nat),xn s m k=k+xn (s.drop k) m 0
 |0,s,k=>rfl
 |m+1,s,k=>by
  simp only[xn]
  by_cases h:more s k
  ·rw[if_pos h,if_pos ((more_drop s k).1 h),qk9 m s,qk9 m (s.drop k),qa6,List.drop_drop,show k+0=k from rfl]
   have e:k+(0+1+bt s k)=k+1+bt s k:=by omega
   rw[e]
   omega
  ·rw[if_neg h,if_neg (fun e=>h ((more_drop s k).2 e))]
   rfl
theorem qx7{n:Nat}(h:n<256):(UInt8.ofNat n).toNat=n:=by
 rw[UInt8.toNat_ofNat'];exact Nat.mod_eq_of_lt h
theorem wz(l t:List UInt8)(h:okL l):bt (lab l++t) 0=l.length:=by
 simp only[bt,lab,List.cons_append,List.getElem?_cons_zero,Option.getD_some]
 exact qx7 (by have:=h.2;omega)
theorem vm(l:List UInt8):(lab l).length=1+l.length:=by simp[lab];omega
theorem qc9(ls:List (List UInt8)):0<(mk ls).length:=by cases ls <;> simp[mk,lab]
theorem qi4(l t:List UInt8):(lab l++t).drop (1+l.length)=t:=by
 rw[<-vm l,List.drop_left]
theorem take_lab(l t:List UInt8):(lab l++t).take (1+l.length)=lab l:=by
 rw[<-vm l,List.take_left]
theorem name_of:∀ (m:Nat) (s:List UInt8),0<s.length->xn s m 0=s.length - 1->bt s (s.length - 1)=0->∃ ls,(∀ l ∈ ls,okL l)/\s=mk ls
 |m,s,h0,h1,h2=>by
  have leaf:s.length=1->∃ ls,(∀ l ∈ ls,okL l)/\s=mk ls:=fun hl=>by
   match s,hl with
   |[b],_ =>
    refine⟨[],(fun l h=>by cases h),?_⟩
    have:b.toNat=0:=by simpa[bt] using h2
    rw[mk,UInt8.toNat_inj.1 (show b.toNat=(0:UInt8).toNat from this)]
  cases m with
  |zero=>exact leaf (by simp [xn] at h1;omega)
  |succ m =>
   simp only [xn] at h1
   split at h1
   ·rename_i hm
    obtain⟨a1,a2,a3,a4⟩:=hm
    rw [qk9] at h1
    have hb:1+bt s 0<s.length:=by omega
    obtain⟨ls,i1,i2⟩:=name_of m (s.drop (0+1+bt s 0)) (by rw[List.length_drop];omega) (by rw[List.length_drop];omega) (by
     rw[qa6,List.length_drop,show 0+1+bt s 0+(s.length - (0+1+bt s 0) - 1)=s.length - 1 by omega]
     exact h2)
    refine⟨(s.drop 1).take (bt s 0) :: ls,fun l hl=>?_,?_⟩
    ·rcases List.mem_cons.1 hl with rfl|hl
     ·have:((s.drop 1).take (bt s 0)).length=bt s 0:=by simp;omega
      unfold okL
      omega
     ·exact i1 l hl
    ·rw[mk,<-i2]
     have hlen:((s.drop 1).take (bt s 0)).length=bt s 0:=by simp;omega
     unfold lab
     rw[hlen]
     match s,a1 with
     |b :: r,_ =>
      have e:bt (b :: r) 0=b.toNat:=by simp[bt]
      rw[e]
      simp[show 0+1+b.toNat=b.toNat+1 by omega]
   ·exact leaf (by omega)
theorem endOf_mk(ls:List (List UInt8))(h:∀ l ∈ ls,okL l):∀ m,(mk ls).length<=m->xn (mk ls) m 0=(mk ls).length - 1:=by
 induction ls with
 |nil =>
  intro m hm
  cases m with
  |zero=>rfl
  |succ m =>
   show(if more [0] 0 then xn [0] m (0+1+bt [0] 0) else 0)=0
   exact if_neg (by rintro ⟨_,h2,_⟩;exact h2 rfl)
 |cons l ls ih =>
  intro m hm
  have hl:=h l (List.mem_cons_self ..)
  have hb:=wz l (mk ls) hl
  have hlen:(mk (l :: ls)).length=1+l.length+(mk ls).length:=by simp[mk,vm]
  have hp:=qc9 ls
  cases m with
  |zero=>omega
  |succ m =>
   simp only[xn]
   show(if more (mk (l :: ls)) 0 then xn (mk (l :: ls)) m (0+1+bt (mk (l :: ls)) 0) else 0)=_
   have hbm:bt (mk (l :: ls)) 0=l.length:=hb
   rw[if_pos ⟨by omega,by rw[hbm];have:=hl.1;omega,by rw[hbm];exact hl.2,by rw[hbm];omega⟩,hbm,qk9,Nat.zero_add]
   have:(mk (l :: ls)).drop (1+l.length)=mk ls:=qi4 l (mk ls)
   rw[this,ih (fun x hx=>h x (List.mem_cons_of_mem _ hx)) m (by omega)]
   omega
theorem last_mk(ls:List (List UInt8)):bt (mk ls) ((mk ls).length - 1)=0:=by
 induction ls with
 |nil=>rfl
 |cons l ls ih =>
  have hlen:(mk (l :: ls)).length=1+l.length+(mk ls).length:=by simp[mk,vm]
  have hp:=qc9 ls
  have e:(mk (l :: ls)).drop (1+l.length)=mk ls:=qi4 l (mk ls)
  have:=qa6 (mk (l :: ls)) (1+l.length) ((mk ls).length - 1)
  rw [e,ih] at this
  rw[hlen,show 1+l.length+(mk ls).length - 1=1+l.length+((mk ls).length - 1) by omega]
  exact this.symm
theorem qk8(s:List UInt8):qc s↔s.length<=255/\∃ ls,(∀ l ∈ ls,okL l)/\s=mk ls:=by
 constructor
 ·rintro ⟨h1,h2,h3,h4⟩
  exact⟨h2,name_of s.length s h1 h3 (by rw[<-h3];exact h4)⟩
 ·rintro ⟨h1,ls,h2,rfl⟩
  have:=endOf_mk ls h2 (mk ls).length (Nat.le_refl _)
  exact⟨qc9 ls,h1,this,by unfold lastOf;rw[this];exact last_mk ls⟩
theorem mk_inj:∀ {a b:List (List UInt8)},(∀ l ∈ a,okL l)->(∀ l ∈ b,okL l)->mk a=mk b->a=b
 |[],[],_,_,_=>rfl
 |[],l :: b,_,hb,h=>by
  have h1:=hb l (List.mem_cons_self ..)
  have:=wz l (mk b) h1
  rw [show lab l++mk b=mk (l :: b) from rfl,<-h] at this
  have h2:=h1.1
  have:(0:Nat)=l.length:=this
  omega
 |l :: a,[],ha,_,h=>by
  have h1:=ha l (List.mem_cons_self ..)
  have:=wz l (mk a) h1
  rw [show lab l++mk a=mk (l :: a) from rfl,h] at this
  have h2:=h1.1
  have:(0:Nat)=l.length:=this
  omega
 |l :: a,k :: b,ha,hb,h=>by
  have h1:=wz l (mk a) (ha l (List.mem_cons_self ..))
  have h2:=wz k (mk b) (hb k (List.mem_cons_self ..))
  have hlen:l.length=k.length:=by
   rw[<-h1,<-h2]
   show bt (mk (l :: a)) 0=bt (mk (k :: b)) 0
   rw[h]
  have e1:lab l=lab k:=by
   have:=congrArg (List.take (1+l.length)) h
   rw [show mk (l :: a)=lab l++mk a from rfl,take_lab,hlen,show mk (k :: b)=lab k++mk b from rfl,take_lab] at this
   exact this
  have e2:mk a=mk b:=by
   have:=congrArg (List.drop (1+l.length)) h
   rw [show mk (l :: a)=lab l++mk a from rfl,qi4,hlen,show mk (k :: b)=lab k++mk b from rfl,qi4] at this
   exact this
  have e3:l=k:=(List.cons.inj e1).2
  rw[e3,mk_inj (fun x hx=>ha x (List.mem_cons_of_mem _ hx)) (fun x hx=>hb x (List.mem_cons_of_mem _ hx)) e2]
def labs:List (List UInt8)->List UInt8
 |[]=>[]
 |l :: ls=>lab l++labs ls
theorem qz0(a b:List (List UInt8)):labs (a++b)=labs a++labs b:=by
 induction a with
 |nil=>rfl
 |cons l a ih=>simp[labs,ih]
theorem labs_mk(a:List (List UInt8)):labs a++[0]=mk a:=by
 induction a with
 |nil=>rfl
 |cons l a ih=>simp[labs,mk,<-ih]
theorem labs_snoc(ls:List (List UInt8))(l:List UInt8):labs (ls++[l])=labs ls++lab l:=by
 rw[qz0]
 simp[labs]
theorem qz3(s:List UInt8):∀ m k,xj s m k≠0->qc (s.take (xj s m k)):=by
 intro m
 induction m with
 |zero=>intro k h;exact absurd rfl h
 |succ m ih =>
  intro k h
  simp only [xj] at h ⊢
  split at h
  ·rename_i h1
   rw[if_pos h1]
   split at h
   ·rename_i h2
    rw[if_pos h2]
    split at h
    ·rename_i h3
     rw[if_pos h3]
     exact h3
    ·exact absurd rfl h
   ·rename_i h2
    rw[if_neg h2]
    exact ih _ h
  ·exact absurd rfl h
def vr:Nat->List UInt8->Option (List (List UInt8))
 |0,_=>none
 |m+1,r=>if r.length=0 then none else if bt r 0=0 then (if r.length=1 then some [] else none) else
  if bt r 0 > 63\/1+bt r 0 > r.length then none else (vr m (r.drop (1+bt r 0))).map (fun ls=>(r.drop 1).take (bt r 0) :: ls)
def kf(s:List UInt8):Option (List (List UInt8)):=if s.length > 255 then none else vr (s.length+1) s
theorem qx2(l:List UInt8)(ls:List (List UInt8)):(mk (l :: ls)).length=1+l.length+(mk ls).length:=by simp[mk,vm]
theorem splitN_mk:∀ (m:Nat) (r:List UInt8) (ls:List (List UInt8)),vr m r=some ls->(∀ l ∈ ls,okL l)/\r=mk ls
 |0,_,_,h=>by cases h
 |m+1,r,ls,h=>by
  unfold vr at h
  split at h
  ·cases h
  ·rename_i h0
   split at h
   ·rename_i h1
    split at h
    ·rename_i h2
     cases h
     refine⟨fun l hl=>(by cases hl),?_⟩
     match r,h2 with
     |[b],_ =>
      have:b.toNat=0:=by simpa[bt] using h1
      rw[mk,UInt8.toNat_inj.1 (show b.toNat=(0:UInt8).toNat from this)]
    ·cases h
   ·rename_i h1
    split at h
    ·cases h
    ·rename_i h2
     obtain⟨ks,hk,rfl⟩:=Option.map_eq_some_iff.1 h
     obtain⟨a1,a2⟩:=splitN_mk m _ ks hk
     have hlen:((r.drop 1).take (bt r 0)).length=bt r 0:=by simp;omega
     refine⟨fun l hl=>?_,?_⟩
     ·rcases List.mem_cons.1 hl with rfl|hl
      ·unfold okL;omega
      ·exact a1 l hl
     ·rw[mk,<-a2]
      unfold lab
      rw[hlen]
      match r,h0 with
      |b :: r,_ =>
       have e:bt (b :: r) 0=b.toNat:=by simp[bt]
       rw[e]
       simp[show 1+b.toNat=b.toNat+1 by omega]
theorem splitN_of:∀ (ls:List (List UInt8)) (m:Nat),(∀ l ∈ ls,okL l)->(mk ls).length<=m->vr m (mk ls)=some ls
 |[],m,_,hm=>by
  cases m with
  |zero =>
   have:(mk []).length=1:=rfl
   omega
  |succ m=>rfl
 |l :: ls,m,h,hm=>by
  have hl:=h l (List.mem_cons_self ..)
  have hlen:=qx2 l ls
  have hp:=qc9 ls
  cases m with
  |zero=>omega
  |succ m =>
   have hb:bt (mk (l :: ls)) 0=l.length:=wz l (mk ls) hl
   have h1:=hl.1
   have h2:=hl.2
   unfold vr
   rw[if_neg (by omega),hb,if_neg (by omega),if_neg (by omega)]
   have hd:(mk (l :: ls)).drop (1+l.length)=mk ls:=qi4 l (mk ls)
   rw[hd,splitN_of ls m (fun x hx=>h x (List.mem_cons_of_mem _ hx)) (by omega)]
   show some ((((mk (l :: ls)).drop 1).take l.length) :: ls)=_
   have:((mk (l :: ls)).drop 1)=l++mk ls:=rfl
   rw[this,List.take_left]
theorem qz1{s:List UInt8}{ls:List (List UInt8)}(h:kf s=some ls):s.length<=255/\(∀ l ∈ ls,okL l)/\s=mk ls:=by
 unfold kf at h
 split at h
 ·cases h
 ·exact⟨by omega,splitN_mk _ _ _ h⟩
theorem labelsOf_of{ls:List (List UInt8)}(h:∀ l ∈ ls,okL l)(hl:(mk ls).length<=255):kf (mk ls)=some ls:=by
 unfold kf
 rw[if_neg (by omega)]
 exact splitN_of ls _ h (by omega)
theorem qw5(s:List UInt8):qc s↔(kf s).isSome=true:=by
 rw[qk8]
 constructor
 ·rintro ⟨h1,ls,h2,rfl⟩
  rw[labelsOf_of h2 h1]
  rfl
 ·intro h
  obtain⟨ls,hls⟩:=Option.isSome_iff_exists.1 h
  obtain⟨h1,h2,h3⟩:=qz1 hls
  exact⟨h1,ls,h2,h3⟩
def splitR:Option (List (List UInt8))->SV
 |none=>.tup [.any,.d .ff]
 |some l=>.tup [.d (.sl false l.length 1 (strs l)),.d .tt]
structure SpSt where
 at_:Nat
 l:List (List UInt8)
 m:Nat
set_option maxRecDepth 100000 in
theorem r1split_ok(s:List UInt8):FnOk Tryz.prog 204 [.d (.str s)] (splitR (kf s)):=by
 refine qs (TT:=TT) (IN:=qf []) qe qi mixed 1000 Tryz.func204 rfl (qh Tryz.func204 (by kernel_rfl) rfl) rfl 52 (by kernel_rfl) ?_
 conv=>whnf
 refine⟨fun h1=>?_,fun h1=>?_⟩
 ·have h1:(s.length:Int) > 255:=of_decide_eq_true h1
  have e:kf s=none:=by unfold kf;rw[if_pos (by omega)]
  rw[e]
  conv=>whnf
  repeat'(first|exact ⟨⟩|exact rfl|exact .inr rfl|exact .inl rfl|exact fun _ _=>rfl|exact noI|apply And.intro)
 have h1:¬ (s.length:Int) > 255:=of_decide_eq_false h1
 have e:kf s=vr (s.length+1) s:=by unfold kf;rw[if_neg (by omega)]
 have hw:∀ n:Int,-9223372036854775808<=n/\n<=9223372036854775807->IntKind.i64.wrap n=n:=fun n h=>qn n h
 conv=>whnf
 refine .csT 4 0 9 1 (fun _=>[]) rfl rfl ?_
 refine .inv SpSt (fun x=>x.at_<=s.length/\s.length<x.at_+x.m/\x.l.length<=x.at_/\(vr x.m (s.drop x.at_)).map (x.l ++ ·)=vr (s.length+1) s) (fun x=>[(4,.all 1),(5,.d (.int .i64 x.at_))]) (fun x=>[(1,.row 9 1 x.l.length .no (strs x.l))]) (fun x=>s.length - x.at_) ⟨⟨0,[],s.length+1⟩,[0,1],⟨Nat.zero_le _,by show s.length<0+(s.length+1);omega,Nat.zero_le _,by simp⟩,?_⟩ ?_
 ·conv=>whnf
  repeat'(first|exact ⟨⟩|exact rfl|(intro i hi;exact absurd hi (Nat.not_lt_zero _))|exact fun _ _=>rfl|apply And.intro)
 intro x hx
 obtain⟨hk,hm,hll,hrest⟩:=hx
 conv=>whnf
 generalize x.at_=k at hk hm hll hrest ⊢
 generalize x.l=l at hll hrest ⊢
 generalize x.m=m at hm hrest ⊢
 have hdl:(s.drop k).length=s.length - k:=by simp
 have hd0:bt (s.drop k) 0=bt s k:=by rw[qa6];rfl
 have hbl:=uy s k
 obtain⟨m',rfl⟩:∃ m',m=m'+1:=⟨m - 1,by omega⟩
 conv at hrest=>lhs;unfold vr
 rw [hdl,hd0] at hrest
 refine⟨fun c0=>?_,fun c0=>?_⟩
 ·have c0':k<s.length:=(by have h:(k:Int)<s.length:=of_decide_eq_true c0;omega)
  rw [if_neg (by omega)] at hrest
  conv=>whnf
  refine⟨by omega,?_⟩
  conv=>whnf
  rw[zf,hw _ (by omega)]
  refine⟨fun c1=>?_,fun c1=>?_⟩
  ·have c1:bt s k=0:=by
    have h:(bt s k:Int)=0:=by simpa using c1
    omega
   rw [if_pos c1] at hrest
   conv=>whnf
   rw[hw ((s.length:Int) - 1) (by omega)]
   by_cases hz:s.length - k=1
   ·rw [if_pos hz] at hrest
    rw[e,<-hrest]
    conv=>whnf
    refine⟨?_,?_,True.intro⟩
    ·exact⟨rfl,by simp,.inr rfl,fun i hi=>by simp⟩
    ·show((k:Int) == (s.length:Int) - 1)=true
     simp
     omega
   ·rw [if_neg hz] at hrest
    rw[e,<-hrest]
    conv=>whnf
    refine⟨True.intro,?_,True.intro⟩
    show((k:Int) == (s.length:Int) - 1)=false
    simp
    omega
  have c1:bt s k≠0:=by
   have h:(bt s k:Int)≠0:=by simpa using c1
   omega
  rw [if_neg c1] at hrest
  conv=>whnf
  refine⟨fun c2=>?_,fun c2=>?_⟩
  ·have c2:(bt s k:Int) > 63:=of_decide_eq_true c2
   rw [if_pos (.inl (by omega))] at hrest
   rw[e,<-hrest]
   conv=>whnf
   exact⟨True.intro,rfl,True.intro⟩
  have c2:¬ (bt s k:Int) > 63:=of_decide_eq_false c2
  conv=>whnf
  rw[hw ((k:Int)+1) (by omega),hw ((k:Int)+1+bt s k) (by omega)]
  refine⟨fun c3=>?_,fun c3=>?_⟩
  ·have c3:(k:Int)+1+bt s k > s.length:=of_decide_eq_true c3
   rw [if_pos (.inr (by omega))] at hrest
   rw[e,<-hrest]
   conv=>whnf
   exact⟨True.intro,rfl,True.intro⟩
  have c3:¬ (k:Int)+1+bt s k > s.length:=of_decide_eq_false c3
  rw [if_neg (by omega)] at hrest
  conv=>whnf
  rw[hw ((k:Int)+1) (by omega),hw ((k:Int)+1+bt s k) (by omega)]
  refine⟨by omega,?_⟩
  conv=>whnf
  refine⟨by omega,?_⟩
  conv=>whnf
  rw[hw (1+(bt s k:Int)) (by omega),hw ((k:Int)+(1+bt s k)) (by omega),show(k:Int)+(1+(bt s k:Int))=((k+(1+bt s k):Nat):Int) by omega]
  refine⟨⟨k+(1+bt s k),l++[(s.drop (k+1)).take (bt s k)],m'⟩,[0,3],⟨by show k+(1+bt s k)<=_;omega,by show s.length<k+(1+bt s k)+m';omega,by show(l++[_]).length<=k+(1+bt s k);rw[List.length_append];show l.length+1<=_;omega,?_⟩,by show s.length - (k+(1+bt s k))<s.length - k;omega,?_⟩
  ·rw[<-hrest,List.drop_drop,List.drop_drop]
   simp[Function.comp_def]
  conv=>whnf
  repeat'(first|exact ⟨⟩|exact rfl|apply And.intro)
  ·simp
  ·refine wi _ _ _ ?_
   show[DV.str _]=[DV.str _]
   congr 2
   unfold sub
   rw[show((k:Int)+1+(bt s k:Int)).toNat - ((k:Int)+1).toNat=bt s k by omega,show((k:Int)+1).toNat=k+1 by omega]
 ·have c0':k=s.length:=(by have h:¬ (k:Int)<s.length:=of_decide_eq_false c0;omega)
  rw [if_pos (by omega)] at hrest
  rw[e,<-hrest]
  conv=>whnf
  exact⟨True.intro,rfl,True.intro⟩
set_option maxRecDepth 100000 in
theorem qk6(s:List UInt8):FnOk Tryz.prog 161 [.d (.str s)] (.d (.int .i64 (if qc s then 0 else 2))):=by
 refine qs (TT:=TT) (IN:=qf []) qe qi mixed 1000 Tryz.func161 rfl (qh Tryz.func161 (by kernel_rfl) rfl) rfl 11 (by kernel_rfl) ?_
 conv=>whnf
 refine .one (.data _ (r1split_ok s) rfl (by cases kf s <;> rfl) ?_)
 have hn:=qw5 s
 cases hl:kf s with
 |none =>
  have:¬ qc s:=fun h=>by rw [hn,hl] at h;cases h
  rw[if_neg this]
  conv=>whnf
  try exact rfl
 |some ls =>
  have:qc s:=hn.2 (by rw[hl];rfl)
  rw[if_pos this]
  conv=>whnf
  try exact rfl
theorem qs1(s:List UInt8)(hs:s.length<9223372036854775808):FnOk Tryz.prog 209 [.d (.str s)] (.d (.str (fold s))):=by
 refine qs (TT:=TT) (IN:=qf []) qe qi mixed 1000 Tryz.func209 rfl (qh Tryz.func209 (by kernel_rfl) rfl) rfl 28 (by kernel_rfl) ?_
 conv=>whnf
 refine .inv Nat (fun k=>k<=s.length) (fun k=>[(10,.d (.int .i64 k))]) (fun k=>[(0,.row 5 1 s.length .no (fun j=>[.int .u8 (mix s k j)]))]) (fun k=>s.length - k) ⟨0,[0],by omega,?_⟩ ?_
 ·conv=>whnf
  repeat'(first|exact ⟨⟩|exact rfl|apply And.intro)
  intro i hi
  simp[mix,zf]
 intro k hk
 have hk1:k<s.length->IntKind.i64.wrap ((k:Int)+1)=((k+1:Nat):Int):=fun _=>by rw[qn _ (by omega)];omega
 conv=>whnf
 refine⟨fun hlt=>?_,fun hge=>?_⟩
 ·have hlt':k<s.length:=by simpa using hlt
  conv=>whnf
  refine⟨by simp;omega,?_⟩
  have hmk:mix s k (Int.toNat (k:Int))=(bt s k:Int):=by simp[mix]
  have hb:=uy s k
  conv=>whnf
  have stay:¬ (65<=bt s k/\bt s k<=90)->∀ i,i<s.length->[DV.int IntKind.u8 (mix s k i)]=[DV.int IntKind.u8 (mix s (k+1) i)]:=fun hn i hi=>by
   unfold mix
   by_cases e:i=k
   ·subst e
    rw [if_neg (by omega),if_pos (by omega),uj,if_neg (by unfold bt at hn;exact hn)]
    rfl
   ·by_cases e2:i<k
    ·rw[if_pos e2,if_pos (by omega)]
    ·rw[if_neg e2,if_neg (by omega)]
  rw[hmk]
  refine⟨fun h1=>?_,fun h1=>?_⟩
  ·conv=>whnf
   refine⟨fun h2=>?_,fun h2=>?_⟩
   ·conv=>whnf
    refine⟨by simp;omega,?_⟩
    conv=>whnf
    refine⟨k+1,[0],by omega,by show s.length - (k+1)<s.length - k;omega,?_⟩
    conv=>whnf
    repeat'(first|exact ⟨⟩|exact rfl|apply And.intro)
    all_goals first
     |exact congrArg SV.d (congrArg (DV.int _) (hk1 hlt'))
     |exact stay (by simp at h1 h2;omega)
     |(
      intro i hi
      show oneF _ _ _ _ i=_
      unfold oneF mix
      simp at h1 h2
      by_cases e:i=k
      ·subst e
       simp only[Int.toNat_natCast,if_true,putD,List.set_cons_zero]
       rw [if_pos (by omega),uj,if_pos (by unfold bt at h1 h2;omega),IntKind.wrap_u8]
       unfold bt at *
       congr 2
       omega
      ·rw[if_neg (by simpa using e)]
       show[DV.int _ _]=[DV.int _ _]
       by_cases e2:i<k
       ·rw[if_pos e2,if_pos (by omega)]
       ·rw[if_neg e2,if_neg (by omega)])
   ·conv=>whnf
    refine⟨k+1,[0],by omega,by show s.length - (k+1)<s.length - k;omega,?_⟩
    conv=>whnf
    repeat'(first|exact ⟨⟩|exact rfl|apply And.intro)
    all_goals first
     |exact congrArg SV.d (congrArg (DV.int _) (hk1 hlt'))
     |exact stay (by simp at h1 h2;omega)
     |(
      intro i hi
      show oneF _ _ _ _ i=_
      unfold oneF mix
      simp at h1 h2
      by_cases e:i=k
      ·subst e
       simp only[Int.toNat_natCast,if_true,putD,List.set_cons_zero]
       rw [if_pos (by omega),uj,if_pos (by unfold bt at h1 h2;omega),IntKind.wrap_u8]
       unfold bt at *
       congr 2
       omega
      ·rw[if_neg (by simpa using e)]
       show[DV.int _ _]=[DV.int _ _]
       by_cases e2:i<k
       ·rw[if_pos e2,if_pos (by omega)]
       ·rw[if_neg e2,if_neg (by omega)])
  ·conv=>whnf
   refine⟨k+1,[0],by omega,by show s.length - (k+1)<s.length - k;omega,?_⟩
   conv=>whnf
   repeat'(first|exact ⟨⟩|exact rfl|apply And.intro)
   all_goals first
    |exact congrArg SV.d (congrArg (DV.int _) (hk1 hlt'))
    |exact stay (by simp at h1;omega)
    |(
     intro i hi
     show oneF _ _ _ _ i=_
     unfold oneF mix
     simp at h1
     by_cases e:i=k
     ·subst e
      simp only[Int.toNat_natCast,if_true,putD,List.set_cons_zero]
      rw [if_pos (by omega),uj,if_pos (by unfold bt at h1;omega),IntKind.wrap_u8]
      unfold bt at *
      congr 2
      omega
     ·rw[if_neg (by simpa using e)]
      show[DV.int _ _]=[DV.int _ _]
      by_cases e2:i<k
      ·rw[if_pos e2,if_pos (by omega)]
      ·rw[if_neg e2,if_neg (by omega)])
 ·have hke:k=s.length:=by simp at hge;omega
  subst hke
  conv=>whnf
  refine⟨fun i _=>⟨_,rfl⟩,?_⟩
  conv=>whnf
  refine congrArg DV.str ?_
  unfold j8 fold
  apply List.ext_getElem?
  intro i
  rw[List.getElem?_map,List.getElem?_map]
  by_cases hi:i<s.length
  ·rw[List.getElem?_range hi,List.getElem?_eq_getElem hi]
   simp[mix,hi]
  ·rw[List.getElem?_eq_none (by simp;omega),List.getElem?_eq_none (by omega)]
   rfl
theorem r1same_ok(a b:List UInt8):FnOk Tryz.prog 210 [.d (.str a),.d (.str b)] (.d (.bool (qv a b))):=by
 refine qs (TT:=TT) (IN:=qf []) qe qi mixed 1000 Tryz.func210 rfl (qh Tryz.func210 (by kernel_rfl) rfl) rfl 18 (by kernel_rfl) ?_
 conv=>whnf
 refine oD (qk6 a) rfl rfl ?_
 by_cases ha:qc a
 ·rw[if_pos ha]
  conv=>whnf
  refine brT rfl ?_
  conv=>whnf
  refine oD (qk6 b) rfl rfl ?_
  by_cases hb:qc b
  ·rw[if_pos hb]
   conv=>whnf
   refine brT rfl ?_
   conv=>whnf
   refine oD (qs1 a (qj8 ha)) rfl rfl ?_
   conv=>whnf
   refine oD (qs1 b (qj8 hb)) rfl rfl ?_
   rw[show qv a b=(fold a == fold b) by unfold qv;rw[decide_eq_true ha,decide_eq_true hb];rfl]
   conv=>whnf
   try exact rfl
  ·rw[if_neg hb,show qv a b=false by unfold qv;rw[decide_eq_false hb,Bool.false_and,Bool.and_false]]
   conv=>whnf
   refine brF rfl ?_
   conv=>whnf
   repeat(first|(refine brF rfl ?_;conv=>whnf))
   try exact rfl
 ·rw[if_neg ha,show qv a b=false by unfold qv;rw[decide_eq_false ha,Bool.false_and]]
  conv=>whnf
  refine brF rfl ?_
  conv=>whnf
  repeat(first|(refine brF rfl ?_;conv=>whnf))
  try exact rfl
theorem firstF_at(s t:List UInt8):∀ (ls pre:List (List UInt8)) (m:Nat),(∀ l ∈ pre,okL l)->(∀ l ∈ ls,okL l)->s=labs pre++(mk ls++t)->(labs pre++mk ls).length<=255->256<=m+(labs pre).length ->
 xj s m (labs pre).length=(labs pre++mk ls).length
 |[],pre,m,hp,_,hs,hl,hm=>by
  cases m with
  |zero=>rw [List.length_append] at hl;omega
  |succ m =>
   have hl1:(labs pre++mk []).length=(labs pre).length+1:=by rw[List.length_append];rfl
   have hb:bt s (labs pre).length=0:=by
    rw[hs]
    unfold bt
    rw[List.getElem?_append_right (Nat.le_refl _),Nat.sub_self]
    rfl
   have hsl:(labs pre).length<s.length:=by rw[hs,List.length_append];have:=qc9 [];rw[List.length_append];omega
   have htk:s.take ((labs pre).length+1)=mk pre:=by
    have:labs pre++(mk []++t)=(labs pre++[0])++t:=by simp[mk]
    rw[hs,this,List.take_left' (by simp)]
    exact labs_mk pre
   unfold xj
   rw[if_pos ⟨hsl,by omega⟩,if_pos hb,htk,if_pos ((qk8 _).2 ⟨by rw[<-labs_mk];simpa[mk] using hl,pre,hp,rfl⟩),hl1]
 |l :: ls,pre,m,hp,hls,hs,hl,hm=>by
  have hol:=hls l (List.mem_cons_self ..)
  have h1:=hol.1
  have hml:=qx2 l ls
  have hmp:=qc9 ls
  have hll:(labs (pre++[l])).length=(labs pre).length+1+l.length:=by rw[labs_snoc,List.length_append,vm];omega
  rw [List.length_append] at hl
  cases m with
  |zero=>omega
  |succ m =>
   have hb:bt s (labs pre).length=l.length:=by
    have:=qa6 s (labs pre).length 0
    rw [Nat.add_zero] at this
    rw[<-this,hs,List.drop_left]
    show bt (lab l++mk ls++t) 0=_
    rw[List.append_assoc]
    exact wz l _ hol
   have hsl:(labs pre).length<s.length:=by rw[hs,List.length_append,List.length_append];omega
   have hcat:labs (pre++[l])++mk ls=labs pre++mk (l :: ls):=by rw[labs_snoc,List.append_assoc];rfl
   unfold xj
   rw[if_pos ⟨hsl,by omega⟩,if_neg (by rw[hb];omega),hb,<-hll]
   rw[firstF_at s t ls (pre++[l]) m (fun x hx=>by
    rcases List.mem_append.1 hx with hx|hx
    ·exact hp x hx
    ·rw[List.mem_singleton.1 hx];exact hol) (fun x hx=>hls x (List.mem_cons_of_mem _ hx)) (by
    rw[hs,<-List.append_assoc,<-List.append_assoc,hcat]) (by rw[hcat,List.length_append];exact hl) (by omega),hcat]
theorem firstN_of{s:List UInt8}{k:Nat}(hk:k<=s.length)(h:qc (s.take k)):qz s=k:=by
 obtain⟨h1,ls,h2,h3⟩:=(qk8 _).1 h
 have hlen:(mk ls).length=k:=by rw[<-h3,List.length_take];omega
 have h1:(mk ls).length<=255:=by rw[<-h3];exact h1
 have:=firstF_at s (s.drop k) ls [] 256 (fun l hl=>by cases hl) h2 (by show s=[]++(mk ls++s.drop k);rw[<-h3];simp) (by show([]++mk ls).length<=255;simp;omega) (by omega)
 unfold qz
 have e:([]++mk ls:List UInt8).length=k:=by simpa using hlen
 exact this.trans e
theorem firstN_none{s:List UInt8}(h:∀ k,k<=s.length->k<=255->¬ qc (s.take k)):qz s=0:=by
 have hl:=ql7 s
 cases hf:qz s with
 |zero=>rfl
 |succ n =>
  have:=qz3 s 256 0 (by show qz s≠0;omega)
  exact absurd this (h _ hl.1 hl.2)
def partsR:Option (Nat × Nat × Nat)->SV
 |some p=>.tup [.d (.int .i64 (2 * p.1:Nat)),.d (.int .i64 p.2.1),.d (.int .i64 (4 * p.2.2:Nat)),.d .tt]
 |none=>.tup [.d (.int .i64 0),.d (.int .i64 0),.d (.int .i64 0),.d .ff]
theorem qq7(t:Int):FnOk Tryz.prog 206 [.d (.int .u16 t)] (partsR (qy t)):=by
 refine qs (TT:=TT) (IN:=qf []) qe qi mixed 1000 Tryz.func206 rfl (qh Tryz.func206 (by kernel_rfl) rfl) rfl 16 (by kernel_rfl) ?_
 have fin1:t=2\/t=5\/t=12->qy t=some (0,1,0):=fun h=>by unfold qy;rw[if_pos h]
 conv=>whnf
 refine⟨fun h1=>?_,fun h1=>?_⟩
 ·rw[fin1 (.inl (by simpa using h1))]
  conv=>whnf
  try (refine brT h1 ?_;conv=>whnf)
  repeat'(first|exact ⟨⟩|exact rfl|exact .inr rfl|exact .inl rfl|exact fun _ _=>rfl|exact noI|apply And.intro)
 simp only [beq_eq_false_iff_ne,ne_eq] at h1
 conv=>whnf
 refine⟨fun h2=>?_,fun h2=>?_⟩
 ·rw[fin1 (.inr (.inl (by simpa using h2)))]
  conv=>whnf
  try (refine brT h2 ?_;conv=>whnf)
  repeat'(first|exact ⟨⟩|exact rfl|exact .inr rfl|exact .inl rfl|exact fun _ _=>rfl|exact noI|apply And.intro)
 simp only [beq_eq_false_iff_ne,ne_eq] at h2
 conv=>whnf
 refine⟨fun h3=>?_,fun h3=>?_⟩
 ·rw[fin1 (.inr (.inr (by simpa using h3)))]
  conv=>whnf
  try (refine brT h3 ?_;conv=>whnf)
  repeat'(first|exact ⟨⟩|exact rfl|exact .inr rfl|exact .inl rfl|exact fun _ _=>rfl|exact noI|apply And.intro)
 simp only [beq_eq_false_iff_ne,ne_eq] at h3
 conv=>whnf
 refine⟨fun h4=>?_,fun h4=>?_⟩
 ·have:qy t=some (1,1,0):=by unfold qy;simp at h4;simp [h4]
  rw[this]
  conv=>whnf
  repeat'(first|exact ⟨⟩|exact rfl|exact .inr rfl|exact .inl rfl|exact fun _ _=>rfl|exact noI|apply And.intro)
 simp only [beq_eq_false_iff_ne,ne_eq] at h4
 conv=>whnf
 refine⟨fun h5=>?_,fun h5=>?_⟩
 ·have:qy t=some (3,1,0):=by unfold qy;simp at h5;simp [h5]
  rw[this]
  conv=>whnf
  repeat'(first|exact ⟨⟩|exact rfl|exact .inr rfl|exact .inl rfl|exact fun _ _=>rfl|exact noI|apply And.intro)
 simp only [beq_eq_false_iff_ne,ne_eq] at h5
 conv=>whnf
 refine⟨fun h6=>?_,fun h6=>?_⟩
 ·have:qy t=some (0,2,5):=by unfold qy;simp at h6;simp [h6]
  rw[this]
  conv=>whnf
  repeat'(first|exact ⟨⟩|exact rfl|exact .inr rfl|exact .inl rfl|exact fun _ _=>rfl|exact noI|apply And.intro)
 simp only [beq_eq_false_iff_ne,ne_eq] at h6
 have:qy t=none:=by unfold qy;simp[h1,h2,h3,h4,h5,h6]
 rw[this]
 conv=>whnf
 repeat'(first|exact ⟨⟩|exact rfl|exact .inr rfl|exact .inl rfl|exact fun _ _=>rfl|exact noI|apply And.intro)
def uo(s:List UInt8):SV:=if qz s=0 then .tup [.any,.d .ff] else .tup [.d (.str (s.take (qz s))),.d .tt]
set_option maxRecDepth 100000 in
theorem r4first_ok(s:List UInt8)(_hs:s.length<=2000000):FnOk Tryz.prog 239 [.d (.str s)] (uo s):=by
 refine qs (TT:=TT) (IN:=qf []) qe qi mixed 1000 Tryz.func239 rfl (qh Tryz.func239 (by kernel_rfl) rfl) rfl 22 (by kernel_rfl) ?_
 conv=>whnf
 refine .inv Nat (fun i=>1<=i/\i<=256/\∀ j,j<i->j<=s.length->¬ qc (s.take j)) (fun i=>[(4,.d (.int .i64 i))]) (fun _=>[]) (fun i=>256 - i) ⟨1,[],⟨Nat.le_refl _,by omega,fun j hj _ h=>?_⟩,?_⟩ ?_
 ·have:j=0:=by omega
  subst this
  have:=h.1
  simp at this
 ·conv=>whnf
  repeat'(first|exact ⟨⟩|exact rfl|exact fun _=>Iff.rfl|exact fun _ _=>rfl|exact qa rfl _|apply And.intro)
 intro i hi
 obtain⟨h1,h2,h3⟩:=hi
 conv=>whnf
 have done_:(s.length<i\/255<i)->uo s = .tup [.any,.d .ff]:=fun hc=>by
  unfold uo
  rw[if_pos (firstN_none fun k hk hk2=>h3 k (by omega) hk)]
 refine⟨fun c1=>?_,fun c1=>?_⟩
 ·have c1:(i:Int)<=s.length:=of_decide_eq_true c1
  conv=>whnf
  refine⟨fun c2=>?_,fun c2=>?_⟩
  ·have c2:(i:Int)<=255:=of_decide_eq_true c2
   conv=>whnf
   refine⟨by omega,?_⟩
   have hsub:sub s 0 (i:Int)=s.take i:=by unfold sub;simp
   rw[hsub]
   conv=>whnf
   refine oD (qk6 (s.take i)) rfl rfl ?_
   by_cases hn:qc (s.take i)
   ·have e:uo s = .tup [.d (.str (s.take i)),.d .tt]:=by
     unfold uo
     rw[firstN_of (by omega) hn,if_neg (by omega)]
    rw[if_pos hn,e]
    conv=>whnf
    refine brT rfl ?_
    conv=>whnf
    refine⟨by omega,?_⟩
    rw[hsub]
    conv=>whnf
    repeat'(first|exact ⟨⟩|exact rfl|exact .inr rfl|exact .inl rfl|exact fun _ _=>rfl|exact noI|apply And.intro)
   ·rw[if_neg hn]
    conv=>whnf
    refine brF rfl ?_
    conv=>whnf
    have hw1:=w64s i (by omega)
    refine⟨i+1,[],⟨by omega,by omega,fun j hj hjl=>?_⟩,by omega,?_⟩
    ·by_cases hji:j=i
     ·rw[hji];exact hn
     ·exact h3 j (by omega) hjl
    conv=>whnf
    rw[hw1]
    repeat'(first|exact ⟨⟩|exact rfl|exact fun _=>Iff.rfl|exact fun _ _=>rfl|exact qa rfl _|apply And.intro)
  ·have c2:¬ (i:Int)<=255:=of_decide_eq_false c2
   rw[done_ (.inr (by omega))]
   conv=>whnf
   repeat'(first|exact ⟨⟩|exact rfl|exact .inr rfl|exact .inl rfl|exact fun _ _=>rfl|exact noI|apply And.intro)
 ·have c1:¬ (i:Int)<=s.length:=of_decide_eq_false c1
  rw[done_ (.inl (by omega))]
  conv=>whnf
  repeat'(first|exact ⟨⟩|exact rfl|exact .inr rfl|exact .inl rfl|exact fun _ _=>rfl|exact noI|apply And.intro)
def splitP:Option (List UInt8 × List (List UInt8) × List UInt8)->SV
 |none=>.tup [.any,.any,.any,.d .ff]
 |some (x,l,r)=>.tup [.d (.str x),.d (.sl (Nat.beq l.length 0) l.length 1 (strs l)),.d (.str r),.d .tt]
structure R4St where
 i:Nat
 l:List (List UInt8)
 r:List UInt8
set_option maxRecDepth 100000 in
theorem qq6(t:Int)(p:Nat × Nat × Nat)(hp:qy t=some p)(s:List UInt8)(hs:s.length<=2000000):FnOk Tryz.prog 207 [.d (.int .u16 t),.d (.str s)] (splitP (cutF p.1 p.2.1 p.2.2 s)):=by
 refine qs (TT:=TT) (IN:=qf []) qe qi mixed 1000 Tryz.func207 rfl (qh Tryz.func207 (by kernel_rfl) rfl) rfl 58 (by kernel_rfl) ?_
 obtain⟨p1,p2,p3⟩:=qh4 hp
 have hpt:=qq7 t
 rw [hp] at hpt
 conv=>whnf
 refine oD hpt rfl rfl ?_
 conv=>whnf
 refine⟨fun h1=>?_,fun h1=>?_⟩
 ·have h1:(s.length:Int)<(2 * p.1:Nat):=of_decide_eq_true h1
  have e:cutF p.1 p.2.1 p.2.2 s=none:=by unfold cutF;rw[if_pos (by omega)]
  rw[e]
  conv=>whnf
  repeat'(first|exact ⟨⟩|exact rfl|exact .inr rfl|exact .inl rfl|exact fun _ _=>rfl|exact noI|apply And.intro)
 have h1:¬ (s.length:Int)<(2 * p.1:Nat):=of_decide_eq_false h1
 have hcut:cutF p.1 p.2.1 p.2.2 s=(zv p.2.1 (s.drop (2 * p.1))).bind fun q=>if q.2.length=4 * p.2.2 then some (s.take (2 * p.1),q.1,q.2) else none:=by unfold cutF;rw[if_neg (by omega)]
 have hsub0:sub s ((2 * p.1:Nat):Int) (s.length:Int)=s.drop (2 * p.1):=by
  unfold sub
  rw[Int.toNat_natCast,Int.toNat_natCast,List.take_of_length_le (by rw[List.length_drop];omega)]
 conv=>whnf
 refine⟨by omega,?_⟩
 rw[hsub0]
 conv=>whnf
 refine .nilT 13 9 1 (fun _=>[]) _ _ rfl ?_
 refine .inv R4St (fun x=>NAt p.2.1 (s.drop (2 * p.1)) x.i x.l x.r) (fun x=>[(12,.d (.str x.r)),(13,.all 0),(14,.d (.int .i64 x.i))]) (fun x=>[(0,.row 9 1 x.l.length .iff (strs x.l))]) (fun x=>p.2.1 - x.i) ⟨⟨0,[],s.drop (2 * p.1)⟩,[0],NAt.zero _ _,?_⟩ ?_
 ·conv=>whnf
  repeat'(first|exact ⟨⟩|exact rfl|(intro i hi;exact absurd hi (Nat.not_lt_zero _))|exact fun _ _=>rfl|apply And.intro)
 intro x hN
 conv=>whnf
 generalize x.i=i at hN ⊢
 generalize x.l=l at hN ⊢
 generalize x.r=r at hN ⊢
 have hlen:=hN.len
 have hile:=hN.le
 have hsh:=hN.short
 rw [List.length_drop] at hsh
 refine⟨fun c1=>?_,fun c1=>?_⟩
 ·have c1:(i:Int)<p.2.1:=of_decide_eq_true c1
  obtain⟨s1,s2⟩:=hN.step (by omega)
  have hf:=r4first_ok r (by omega)
  have hfl:=ql7 r
  conv=>whnf
  by_cases h0:qz r=0
  ·have e:cutF p.1 p.2.1 p.2.2 s=none:=by rw[hcut,s1 h0];rfl
   have ef:uo r = .tup [.any,.d .ff]:=by unfold uo;rw[if_pos h0]
   rw [ef] at hf
   refine oD hf rfl rfl ?_
   rw[e]
   conv=>whnf
   repeat'(first|exact ⟨⟩|exact rfl|exact .inr rfl|exact .inl rfl|exact fun _ _=>rfl|exact noI|apply And.intro)
  ·have ef:uo r = .tup [.d (.str (r.take (qz r))),.d .tt]:=by unfold uo;rw[if_neg h0]
   rw [ef] at hf
   have htl:(r.take (qz r)).length=qz r:=by rw[List.length_take];omega
   have hsub1:sub r ((qz r:Nat):Int) (r.length:Int)=r.drop (qz r):=by
    unfold sub
    rw[Int.toNat_natCast,Int.toNat_natCast,List.take_of_length_le (by rw[List.length_drop];omega)]
   refine oD hf rfl rfl ?_
   conv=>whnf
   refine⟨by omega,?_⟩
   conv=>whnf
   rw[htl]
   refine⟨by omega,?_⟩
   rw[hsub1]
   have hw1:=w64s i (by omega)
   conv=>whnf
   refine⟨⟨i+1,l++[r.take (qz r)],r.drop (qz r)⟩,[2],s2 h0,by show p.2.1 - (i+1)<p.2.1 - i;omega,?_⟩
   conv=>whnf
   rw[hw1]
   repeat'(first|exact ⟨⟩|exact rfl|apply And.intro)
   ·simp
   ·exact wi _ _ _ rfl
 ·have c1:¬ (i:Int)<p.2.1:=of_decide_eq_false c1
  have hi:i=p.2.1:=by omega
  subst hi
  have hl:=hN.last
  have hsub2:sub s 0 ((2 * p.1:Nat):Int)=s.take (2 * p.1):=by unfold sub;rw[Int.toNat_natCast];simp
  conv=>whnf
  refine⟨by omega,?_⟩
  rw[hsub2]
  conv=>whnf
  by_cases hr:r.length=4 * p.2.2
  ·have e:cutF p.1 p.2.1 p.2.2 s=some (s.take (2 * p.1),l,r):=by rw[hcut,hl];show(if r.length=4 * p.2.2 then _ else _)=_;rw[if_pos hr]
   rw[e]
   conv=>whnf
   refine⟨rfl,⟨rfl,rfl,.inr rfl,fun _ _=>rfl⟩,rfl,?_,True.intro⟩
   show((r.length:Int) == ((4 * p.2.2:Nat):Int))=true
   simp
   omega
  ·have e:cutF p.1 p.2.1 p.2.2 s=none:=by rw[hcut,hl];show(if r.length=4 * p.2.2 then _ else _)=_;rw[if_neg hr]
   rw[e]
   conv=>whnf
   refine⟨True.intro,True.intro,True.intro,?_,True.intro⟩
   show((r.length:Int) == ((4 * p.2.2:Nat):Int))=false
   simp
   omega
set_option maxRecDepth 100000 in
theorem r4texts_ok(s:List UInt8)(hs:s.length<=2000000):FnOk Tryz.prog 205 [.d (.str s)] (.tup [.any,.d (.bool (kg s))]):=by
 refine qs (TT:=TT) (IN:=qf []) qe qi mixed 1000 Tryz.func205 rfl (qh Tryz.func205 (by kernel_rfl) rfl) rfl 30 (by kernel_rfl) ?_
 conv=>whnf
 refine .nilT 4 9 1 (fun _=>[]) _ _ rfl ?_
 conv=>whnf
 refine .inv (Nat × List (List UInt8)) (fun p=>TAt s p.1 p.2) (fun p=>[(0,.d (.str (s.drop p.1))),(4,.all 0)]) (fun p=>[(0,.row 9 1 p.2.length .iff (strs p.2))]) (fun p=>s.length - p.1) ⟨(0,[]),[0],TAt.zero s,?_⟩ ?_
 ·conv=>whnf
  repeat'(first|exact ⟨⟩|exact rfl|apply And.intro)
  intro i hi
  exact absurd hi (by simp)
 intro p hk
 have hk0:p.1<=s.length:=hk.1
 have hk2:p.2.length<=p.1:=hk.2.1
 have hby:=uy s p.1
 have hlen:(s.drop p.1).length=s.length - p.1:=by simp
 conv=>whnf
 refine⟨fun hne=>?_,fun heq=>?_⟩
 ·have hlt:p.1<s.length:=by
   rcases Nat.lt_or_ge p.1 s.length with e|e
   ·exact e
   ·rw [List.drop_eq_nil_of_le e] at hne;simp at hne
  obtain⟨e1,e2⟩:=TAt.step hk hlt
  have hb0:yg (s.drop p.1) 0=(bt s p.1:Int):=by
   rw[show(0:Int)=((0:Nat):Int) from rfl,zf]
   simp[bt]
  conv=>whnf
  refine⟨by omega,?_⟩
  have hsz:IntKind.i64.wrap (1+IntKind.i64.wrap (yg (s.drop p.1) 0))=((1+bt s p.1:Nat):Int):=by rw[hb0];simp(disch:=omega) only[qn];omega
  conv=>whnf
  rw[hsz]
  refine⟨fun hgt=>?_,fun hle=>?_⟩
  ·conv=>whnf
   refine⟨True.intro,?_,True.intro⟩
   have:kg s=false:=by unfold kg;rw [e1 (by simp at hgt;omega)]
   rw[this]
   exact rfl
  ·have hle':p.1+1+bt s p.1<=s.length:=by simp at hle;omega
   conv=>whnf
   refine⟨by omega,?_⟩
   conv=>whnf
   refine⟨by omega,?_⟩
   conv=>whnf
   refine⟨by omega,?_⟩
   conv=>whnf
   refine⟨(p.1+1+bt s p.1,p.2++[(s.drop (p.1+1)).take (bt s p.1)]),[2],e2 hle',by show s.length - (p.1+1+bt s p.1)<s.length - p.1;omega,?_⟩
   conv=>whnf
   repeat'(first|exact ⟨⟩|exact rfl|apply And.intro)
   ·refine congrArg SV.d (congrArg DV.str ?_)
    show sub (s.drop p.1) _ _=s.drop (p.1+1+bt s p.1)
    simp only[sub,Int.toNat_natCast,List.drop_drop]
    rw[List.take_of_length_le (by simp;omega)]
    congr 1
    omega
   ·simp
   ·refine wi _ _ _ ?_
    show[DV.str _]=[DV.str _]
    congr 2
    simp only[sub,Int.toNat_natCast,List.drop_drop]
    rw[show(1:Int).toNat=1 from rfl]
    congr 1
    omega
 ·have hke:p.1=s.length:=by
   simp at heq
   omega
  conv=>whnf
  refine⟨True.intro,?_,True.intro⟩
  have:kg s=decide (0<p.2.length):=by unfold kg;rw[TAt.last hk hke]
  rw[this]
  refine congrArg DV.bool ?_
  simp
set_option maxRecDepth 100000 in
theorem jb1(t:Int)(s:List UInt8)(hs:s.length<=2000000):FnOk Tryz.prog 162 [.d (.int .u16 t),.d (.str s)] (.d (.int .i64 (errno (qr t s)))):=by
 refine qs (TT:=TT) (IN:=qf []) qe qi mixed 1000 Tryz.func162 rfl (qh Tryz.func162 (by kernel_rfl) rfl) rfl 49 (by kernel_rfl) ?_
 conv=>whnf
 refine⟨fun h1=>?_,fun h1=>?_⟩
 ·have h1:t=1:=by simpa using h1
  have hg:jf t s=((s.length:Int) == ((4:Nat):Int)):=by unfold jf;rw[if_pos h1,lenEq]
  conv=>whnf
  refine⟨fun k1=>?_,fun k1=>?_⟩
  ·have hgood:jf t s=false:=by rw[hg];simpa using k1
   have e:qr t s=false:=by unfold qr;rw[hgood,Bool.and_false]
   rw[e]
   conv=>whnf
   exact rfl
  have hgood:jf t s=true:=by rw[hg];simpa using k1
  conv=>whnf
  refine⟨fun k2=>?_,fun k2=>?_⟩
  ·have k2:(s.length:Int) > 4096:=of_decide_eq_true k2
   have e:qr t s=false:=by unfold qr;rw[decide_eq_false (by omega)];rfl
   rw[e]
   conv=>whnf
   exact rfl
  ·have k2:¬ (s.length:Int) > 4096:=of_decide_eq_false k2
   have e:qr t s=true:=by unfold qr;rw[decide_eq_true (by omega),hgood];rfl
   rw[e]
   conv=>whnf
   exact rfl
 have h1:¬ t=1:=by simpa using h1
 conv=>whnf
 refine⟨fun h2=>?_,fun h2=>?_⟩
 ·have h2:t=28:=by simpa using h2
  have hg:jf t s=((s.length:Int) == ((16:Nat):Int)):=by unfold jf;rw[if_neg h1,if_pos h2,lenEq]
  conv=>whnf
  refine⟨fun k1=>?_,fun k1=>?_⟩
  ·have hgood:jf t s=false:=by rw[hg];simpa using k1
   have e:qr t s=false:=by unfold qr;rw[hgood,Bool.and_false]
   rw[e]
   conv=>whnf
   exact rfl
  have hgood:jf t s=true:=by rw[hg];simpa using k1
  conv=>whnf
  refine⟨fun k2=>?_,fun k2=>?_⟩
  ·have k2:(s.length:Int) > 4096:=of_decide_eq_true k2
   have e:qr t s=false:=by unfold qr;rw[decide_eq_false (by omega)];rfl
   rw[e]
   conv=>whnf
   exact rfl
  ·have k2:¬ (s.length:Int) > 4096:=of_decide_eq_false k2
   have e:qr t s=true:=by unfold qr;rw[decide_eq_true (by omega),hgood];rfl
   rw[e]
   conv=>whnf
   exact rfl
 have h2:¬ t=28:=by simpa using h2
 conv=>whnf
 refine⟨fun h3=>?_,fun h3=>?_⟩
 ·have h3:t=16:=by simpa using h3
  have hg:jf t s=kg s:=by unfold jf;rw[if_neg h1,if_neg h2,if_pos h3]
  conv=>whnf
  refine oD (r4texts_ok s hs) rfl rfl ?_
  conv=>whnf
  refine⟨fun k1=>?_,fun k1=>?_⟩
  ·have hgood:jf t s=false:=by rw[hg];simpa using k1
   have e:qr t s=false:=by unfold qr;rw[hgood,Bool.and_false]
   rw[e]
   conv=>whnf
   exact rfl
  have hgood:jf t s=true:=by rw[hg];simpa using k1
  conv=>whnf
  refine⟨fun k2=>?_,fun k2=>?_⟩
  ·have k2:(s.length:Int) > 4096:=of_decide_eq_true k2
   have e:qr t s=false:=by unfold qr;rw[decide_eq_false (by omega)];rfl
   rw[e]
   conv=>whnf
   exact rfl
  ·have k2:¬ (s.length:Int) > 4096:=of_decide_eq_false k2
   have e:qr t s=true:=by unfold qr;rw[decide_eq_true (by omega),hgood];rfl
   rw[e]
   conv=>whnf
   exact rfl
 have h3:¬ t=16:=by simpa using h3
 conv=>whnf
 have hpt:=qq7 t
 cases hf:qy t with
 |none =>
  have hgood:jf t s=true:=by unfold jf;rw[if_neg h1,if_neg h2,if_neg h3,hf]
  rw [hf] at hpt
  refine oD hpt rfl rfl ?_
  conv=>whnf
  refine⟨fun k2=>?_,fun k2=>?_⟩
  ·have k2:(s.length:Int) > 4096:=of_decide_eq_true k2
   have e:qr t s=false:=by unfold qr;rw[decide_eq_false (by omega)];rfl
   rw[e]
   conv=>whnf
   exact rfl
  ·have k2:¬ (s.length:Int) > 4096:=of_decide_eq_false k2
   have e:qr t s=true:=by unfold qr;rw[decide_eq_true (by omega),hgood];rfl
   rw[e]
   conv=>whnf
   exact rfl
 |some p =>
  rw [hf] at hpt
  have hsp:=qq6 t p hf s hs
  refine oD hpt rfl rfl ?_
  conv=>whnf
  cases hc:cutF p.1 p.2.1 p.2.2 s with
  |none =>
   have hgood:jf t s=false:=by unfold jf;rw[if_neg h1,if_neg h2,if_neg h3,hf];show(cutF p.1 p.2.1 p.2.2 s).isSome=false;rw[hc];rfl
   have e:qr t s=false:=by unfold qr;rw[hgood,Bool.and_false]
   rw [hc] at hsp
   refine oD hsp rfl rfl ?_
   rw[e]
   conv=>whnf
   repeat(first|(refine brF rfl ?_;conv=>whnf)|(refine brT rfl ?_;conv=>whnf))
   try exact rfl
  |some q =>
   obtain⟨x,l,r⟩:=q
   have hgood:jf t s=true:=by unfold jf;rw[if_neg h1,if_neg h2,if_neg h3,hf];show(cutF p.1 p.2.1 p.2.2 s).isSome=true;rw[hc];rfl
   rw [hc] at hsp
   refine oD hsp rfl rfl ?_
   conv=>whnf
   refine⟨fun k2=>?_,fun k2=>?_⟩
   ·have k2:(s.length:Int) > 4096:=of_decide_eq_true k2
    have e:qr t s=false:=by unfold qr;rw[decide_eq_false (by omega)];rfl
    rw[e]
    conv=>whnf
    exact rfl
   ·have k2:¬ (s.length:Int) > 4096:=of_decide_eq_false k2
    have e:qr t s=true:=by unfold qr;rw[decide_eq_true (by omega),hgood];rfl
    rw[e]
    conv=>whnf
    exact rfl
def AnL:List SV->List SV->Prop
 |[],[]=>True
 |a :: l,b :: m=>(b = .any\/a=b)/\AnL l m
 |_,_=>False
theorem AnL.len:∀ {l m:List SV},AnL l m->l.length=m.length
 |[],[],_=>rfl
 |_ :: _,_ :: _,h=>congrArg (· + 1) (AnL.len h.2)
theorem AnL.at:∀ {l m:List SV},AnL l m->∀ (j:Nat) (s t:SV),l[j]? = some s->m[j]? = some t->t = .any\/s=t
 |[],[],_,_,_,_,ht,_=>by simp at ht
 |_ :: _,_ :: _,h,0,s,t,hs,ht=>by simp at hs ht;subst hs ht;exact h.1
 |_ :: l,_ :: m,h,j+1,s,t,hs,ht=>AnL.at (l:=l) (m:=m) h.2 j s t (by simpa using hs) (by simpa using ht)
theorem qu{n:Nat}(z:Z):SubZ n z z:=by cases z <;> exact True.intro
def iV(x:Nat):SV:=.d (.int .i64 (x:Int))
theorem formOf_pos{t:Int}{p:Nat × Nat × Nat}(h:qy t=some p):0<p.2.1:=by
 unfold qy at h
 repeat'(split at h)
 all_goals first|(cases h;decide)|cases h
theorem jc3{t:Int}{p:Nat × Nat × Nat}(h:qy t=some p):t≠1/\t≠28/\t≠16:=by
 refine⟨?_,?_,?_⟩ <;> (rintro rfl;cases h)
def namesR:Option (List UInt8 × List (List UInt8) × List UInt8)->SV
 |none=>nilS
 |some (_,l,_)=>.d (.sl (Nat.beq l.length 0) l.length 1 (strs l))
def x3(t:Int)(s:List UInt8):Option (List UInt8 × List (List UInt8) × List UInt8):=(zd t s).map (·.2)
theorem jb8{t:Int}{s:List UInt8}{p:Nat × Nat × Nat}(hf:qy t=some p)(hr:qr t s=true):∃ q,cutF p.1 p.2.1 p.2.2 s=some q/\x3 t s=some q:=by
 obtain⟨n1,n2,n3⟩:=jc3 hf
 unfold qr jf at hr
 rw [if_neg n1,if_neg n2,if_neg n3,hf] at hr
 simp only [Bool.and_eq_true,decide_eq_true_eq] at hr
 obtain⟨q,hq⟩:=Option.isSome_iff_exists.1 hr.2
 refine⟨q,hq,?_⟩
 unfold x3 zd
 rw[if_pos hr.1,hf]
 show Option.map _ ((cutF p.1 p.2.1 p.2.2 s).map _)=_
 rw[hq];rfl
theorem lookP_bad{t:Int}{s:List UInt8}{p:Nat × Nat × Nat}(hf:qy t=some p)(hr:qr t s=false):x3 t s=none:=by
 obtain⟨n1,n2,n3⟩:=jc3 hf
 unfold qr jf at hr
 rw [if_neg n1,if_neg n2,if_neg n3,hf] at hr
 unfold x3 zd
 split
 ·rename_i h
  rw [decide_eq_true h,Bool.true_and] at hr
  have:cutF p.1 p.2.1 p.2.2 s=none:=by
   have hr:(cutF p.1 p.2.1 p.2.2 s).isSome=false:=hr
   cases e:cutF p.1 p.2.1 p.2.2 s
   ·rfl
   ·rw [e] at hr;cases hr
  rw[hf]
  show Option.map _ ((cutF p.1 p.2.1 p.2.2 s).map _)=_
  rw[this];rfl
 ·rfl
theorem jb9{t:Int}{s:List UInt8}(hf:qy t=none):x3 t s=none:=by
 unfold x3 zd
 rw[hf];split <;> rfl
theorem r4names_ok(t:Int)(s:List UInt8)(hs:s.length<=2000000):FnOk Tryz.prog 208 [.d (.int .u16 t),.d (.str s)] (namesR (x3 t s)):=by
 refine qs (TT:=TT) (IN:=qf []) qe qi mixed 1000 Tryz.func208 rfl (qh Tryz.func208 (by kernel_rfl) rfl) rfl 35 (by kernel_rfl) ?_
 have hpt:=qq7 t
 cases hf:qy t with
 |none =>
  rw [hf] at hpt
  rw[jb9 hf]
  conv=>whnf
  refine oD hpt rfl rfl ?_
  conv=>whnf
  repeat(first|(refine brT rfl ?_;conv=>whnf))
  try exact rfl
  try repeat'(first|exact ⟨⟩|exact rfl|exact .inr rfl|exact .inl rfl|exact fun _ _=>rfl|exact noI|apply And.intro)
 |some p =>
  rw [hf] at hpt
  conv=>whnf
  refine oD hpt rfl rfl ?_
  conv=>whnf
  refine oD (jb1 t s hs) rfl rfl ?_
  cases hr:qr t s with
  |false =>
   rw[lookP_bad hf hr]
   conv=>whnf
   repeat(first|(refine brT rfl ?_;conv=>whnf))
   try exact rfl
   try repeat'(first|exact ⟨⟩|exact rfl|exact .inr rfl|exact .inl rfl|exact fun _ _=>rfl|exact noI|apply And.intro)
  |true =>
   obtain⟨q,hq,hl⟩:=jb8 hf hr
   rw[hl]
   conv=>whnf
   refine brF rfl ?_
   conv=>whnf
   have hsp:=qq6 t p hf s hs
   rw [hq] at hsp
   refine oD hsp rfl rfl ?_
   conv=>whnf
   exact⟨rfl,rfl,.inr rfl,fun _ _=>rfl⟩
theorem rfold_none{t:Int}{s:List UInt8}(h:x3 t s=none):ju t s=s:=by
 unfold x3 at h
 unfold ju
 cases e:zd t s with
 |none=>rfl
 |some q=>rw [e] at h;cases h
theorem rfold_some{t:Int}{s x r:List UInt8}{l:List (List UInt8)}(h:x3 t s=some (x,l,r)):ju t s=x++fold l.flatten++r:=by
 unfold x3 at h
 unfold ju
 cases e:zd t s with
 |none=>rw [e] at h;cases h
 |some q =>
  rw [e] at h
  obtain⟨q1,q2⟩:=q
  have h:q2=(x,l,r):=Option.some.inj h
  subst h
  show x++fold (Lib.join l [])++r=_
  rw[qm7]
theorem r4fold_ok(t:Int)(s:List UInt8)(hs:s.length<=2000000):FnOk Tryz.prog 163 [.d (.int .u16 t),.d (.str s)] (.d (.str (ju t s))):=by
 refine qs (TT:=TT) (IN:=qf []) qe qi mixed 1000 Tryz.func163 rfl (qh Tryz.func163 (by kernel_rfl) rfl) rfl 39 (by kernel_rfl) ?_
 conv=>whnf
 refine .one (.data _ (r4names_ok t s hs) (by cases x3 t s <;> rfl) (by cases x3 t s <;> rfl) ?_)
 cases hl:x3 t s with
 |none =>
  rw[rfold_none hl]
  conv=>whnf
  refine brT rfl ?_
  conv=>whnf
  try exact rfl
 |some q =>
  obtain⟨x,l,r⟩:=q
  have hft:∃ p,qy t=some p:=by
   cases e:qy t with
   |none=>rw [jb9 e] at hl;cases hl
   |some p=>exact⟨p,rfl⟩
  obtain⟨p,hf⟩:=hft
  have hr:qr t s=true:=by
   cases e:qr t s
   ·rw [lookP_bad hf e] at hl;cases hl
   ·rfl
  obtain⟨q,hq,hl2⟩:=jb8 hf hr
  rw [hl] at hl2
  have hqe:=Option.some.inj hl2
  subst hqe
  have hcat:l.length=p.2.1/\x.length+(l.flatten.length+r.length)<=2000000:=by
   unfold cutF at hq
   split at hq
   ·cases hq
   ·rename_i h2
    cases e:zv p.2.1 (s.drop (2 * p.1)) with
    |none=>rw [e] at hq;cases hq
    |some w =>
     rw [e] at hq
     simp only [Option.bind_some] at hq
     split at hq
     ·simp only [Option.some.injEq,Prod.mk.injEq] at hq
      obtain⟨rfl,rfl,rfl⟩:=hq
      obtain⟨e1,e2⟩:=jb7 _ _ w.1 w.2 e
      refine⟨e1,?_⟩
      rw[e2]
      simp;omega
     ·cases hq
  have hpos:=formOf_pos hf
  have hle100:=(qh4 hf).2.1
  have hfol:∀ z:List UInt8,(fold z).length=z.length:=qu2
  rw[rfold_some hl]
  conv=>whnf
  refine brF (by cases l with|nil=>simp at hcat;omega|cons a l=>simp;omega) ?_
  conv=>whnf
  have hsp:=qq6 t p hf s hs
  rw [hq] at hsp
  refine oD hsp rfl rfl ?_
  conv=>whnf
  refine .inv Nat (fun i=>i<=l.length) (fun i=>[(29,iV i),(6,.d (.str (x++fold (l.take i).flatten)))]) (fun _=>[]) (fun i=>l.length - i) ⟨0,[],Nat.zero_le _,?_⟩ ?_
  ·conv=>whnf
   rw[show x++fold (l.take 0).flatten=x by simp[fold]]
   repeat'(first|exact ⟨⟩|exact rfl|exact fun _=>Iff.rfl|exact fun _ _=>rfl|exact qa rfl _|apply And.intro)
  intro i hi
  conv=>whnf
  refine⟨fun c5=>?_,fun c5=>?_⟩
  ·have c5':i<l.length:=(by have h:(i:Int)<l.length:=of_decide_eq_true c5;omega)
   have hw1:=w64s i (by omega)
   obtain⟨y,hy⟩:∃ y,l[i]?.getD []=y:=⟨_,rfl⟩
   have hly:l[i]=y:=by rw[<-hy,List.getElem?_eq_getElem c5'];rfl
   have htk:(l.take (i+1)).flatten=(l.take i).flatten++y:=by
    rw[List.take_add_one,List.getElem?_eq_getElem c5',hly];simp
   have hle:(l.take i).flatten.length+y.length<=2000000:=by
    have h1:l.flatten=(l.take (i+1)).flatten++(l.drop (i+1)).flatten:=by rw[<-List.flatten_append,List.take_append_drop]
    have h2:=congrArg List.length h1
    rw [htk] at h2
    simp only [List.length_append] at h2
    omega
   conv=>whnf
   refine⟨by omega,?_⟩
   conv=>whnf
   rw[Int.toNat_natCast,hy]
   refine oD (qs1 y (by omega)) rfl rfl ?_
   conv=>whnf
   refine⟨by rw[List.length_append,hfol,hfol];omega,?_⟩
   conv=>whnf
   rw[hw1]
   refine⟨i+1,[],c5',by omega,?_⟩
   rw[htk,show x++fold ((l.take i).flatten++y)=(x++fold (l.take i).flatten)++fold y by unfold fold;rw[List.map_append,List.append_assoc]]
   conv=>whnf
   repeat'(first|exact ⟨⟩|exact rfl|exact fun _=>Iff.rfl|exact fun _ _=>rfl|exact qa rfl _|apply And.intro)
  ·have hia:i=l.length:=(by have h:¬ (i:Int)<l.length:=of_decide_eq_false c5;omega)
   subst hia
   rw[List.take_length]
   conv=>whnf
   refine⟨by rw[List.length_append,hfol];omega,?_⟩
   conv=>whnf
   try exact rfl
end Go.Proofs.YtiiafibkblpbcaaGreat
namespace Go.Proofs.YtiiafibkblpbcaaGreat
section
structure Inj(n:Nat)(p:Nat->Nat):Prop where
 lt:∀ i,i<n->p i<n
 un:∀ i j,i<n->j<n->p i=p j->i=j
structure Same(p q:Nat->Nat)(a b:Nat):Prop where
 out:∀ i,¬ (a<=i/\i<b)->q i=p i
 fwd:∀ i,a<=i->i<b->∃ j,a<=j/\j<b/\q i=p j
 bwd:∀ i,a<=i->i<b->∃ j,a<=j/\j<b/\p i=q j
theorem Same.refl(p:Nat->Nat)(a b:Nat):Same p p a b:=⟨fun _ _=>rfl,fun i h1 h2=>⟨i,h1,h2,rfl⟩,fun i h1 h2=>⟨i,h1,h2,rfl⟩⟩
theorem Same.trans{p q r:Nat->Nat}{a b:Nat}(h:Same p q a b)(k:Same q r a b):Same p r a b :=
 ⟨fun i hi=>(k.out i hi).trans (h.out i hi),fun i h1 h2=>by
  obtain⟨j,a1,a2,a3⟩:=k.fwd i h1 h2
  obtain⟨l,b1,b2,b3⟩:=h.fwd j a1 a2
  exact⟨l,b1,b2,a3.trans b3⟩,fun i h1 h2=>by
  obtain⟨j,a1,a2,a3⟩:=h.bwd i h1 h2
  obtain⟨l,b1,b2,b3⟩:=k.bwd j a1 a2
  exact⟨l,b1,b2,a3.trans b3⟩⟩
theorem Same.wide{p q:Nat->Nat}{a b a' b':Nat}(h:Same p q a b)(ha:a'<=a)(hb:b<=b'):Same p q a' b' :=
 ⟨fun i hi=>h.out i (fun e=>hi (by omega)),fun i h1 h2=>by
  by_cases hi:a<=i/\i<b
  ·obtain⟨j,a1,a2,a3⟩:=h.fwd i hi.1 hi.2
   exact⟨j,by omega,by omega,a3⟩
  ·exact⟨i,h1,h2,h.out i hi⟩,fun i h1 h2=>by
  by_cases hi:a<=i/\i<b
  ·obtain⟨j,a1,a2,a3⟩:=h.bwd i hi.1 hi.2
   exact⟨j,by omega,by omega,a3⟩
  ·exact⟨i,h1,h2,(h.out i hi).symm⟩⟩
section
variable(L:Nat->Nat->Prop)
def Rise(p:Nat->Nat)(a b:Nat):Prop:=∀ i j,a<=i->i<j->j<b->L (p i) (p j)
def Sep(p:Nat->Nat)(a m b:Nat):Prop:=∀ i j,a<=i->i<m->m<=j->j<b->p i<p j
variable{L}{n:Nat}{p:Nat->Nat}
theorem Rise.sub{a b a' b':Nat}(h:Rise L p a b)(ha:a<=a')(hb:b'<=b):Rise L p a' b':=fun i j h1 h2 h3=>h i j (by omega) h2 (by omega)
theorem Rise.congr{q:Nat->Nat}{a b:Nat}(h:Rise L p a b)(he:∀ i,a<=i->i<b->q i=p i):Rise L q a b:=fun i j h1 h2 h3=>by
 rw[he i h1 (by omega),he j (by omega) h3];exact h i j h1 h2 h3
structure Merged(p q:Nat->Nat)(n a b:Nat):Prop where
 inj:Inj n q
 same:Same p q a b
 rise:Rise L q a b
end
theorem Sep.congr{q p:Nat->Nat}{a m b:Nat}(h:Sep p a m b)(he:∀ i,a<=i->i<b->q i=p i):Sep q a m b:=fun i j h1 h2 h3 h4=>by
 by_cases hx:i<b
 ·by_cases hy:a<=j
  ·rw[he i h1 hx,he j hy h4];exact h i j h1 h2 h3 h4
  ·omega
 ·omega
theorem Merged.stay{L:Nat->Nat->Prop}{n a b:Nat}{q:Nat->Nat}(hi:Inj n q)(h:Rise L q a b):Merged (L:=L) q q n a b:=⟨hi,.refl _ _ _,h⟩
def Lc(k lo n:Nat)(p:Nat->Nat):Prop:=∀ i,lo<=i->i<n->p i / k=i / k
def Rs(L:Nat->Nat->Prop)(k lo hi:Nat)(p:Nat->Nat):Prop:=∀ i j,lo<=i->i<j->j<hi->i / k=j / k->L (p i) (p j)
theorem xl{k c i:Nat}(h1:c * k<=i)(h2:i<c * k+k):i / k=c:=by
 have hk:0<k:=by omega
 apply Nat.le_antisymm
 ·exact Nat.lt_succ_iff.1 (Nat.div_lt_of_lt_mul (by rw[Nat.mul_comm];rw[Nat.succ_mul];exact h2))
 ·exact(Nat.le_div_iff_mul_le hk).2 h1
structure Mg(L:Nat->Nat->Prop)(k n c:Nat)(p:Nat->Nat):Prop where
 inj:Inj n p
 big:Lc (2 * k) 0 n p
 done:Rs L (2 * k) 0 (min (c * (2 * k)) n) p
 rest:Rs L k (c * (2 * k)) n p
 small:Lc k (c * (2 * k)) n p
theorem Mg.left{L:Nat->Nat->Prop}{k n c:Nat}{p:Nat->Nat}(h:Mg L k n c p)(hm:c * (2 * k)+k<=n):Rise L p (c * (2 * k)) (c * (2 * k)+k):=fun i j hi hij hj=>by
 have e:c * (2 * k)=(c * 2) * k:=by rw[Nat.mul_assoc]
 refine h.rest i j hi hij (by omega) ?_
 rw[xl (c:=c * 2) (by omega) (by omega),xl (c:=c * 2) (by omega) (by omega)]
theorem Mg.right{L:Nat->Nat->Prop}{k n c b:Nat}{p:Nat->Nat}(h:Mg L k n c p)(hb:b<=n)(hb2:b<=c * (2 * k)+2 * k):Rise L p (c * (2 * k)+k) b:=fun i j hi hij hj=>by
 have e:c * (2 * k)=(c * 2) * k:=by rw[Nat.mul_assoc]
 have e2:(c * 2+1) * k=(c * 2) * k+k:=by rw[Nat.succ_mul]
 refine h.rest i j (by omega) hij (by omega) ?_
 rw[xl (c:=c * 2+1) (by omega) (by omega),xl (c:=c * 2+1) (by omega) (by omega)]
theorem Mg.sep{L:Nat->Nat->Prop}{k n c b:Nat}{p:Nat->Nat}(h:Mg L k n c p)(hb:b<=n)(hb2:b<=c * (2 * k)+2 * k):Sep p (c * (2 * k)) (c * (2 * k)+k) b:=fun i j hi him hj hjb=>by
 have hk:0<k:=by omega
 have e:c * (2 * k)=(c * 2) * k:=by rw[Nat.mul_assoc]
 have e2:(c * 2+1) * k=(c * 2) * k+k:=by rw[Nat.succ_mul]
 have a1:=h.small i hi (by omega)
 have a2:=h.small j (by omega) (by omega)
 rw [xl (c:=c * 2) (i:=i) (by omega) (by omega)] at a1
 rw [xl (c:=c * 2+1) (i:=j) (by omega) (by omega)] at a2
 rcases Nat.lt_or_ge (p i) (p j) with hl|hl
 ·exact hl
 ·have:=Nat.div_le_div_right (c:=k) hl
  omega
theorem Mg.next{L:Nat->Nat->Prop}{k n c b:Nat}{p r:Nat->Nat}(hk:0<k)(h:Mg L k n c p)(hb:b<=n)(hb2:b<=c * (2 * k)+2 * k)(hb3:b=n\/b=c * (2 * k)+2 * k)(hab:c * (2 * k)<=b)(hr:Merged (L:=L) p r n (c * (2 * k)) b):Mg L k n (c+1) r:=by
 have e:(c+1) * (2 * k)=c * (2 * k)+2 * k:=by rw[Nat.succ_mul]
 refine⟨hr.inj,fun i hi hin=>?_,fun i j hi hij hj hd=>?_,fun i j hi hij hj hd=>?_,fun i hi hin=>?_⟩
 ·by_cases hc:c * (2 * k)<=i/\i<b
  ·obtain⟨j,b1,b2,b3⟩:=hr.same.fwd i hc.1 hc.2
   rw[b3,h.big j (by omega) (by omega),xl (c:=c) b1 (by omega),xl (c:=c) hc.1 (by omega)]
  ·rw[hr.same.out i hc];exact h.big i hi hin
 ·by_cases hc:c * (2 * k)<=i
  ·exact hr.rise i j hc hij (by omega)
  ·by_cases hjc:j<c * (2 * k)
   ·rw[hr.same.out i (by omega),hr.same.out j (by omega)]
    exact h.done i j hi hij (by omega) hd
   ·exfalso
    rw [xl (c:=c) (i:=j) (by omega) (by omega)] at hd
    have:=Nat.div_mul_le_self i (2 * k)
    rw [hd] at this
    omega
 ·rw[hr.same.out i (by omega),hr.same.out j (by omega)]
  exact h.rest i j (by omega) hij hj hd
 ·rw[hr.same.out i (by omega)]
  exact h.small i (by omega) hin
theorem Mg.over{L:Nat->Nat->Prop}{k n c:Nat}{p:Nat->Nat}(hk:0<k)(h:Mg L k n c p)(hn:n<=c * (2 * k)+k):Lc (2 * k) 0 n p/\Rs L (2 * k) 0 n p:=by
 refine⟨h.big,fun i j hi hij hj hd=>?_⟩
 have e:c * (2 * k)=(c * 2) * k:=by rw[Nat.mul_assoc]
 by_cases hjc:j<c * (2 * k)
 ·exact h.done i j hi hij (by omega) hd
 ·have hj2:=xl (k:=2 * k) (c:=c) (i:=j) (by omega) (by omega)
  by_cases hic:c * (2 * k)<=i
  ·refine h.rest i j hic hij hj ?_
   rw[xl (c:=c * 2) (by omega) (by omega),xl (c:=c * 2) (by omega) (by omega)]
  ·exfalso
   rw [hj2] at hd
   have:=Nat.div_mul_le_self i (2 * k)
   rw [hd] at this
   omega
structure Fst(L:Nat->Nat->Prop)(k n c:Nat)(p:Nat->Nat):Prop where
 inj:Inj n p
 loc:Lc k 0 n p
 done:Rs L k 0 (min (c * k) n) p
 rest:∀ i,c * k<=i->p i=i
theorem Fst.zero{L:Nat->Nat->Prop}(k n:Nat):Fst L k n 0 id:=⟨⟨fun i h=>h,fun i j _ _ h=>h⟩,fun i _ _=>rfl,fun i j hi hij hj _=>by omega,fun i _=>rfl⟩
theorem Fst.next{L:Nat->Nat->Prop}{k n c b:Nat}{p r:Nat->Nat}(h:Fst L k n c p)(hb:b<=n)(hb2:b<=c * k+k)(hb3:b=n\/b=c * k+k)(hr:Merged (L:=L) p r n (c * k) b):Fst L k n (c+1) r:=by
 have e:(c+1) * k=c * k+k:=by rw[Nat.succ_mul]
 refine⟨hr.inj,fun i hi hin=>?_,fun i j hi hij hj hd=>?_,fun i hi=>?_⟩
 ·by_cases hc:c * k<=i/\i<b
  ·obtain⟨j,b1,b2,b3⟩:=hr.same.fwd i hc.1 hc.2
   rw[b3,h.rest j b1,xl (c:=c) b1 (by omega),xl (c:=c) hc.1 (by omega)]
  ·rw[hr.same.out i hc];exact h.loc i hi hin
 ·by_cases hc:c * k<=i
  ·exact hr.rise i j hc hij (by omega)
  ·by_cases hjc:j<c * k
   ·rw[hr.same.out i (by omega),hr.same.out j (by omega)]
    exact h.done i j hi hij (by omega) hd
   ·exfalso
    rw [xl (c:=c) (i:=j) (by omega) (by omega)] at hd
    have:=Nat.div_mul_le_self i k
    rw [hd] at this
    omega
 ·rw[hr.same.out i (by omega)]
  exact h.rest i (by omega)
theorem Rs.all{L:Nat->Nat->Prop}{k n:Nat}{p:Nat->Nat}(h:Rs L k 0 n p)(hk:n<=k):Rise L p 0 n:=fun i j hi hij hj=>h i j hi hij hj (by rw[Nat.div_eq_of_lt (by omega),Nat.div_eq_of_lt (by omega)])
end
end Go.Proofs.YtiiafibkblpbcaaGreat
namespace Go.Proofs.YtiiafibkblpbcaaGreat
open Go Go.Eng
theorem u8_tri(a b:UInt8)(h1:¬ a<b)(h2:¬ b<a):a=b:=by
 rw [UInt8.lt_iff_toNat_lt] at h1 h2
 exact UInt8.toNat_inj.1 (by omega)
theorem qb3:∀ a:List UInt8,Op.bytesLess a a=false
 |[]=>rfl
 |a :: l=>by
  have:¬ a<a:=by rw[UInt8.lt_iff_toNat_lt];omega
  simp[Op.bytesLess,this,qb3 l]
theorem qu8:∀ a b c:List UInt8,Op.bytesLess a b=true->Op.bytesLess b c=true->Op.bytesLess a c=true
 |_,_,[]=>fun _ h=>by simp [Op.bytesLess] at h
 |_,[],_ :: _=>fun h _=>by simp [Op.bytesLess] at h
 |[],_ :: _,_ :: _=>fun _ _=>rfl
 |a :: l,b :: m,c :: n=>fun h k=>by
  have ih:=qu8 l m n
  simp only [Op.bytesLess,Bool.or_eq_true,Bool.and_eq_true,decide_eq_true_eq,beq_iff_eq] at h k ⊢
  rcases h with h|⟨rfl,h⟩ <;> rcases k with k|⟨rfl,k⟩
  ·left;rw [UInt8.lt_iff_toNat_lt] at *;omega
  ·exact .inl h
  ·exact .inl k
  ·exact .inr ⟨rfl,ih h k⟩
theorem bl_asym(a b:List UInt8)(h:Op.bytesLess a b=true):Op.bytesLess b a=false:=by
 cases e:Op.bytesLess b a
 ·rfl
 ·have:=qu8 a b a h e
  rw [qb3] at this;cases this
theorem bl_tri:∀ a b:List UInt8,Op.bytesLess a b=false->Op.bytesLess b a=false->a=b
 |[],[]=>fun _ _=>rfl
 |[],_ :: _=>fun h _=>by simp [Op.bytesLess] at h
 |_ :: _,[]=>fun _ h=>by simp [Op.bytesLess] at h
 |a :: l,b :: m=>fun h k=>by
  have ih:=bl_tri l m
  simp only [Op.bytesLess,Bool.or_eq_false_iff,Bool.and_eq_false_iff,decide_eq_false_iff_not,beq_eq_false_iff_ne] at h k
  have e:a=b:=u8_tri a b h.1 k.1
  subst e
  rw[ih (h.2.resolve_left (fun h=>h rfl)) (k.2.resolve_left (fun h=>h rfl))]
structure Firsts(F:List UInt8->List UInt8)(xs D:List (List UInt8)):Prop where
 rise:D.Pairwise (fun a b=>Op.bytesLess (F a) (F b)=true)
 mem:∀ x,x ∈ D↔∃ i:Nat,xs[i]? = some x/\∀ (j:Nat) (y:List UInt8),j<i->xs[j]? = some y->F y≠F x
theorem rise_uniq(F:List UInt8->List UInt8):∀ (A B:List (List UInt8)),A.Pairwise (fun a b=>Op.bytesLess (F a) (F b)=true)->B.Pairwise (fun a b=>Op.bytesLess (F a) (F b)=true)->(∀ x,x ∈ A↔x ∈ B)->A=B
 |[],[]=>fun _ _ _=>rfl
 |[],b :: B=>fun _ _ h=>by have:=(h b).2 (by simp);simp at this
 |a :: A,[]=>fun _ _ h=>by have:=(h a).1 (by simp);simp at this
 |a :: A,b :: B=>fun hA hB h=>by
  obtain⟨a1,a2⟩:=List.pairwise_cons.1 hA
  obtain⟨b1,b2⟩:=List.pairwise_cons.1 hB
  have e:a=b:=by
   rcases List.mem_cons.1 ((h a).1 (by simp)) with e|e
   ·exact e
   ·rcases List.mem_cons.1 ((h b).2 (by simp)) with e'|e'
    ·exact e'.symm
    ·have:=bl_asym _ _ (b1 a e)
     rw [a1 b e'] at this;cases this
  subst e
  have:A=B:=rise_uniq F A B a2 b2 fun x=>by
   constructor
   ·intro hx
    rcases List.mem_cons.1 ((h x).1 (List.mem_cons_of_mem _ hx)) with e|e
    ·subst e;have:=a1 x hx;rw [qb3] at this;cases this
    ·exact e
   ·intro hx
    rcases List.mem_cons.1 ((h x).2 (List.mem_cons_of_mem _ hx)) with e|e
    ·subst e;have:=b1 x hx;rw [qb3] at this;cases this
    ·exact e
  rw[this]
theorem Firsts.uniq{F:List UInt8->List UInt8}{xs A B:List (List UInt8)}(h:Firsts F xs A)(k:Firsts F xs B):A=B :=
 rise_uniq F A B h.rise k.rise fun x=>(h.mem x).trans (k.mem x).symm
theorem Firsts.self{F:List UInt8->List UInt8}{xs:List (List UInt8)}(h:xs.Pairwise (fun a b=>Op.bytesLess (F a) (F b)=true)):Firsts F xs xs:=by
 refine⟨h,fun x=>⟨fun hx=>?_,fun⟨i,hi,_⟩=>List.mem_of_getElem? hi⟩⟩
 obtain⟨i,hi⟩:=List.getElem?_of_mem hx
 refine⟨i,hi,fun j y hj hy e=>?_⟩
 obtain⟨hi1,rfl⟩:=List.getElem?_eq_some_iff.1 hi
 obtain⟨hj1,rfl⟩:=List.getElem?_eq_some_iff.1 hy
 have:=List.pairwise_iff_getElem.1 h j i hj1 hi1 hj
 rw [e,qb3] at this;cases this
theorem Firsts.cover{F:List UInt8->List UInt8}{xs D:List (List UInt8)}(h:Firsts F xs D):∀ (i:Nat) (y:List UInt8),xs[i]? = some y->∃ a ∈ D,F a=F y:=by
 intro i
 induction i using Nat.strongRecOn with
 |_ i ih =>
  intro y hy
  by_cases hx:∃ j z,j<i/\xs[j]? = some z/\F z=F y
  ·obtain⟨j,z,hj,hz,e⟩:=hx
   obtain⟨a,ha,e2⟩:=ih j hj z hz
   exact⟨a,ha,e2.trans e⟩
  ·exact⟨y,(h.mem y).2 ⟨i,hy,fun j z hj hz e=>hx ⟨j,z,hj,hz,e⟩⟩,rfl⟩
theorem Firsts.from{F:List UInt8->List UInt8}{xs D:List (List UInt8)}(h:Firsts F xs D){a:List UInt8}(ha:a ∈ D):∃ i:Nat,xs[i]? = some a:=by
 obtain⟨i,hi,_⟩:=(h.mem a).1 ha
 exact⟨i,hi⟩
theorem Firsts.skip{F:List UInt8->List UInt8}{xs D:List (List UInt8)}(h:Firsts F xs D){x a:List UInt8}(ha:a ∈ D)(e:F a=F x):Firsts F (xs++[x]) D:=by
 refine⟨h.rise,fun z=>(h.mem z).trans ⟨fun⟨i,hi,hf⟩=>?_,fun⟨i,hi,hf⟩=>?_⟩⟩
 ·have hil:=(List.getElem?_eq_some_iff.1 hi).1
  refine⟨i,by rw[List.getElem?_append_left hil];exact hi,fun j y hj hy=>hf j y hj ?_⟩
  rwa [List.getElem?_append_left (by omega)] at hy
 ·rcases Nat.lt_or_ge i xs.length with hl|hl
  ·rw [List.getElem?_append_left hl] at hi
   exact⟨i,hi,fun j y hj hy=>hf j y hj (by rw[List.getElem?_append_left (by omega)];exact hy)⟩
  ·exfalso
   obtain⟨q,hq⟩:=h.from ha
   have hql:=(List.getElem?_eq_some_iff.1 hq).1
   have hx:z=x:=by
    rw [List.getElem?_append_right hl] at hi
    have:i - xs.length=0:=by
     rcases Nat.eq_zero_or_pos (i - xs.length) with h|h
     ·exact h
     ·rw [List.getElem?_eq_none (by simp;omega)] at hi;cases hi
    rw [this] at hi
    exact(Option.some.inj hi).symm
   refine hf q a (by omega) (by rw[List.getElem?_append_left hql];exact hq) (by rw[hx];exact e)
theorem Firsts.put{F:List UInt8->List UInt8}{xs A B:List (List UInt8)}(h:Firsts F xs (A++B)){x:List UInt8}(hA:∀ a ∈ A,Op.bytesLess (F a) (F x)=true)(hB:∀ b ∈ B,Op.bytesLess (F x) (F b)=true):Firsts F (xs++[x]) (A++x :: B):=by
 have hr:=List.pairwise_append.1 h.rise
 have hno:∀ i y,xs[i]? = some y->F y≠F x:=fun i y hy e=>by
  obtain⟨a,ha,e2⟩:=h.cover i y hy
  rcases List.mem_append.1 ha with ha|ha
  ·have:=hA a ha;rw [e2,e,qb3] at this;cases this
  ·have:=hB a ha;rw [e2,e,qb3] at this;cases this
 refine⟨?_,fun z=>?_⟩
 ·refine List.pairwise_append.2 ⟨hr.1,List.pairwise_cons.2 ⟨hB,hr.2.1⟩,fun a ha b hb=>?_⟩
  rcases List.mem_cons.1 hb with rfl|hb
  ·exact hA a ha
  ·exact hr.2.2 a ha b hb
 ·have:z ∈ A++x :: B↔z ∈ A++B\/z=x:=by
   simp only[List.mem_append,List.mem_cons]
   constructor
   ·rintro (h|h|h)
    ·exact .inl (.inl h)
    ·exact .inr h
    ·exact .inl (.inr h)
   ·rintro ((h|h)|h)
    ·exact .inl h
    ·exact .inr (.inr h)
    ·exact .inr (.inl h)
  rw[this,h.mem z]
  constructor
  ·rintro (⟨i,hi,hf⟩|rfl)
   ·have hil:=(List.getElem?_eq_some_iff.1 hi).1
    refine⟨i,by rw[List.getElem?_append_left hil];exact hi,fun j y hj hy=>hf j y hj ?_⟩
    rwa [List.getElem?_append_left (by omega)] at hy
   ·refine⟨xs.length,by simp,fun j y hj hy=>hno j y ?_⟩
    rwa [List.getElem?_append_left hj] at hy
  ·rintro ⟨i,hi,hf⟩
   rcases Nat.lt_or_ge i xs.length with hl|hl
   ·left
    rw [List.getElem?_append_left hl] at hi
    exact⟨i,hi,fun j y hj hy=>hf j y hj (by rw[List.getElem?_append_left (by omega)];exact hy)⟩
   ·right
    rw [List.getElem?_append_right hl] at hi
    have:i - xs.length=0:=by
     rcases Nat.eq_zero_or_pos (i - xs.length) with h|h
     ·exact h
     ·rw [List.getElem?_eq_none (by simp;omega)] at hi;cases hi
    rw [this] at hi
    exact(Option.some.inj hi).symm
theorem Firsts.len{F:List UInt8->List UInt8}{xs D:List (List UInt8)}(h:Firsts F xs D)(hx:xs≠[]):0<D.length:=by
 cases xs with
 |nil=>exact absurd rfl hx
 |cons x l =>
  obtain⟨a,ha,_⟩:=h.cover 0 x rfl
  exact List.length_pos_of_mem ha
def insF(F:List UInt8->List UInt8):List (List UInt8)->List UInt8->List (List UInt8)
 |[],x=>[x]
 |d :: D,x=>if Op.bytesLess (F d) (F x) then d :: insF F D x else if F d=F x then d :: D else x :: d :: D
theorem jc1(F:List UInt8->List UInt8):∀ (D:List (List UInt8)) (x:List UInt8),D.Pairwise (fun a b=>Op.bytesLess (F a) (F b)=true) ->
 (insF F D x=D/\∃ a ∈ D,F a=F x)\/∃ A B,D=A++B/\insF F D x=A++x :: B/\(∀ a ∈ A,Op.bytesLess (F a) (F x)=true)/\∀ b ∈ B,Op.bytesLess (F x) (F b)=true
 |[],x=>fun _=>.inr ⟨[],[],rfl,rfl,fun _ h=>(by cases h),fun _ h=>(by cases h)⟩
 |d :: D,x=>fun h=>by
  obtain⟨h1,h2⟩:=List.pairwise_cons.1 h
  unfold insF
  cases e:Op.bytesLess (F d) (F x)
  ·by_cases e2:F d=F x
   ·left
    rw[if_neg (by simp),if_pos e2]
    exact⟨rfl,d,by simp,e2⟩
   ·right
    rw[if_neg (by simp),if_neg e2]
    have e3:Op.bytesLess (F x) (F d)=true:=by
     cases e4:Op.bytesLess (F x) (F d)
     ·exact absurd (bl_tri _ _ e e4) e2
     ·rfl
    refine⟨[],d :: D,rfl,rfl,fun _ h=>by(cases h),fun b hb=>?_⟩
    rcases List.mem_cons.1 hb with rfl|hb
    ·exact e3
    ·exact qu8 _ _ _ e3 (h1 b hb)
  ·rw[if_pos rfl]
   rcases jc1 F D x h2 with⟨h3,a,ha,h4⟩|⟨A,B,h3,h4,h5,h6⟩
   ·left
    rw[h3]
    exact⟨rfl,a,by simp[ha],h4⟩
   ·right
    refine⟨d :: A,B,by rw[h3];rfl,by rw[h4];rfl,fun a ha=>?_,h6⟩
    rcases List.mem_cons.1 ha with rfl|ha
    ·exact e
    ·exact h5 a ha
theorem Firsts.ins{F:List UInt8->List UInt8}{xs D:List (List UInt8)}(h:Firsts F xs D)(x:List UInt8):Firsts F (xs++[x]) (insF F D x):=by
 rcases jc1 F D x h.rise with⟨h3,a,ha,h4⟩|⟨A,B,h3,h4,h5,h6⟩
 ·rw[h3];exact h.skip ha h4
 ·rw[h4];exact Firsts.put (h3 ▸ h) h5 h6
def lastF(t:Int)(l:List (List UInt8)):Nat->List UInt8
 |0=>[]
 |j+1=>ju t (l[j]?.getD [])
theorem ge_bl(a b:List UInt8):(Op.bytesLess b a || b == a) = !(Op.bytesLess a b):=by
 cases h1:Op.bytesLess a b
 ·cases h2:Op.bytesLess b a
  ·have:=bl_tri b a h2 h1
   simp[this]
  ·rfl
 ·have h2:=bl_asym a b h1
  rw[h2]
  have:b≠a:=fun e=>by rw [e,qb3] at h1;cases h1
  simpa using this
theorem r13chk_ok(nm:List UInt8)(ty ttl:Int)(z:Bool)(l:List (List UInt8))(hl:∀ d ∈ l,d.length<=2000000):FnOk Tryz.prog 103 [setV nm ty ttl z l] (.d (.int .i64 (errno (jn nm ty ttl l)))):=by
 refine qs (TT:=TT) (IN:=qf []) qe qi mixed 1000 Tryz.func103 rfl (qh Tryz.func103 (by kernel_rfl) rfl) rfl 59 (by kernel_rfl) ?_
 have hs:jn nm ty ttl l=(decide (qc nm) && decide (ttl<=2147483647) && decide (0<l.length/\l.length<=64) && zj ty false [] l):=rfl
 conv=>whnf
 refine oD (qk6 nm) rfl rfl ?_
 by_cases h1:qc nm
 case neg =>
  rw[hs,decide_eq_false h1,if_neg h1]
  conv=>whnf
  repeat(first|(refine brF rfl ?_;conv=>whnf)|(refine brT rfl ?_;conv=>whnf))
  repeat'(first|exact ⟨⟩|exact rfl|exact fun _=>Iff.rfl|exact fun _ _=>rfl|exact qa rfl _|apply And.intro)
 rw [decide_eq_true h1,Bool.true_and] at hs
 rw[if_pos h1]
 conv=>whnf
 repeat(first|(refine brF rfl ?_;conv=>whnf)|(refine brT rfl ?_;conv=>whnf))
 by_cases h2:ttl<=2147483647
 case neg =>
  rw[hs,decide_eq_false h2]
  refine brT (decide_eq_true (by omega)) ?_
  conv=>whnf
  repeat(first|(refine brF rfl ?_;conv=>whnf)|(refine brT rfl ?_;conv=>whnf))
  repeat'(first|exact ⟨⟩|exact rfl|exact fun _=>Iff.rfl|exact fun _ _=>rfl|exact qa rfl _|apply And.intro)
 rw [decide_eq_true h2,Bool.true_and] at hs
 refine brF (decide_eq_false (by omega)) ?_
 conv=>whnf
 by_cases h3:0<l.length
 case neg =>
  rw[hs,show decide (0<l.length/\l.length<=64)=false from decide_eq_false (fun h=>h3 h.1),Bool.false_and]
  refine brT (decide_eq_true (by omega)) ?_
  conv=>whnf
  repeat(first|(refine brF rfl ?_;conv=>whnf)|(refine brT rfl ?_;conv=>whnf))
  repeat'(first|exact ⟨⟩|exact rfl|exact fun _=>Iff.rfl|exact fun _ _=>rfl|exact qa rfl _|apply And.intro)
 refine brF (decide_eq_false (by omega)) ?_
 conv=>whnf
 by_cases h4:l.length<=64
 case neg =>
  rw[hs,show decide (0<l.length/\l.length<=64)=false from decide_eq_false (fun h=>h4 h.2),Bool.false_and]
  refine brT (decide_eq_true (by omega)) ?_
  conv=>whnf
  repeat'(first|exact ⟨⟩|exact rfl|exact fun _=>Iff.rfl|exact fun _ _=>rfl|exact qa rfl _|apply And.intro)
 refine brF (decide_eq_false (by omega)) ?_
 rw [show decide (0<l.length/\l.length<=64)=true from decide_eq_true ⟨h3,h4⟩,Bool.true_and] at hs
 conv=>whnf
 obtain⟨R,hR⟩:∃ R,R=zj ty false [] l:=⟨_,rfl⟩
 rw [<-hR] at hs
 refine .inv Nat (fun i=>i<=l.length/\zj ty (decide (0<i)) (lastF ty l i) (l.drop i)=R) (fun i=>[(29,iV i)]) (fun _=>[]) (fun i=>l.length - i) ⟨0,[0],⟨Nat.zero_le _,hR.symm⟩,?_⟩ ?_
 ·conv=>whnf
  repeat'(first|exact ⟨⟩|exact rfl|exact fun _=>Iff.rfl|exact fun _ _=>rfl|exact qa rfl _|apply And.intro)
 rintro i ⟨hi,hrest⟩
 have hw1:=w64s i (by omega)
 conv=>whnf
 refine⟨fun c5=>?_,fun c5=>?_⟩
 ·have c5':i<l.length:=(by have h:(i:Int)<l.length:=of_decide_eq_true c5;omega)
  obtain⟨d,hd⟩:∃ d,l[i]?.getD []=d:=⟨_,rfl⟩
  have hda:l.drop i=d :: l.drop (i+1):=by
   rw[List.drop_eq_getElem_cons c5',<-hd,List.getElem?_eq_getElem c5']
   rfl
  have hdm:d ∈ l:=List.mem_of_mem_drop (i:=i) (by rw[hda];simp)
  have hlast:lastF ty l (i+1)=ju ty d:=by show ju ty (l[i]?.getD [])=_;rw[hd]
  rw [hda] at hrest
  unfold zj at hrest
  rw [<-hlast] at hrest
  conv=>whnf
  refine⟨by omega,?_⟩
  conv=>whnf
  rw[Int.toNat_natCast,hd]
  refine .data _ (jb1 ty d (hl d hdm)) rfl rfl ?_
  cases hc:qr ty d with
  |false =>
   rw [hc,Bool.false_and,Bool.false_and] at hrest
   rw[hs,<-hrest]
   conv=>whnf
   repeat(first|(refine brF rfl ?_;conv=>whnf)|(refine brT rfl ?_;conv=>whnf))
   repeat'(first|exact ⟨⟩|exact rfl|exact fun _=>Iff.rfl|exact fun _ _=>rfl|exact qa rfl _|apply And.intro)
  |true =>
   rw [hc,Bool.true_and] at hrest
   conv=>whnf
   repeat(first|(refine brF rfl ?_;conv=>whnf)|(refine brT rfl ?_;conv=>whnf))
   cases i with
   |zero =>
    refine brF (decide_eq_false (by omega)) ?_
    conv=>whnf
    repeat(first|(refine brF rfl ?_;conv=>whnf)|(refine brT rfl ?_;conv=>whnf))
    rw[hw1]
    refine⟨1,[0],⟨c5',?_⟩,by omega,?_⟩
    ·rw[<-hrest]
     rfl
    conv=>whnf
    repeat'(first|exact ⟨⟩|exact rfl|exact fun _=>Iff.rfl|exact fun _ _=>rfl|exact qa rfl _|apply And.intro)
   |succ j =>
    refine brT (decide_eq_true (by omega)) ?_
    obtain⟨e,he⟩:∃ e,l[j]?.getD []=e:=⟨_,rfl⟩
    have hem:e ∈ l:=by
     rw[<-he,List.getElem?_eq_getElem (by omega)]
     exact List.getElem_mem _
    have hle:lastF ty l (j+1)=ju ty e:=by show ju ty (l[j]?.getD [])=_;rw[he]
    have hw2:IntKind.i64.wrap (((j+1:Nat):Int) - 1)=(j:Int):=by rw[qn _ (by omega)];omega
    conv=>whnf
    rw[hw2]
    refine⟨by omega,?_⟩
    conv=>whnf
    rw[Int.toNat_natCast,he]
    refine .data _ (r4fold_ok ty e (hl e hem)) rfl rfl ?_
    conv=>whnf
    refine .data _ (r4fold_ok ty d (hl d hdm)) rfl rfl ?_
    rw [hle,hlast,decide_eq_true (by omega),Bool.true_and,ge_bl,Bool.not_not] at hrest
    cases hb:Op.bytesLess (ju ty e) (ju ty d) with
    |false =>
     rw [hb,Bool.false_and] at hrest
     rw[hs,<-hrest]
     refine brT (by rw[hb];rfl) ?_
     conv=>whnf
     repeat'(first|exact ⟨⟩|exact rfl|exact fun _=>Iff.rfl|exact fun _ _=>rfl|exact qa rfl _|apply And.intro)
    |true =>
     rw [hb,Bool.true_and] at hrest
     refine brF (by rw[hb];rfl) ?_
     conv=>whnf
     rw[hw1]
     refine⟨j+1+1,[0],⟨c5',?_⟩,by omega,?_⟩
     ·rw[<-hrest,hlast]
      simp
     conv=>whnf
     repeat'(first|exact ⟨⟩|exact rfl|exact fun _=>Iff.rfl|exact fun _ _=>rfl|exact qa rfl _|apply And.intro)
 ·have hia:i=l.length:=(by have h:¬ (i:Int)<l.length:=of_decide_eq_false c5;omega)
  rw [List.drop_of_length_le (by omega)] at hrest
  unfold zj at hrest
  rw[hs,<-hrest]
  conv=>whnf
  repeat'(first|exact ⟨⟩|exact rfl|exact fun _=>Iff.rfl|exact fun _ _=>rfl|exact qa rfl _|apply And.intro)
def ofH(nm:List UInt8)(ty:Int)(x:Held):Bool:=decide (x.ty=ty) && qv x.nm nm
theorem r14of_ok(x:Held)(nm:List UInt8)(ty:Int):FnOk Tryz.prog 164 [x.V,.d (.str nm),.d (.int .u16 ty)] (.d (.bool (ofH nm ty x))):=by
 refine qs (TT:=TT) (IN:=qf []) qe qi mixed 1000 Tryz.func164 rfl (qh Tryz.func164 (by kernel_rfl) rfl) rfl 18 (by kernel_rfl) ?_
 conv=>whnf
 by_cases h1:x.ty=ty
 ·rw[show ofH nm ty x=qv x.nm nm by unfold ofH;rw[decide_eq_true h1];rfl]
  refine brT (beq_iff_eq.2 h1) ?_
  conv=>whnf
  refine oD (r1same_ok x.nm nm) rfl rfl ?_
  conv=>whnf
  repeat'(first|exact ⟨⟩|exact rfl|exact fun _=>Iff.rfl|exact fun _ _=>rfl|exact qa rfl _|apply And.intro)
 ·rw[show ofH nm ty x=false by unfold ofH;rw[decide_eq_false h1];rfl]
  refine brF (beq_eq_false_iff_ne.2 h1) ?_
  conv=>whnf
  repeat'(first|exact ⟨⟩|exact rfl|exact fun _=>Iff.rfl|exact fun _ _=>rfl|exact qa rfl _|apply And.intro)
def w14(room:Int)(z:Bool)(H:List Held):SV:=.agg [.d (.int .i64 room),.d (heldsD z H)]
def betP(nm:List UInt8)(ty k now:Int)(x:Held):Bool:=ofH nm ty x && (decide (now<x.til) && decide (x.rank > k))
theorem r14better_ok(room:Int)(z:Bool)(H:List Held)(nm:List UInt8)(ty k now:Int)(hl:H.length<=1000000):FnOk Tryz.prog 104 [w14 room z H,.d (.str nm),.d (.int .u16 ty),.d (.int .u8 k),.d (.int .i64 now)] (.d (.bool (H.any (betP nm ty k now)))):=by
 refine qs (TT:=TT) (IN:=qf []) qe qi mixed 1000 Tryz.func104 rfl (qh Tryz.func104 (by kernel_rfl) rfl) rfl 33 (by kernel_rfl) ?_
 conv=>whnf
 refine .inv Nat (fun i=>i<=H.length/\(H.drop i).any (betP nm ty k now)=H.any (betP nm ty k now)) (fun i=>[(16,iV i)]) (fun _=>[]) (fun i=>H.length - i) ⟨0,[0],⟨Nat.zero_le _,rfl⟩,?_⟩ ?_
 ·conv=>whnf
  repeat'(first|exact ⟨⟩|exact rfl|exact fun _=>Iff.rfl|exact fun _ _=>rfl|exact qa rfl _|apply And.intro)
 rintro i ⟨hi,hrest⟩
 have hw1:=w64s i (by omega)
 conv=>whnf
 refine⟨fun c5=>?_,fun c5=>?_⟩
 ·have c5':i<H.length:=(by have h:(i:Int)<H.length:=of_decide_eq_true c5;omega)
  obtain⟨q,hq⟩:∃ q,H.getD i default=q:=⟨_,rfl⟩
  have hda:H.drop i=q :: H.drop (i+1):=by
   rw[List.drop_eq_getElem_cons c5',<-hq,List.getD,List.getElem?_eq_getElem c5']
   rfl
  rw [hda,List.any_cons] at hrest
  conv=>whnf
  refine⟨by omega,?_⟩
  conv=>whnf
  rw[Int.toNat_natCast,hq]
  refine oD (r14of_ok q nm ty) rfl rfl ?_
  have hb:betP nm ty k now q=(ofH nm ty q && (decide (now<q.til) && decide (q.rank > k))):=rfl
  have goOn:betP nm ty k now q=false->(H.drop (i+1)).any (betP nm ty k now)=H.any (betP nm ty k now):=fun h=>by rw [h,Bool.false_or] at hrest;exact hrest
  cases h1:ofH nm ty q with
  |false =>
   have:=goOn (by rw[hb,h1];rfl)
   conv=>whnf
   repeat(first|(refine brF rfl ?_;conv=>whnf)|(refine brT rfl ?_;conv=>whnf))
   rw[hw1]
   refine⟨i+1,[0],⟨c5',this⟩,by omega,?_⟩
   conv=>whnf
   repeat'(first|exact ⟨⟩|exact rfl|exact fun _=>Iff.rfl|exact fun _ _=>rfl|exact qa rfl _|apply And.intro)
  |true =>
   conv=>whnf
   repeat(first|(refine brF rfl ?_;conv=>whnf)|(refine brT rfl ?_;conv=>whnf))
   by_cases h2:now<q.til
   case neg =>
    have:=goOn (by rw[hb,h1,decide_eq_false h2];rfl)
    refine brF (decide_eq_false h2) ?_
    conv=>whnf
    repeat(first|(refine brF rfl ?_;conv=>whnf)|(refine brT rfl ?_;conv=>whnf))
    rw[hw1]
    refine⟨i+1,[0],⟨c5',this⟩,by omega,?_⟩
    conv=>whnf
    repeat'(first|exact ⟨⟩|exact rfl|exact fun _=>Iff.rfl|exact fun _ _=>rfl|exact qa rfl _|apply And.intro)
   refine brT (decide_eq_true h2) ?_
   conv=>whnf
   by_cases h3:q.rank > k
   case neg =>
    have:=goOn (by rw[hb,h1,decide_eq_false h3];simp)
    refine brF (decide_eq_false h3) ?_
    conv=>whnf
    rw[hw1]
    refine⟨i+1,[0],⟨c5',this⟩,by omega,?_⟩
    conv=>whnf
    repeat'(first|exact ⟨⟩|exact rfl|exact fun _=>Iff.rfl|exact fun _ _=>rfl|exact qa rfl _|apply And.intro)
   rw [show betP nm ty k now q=true by rw [hb,h1,decide_eq_true h2,decide_eq_true h3];rfl,Bool.true_or] at hrest
   rw[<-hrest]
   refine brT (decide_eq_true h3) ?_
   conv=>whnf
   repeat'(first|exact ⟨⟩|exact rfl|exact fun _=>Iff.rfl|exact fun _ _=>rfl|exact qa rfl _|apply And.intro)
 ·have hia:i=H.length:=(by have h:¬ (i:Int)<H.length:=of_decide_eq_false c5;omega)
  rw [List.drop_of_length_le (by omega)] at hrest
  rw[<-hrest]
  conv=>whnf
  repeat'(first|exact ⟨⟩|exact rfl|exact fun _=>Iff.rfl|exact fun _ _=>rfl|exact qa rfl _|apply And.intro)
def w8(h:Held)(x:Held):Bool:=!ofH h.nm h.ty x
structure P14 where
 i:Nat
 m:List Held
def p14S(m:List Held):SV:=match m with
 |[]=>.cs 3 0 1 1
 |_ :: _=>.all 4
def p14K(h:Held)(m:List Held):KB:=match m with
 |[]=>.gone
 |x :: r=>.row 234 8 (r.length+2) .no (fun j=>((h :: x :: r).getD j default).enc)
def p14C(h:Held)(m:List Held):KB:=match m with
 |[]=>.cells 234 (h.enc.map .d)
 |_ :: _=>.gone
theorem held_two(h q:Held)(j:Nat)(hj:j<2):catF 1 (q8 h.enc 8) (q8 q.enc 8) j=([h,q].getD j default).enc:=by
 match j,hj with
 |0,_=>rfl
 |1,_=>rfl
theorem filter_next{α:Type}(p:α->Bool){l:List α}{i:Nat}{x:α}(h:l[i]? = some x):(l.take (i+1)).filter p=(l.take i).filter p++(if p x then [x] else []):=by
 rw[List.take_add_one,h,List.filter_append]
 cases hp:p x <;> simp[hp]
theorem r14put_ok(room:Int)(z:Bool)(H:List Held)(h:Held)(hl:(H.length:Int)<room)(hr:room<=4096):FnOk Tryz.prog 105 [w14 room z H,h.V] (w14 room false (h :: H.filter (w8 h))):=by
 refine qs (TT:=TT) (IN:=qf []) qe qi mixed 1000 Tryz.func105 rfl (qh Tryz.func105 (by kernel_rfl) rfl) rfl 40 (by kernel_rfl) ?_
 conv=>whnf
 refine .pad ?_
 refine .inv P14 (fun x=>x.i<=H.length/\x.m=(H.take x.i).filter (w8 h)) (fun x=>[(13,iV x.i),(5,p14S x.m),(9,.any)]) (fun x=>[(3,p14C h x.m),(4,p14K h x.m)]) (fun x=>H.length - x.i) ⟨⟨0,[]⟩,[0,1,2,3,4],⟨Nat.zero_le _,rfl⟩,?_⟩ ?_
 ·conv=>whnf
  repeat'(first|exact ⟨⟩|exact rfl|exact(fun _ _ _ _ h=>⟨qb _,h⟩)|exact fun _=>Iff.rfl|exact fun _ _=>rfl|apply And.intro)
 rintro x ⟨hi,hm⟩
 have hml:x.m.length<=H.length:=by rw[hm];exact Nat.le_trans (List.length_filter_le ..) (by rw[List.length_take];omega)
 generalize x.i=i at hi hm ⊢
 generalize x.m=m at hm hml ⊢
 have hw1:i<H.length->IntKind.i64.wrap ((i:Int)+1)=((i+1:Nat):Int):=fun h=>by rw[qn _ (by omega)];omega
 rcases m with _|⟨x0,m⟩
 all_goals
  conv=>whnf
  refine⟨fun c5=>?_,fun c5=>?_⟩
  ·have c5':i<H.length:=(by have h:(i:Int)<H.length:=of_decide_eq_true c5;omega)
   obtain⟨q,hq⟩:∃ q,H.getD i default=q:=⟨_,rfl⟩
   have hqi:H[i]? = some q:=by rw[<-hq,List.getD,List.getElem?_eq_getElem c5'];rfl
   have hnx:=filter_next (w8 h) hqi
   rw [<-hm] at hnx
   conv=>whnf
   refine⟨by omega,?_⟩
   conv=>whnf
   rw[Int.toNat_natCast,hq]
   refine oD (r14of_ok q h.nm h.ty) rfl rfl ?_
   cases hof:ofH h.nm h.ty q with
   |true =>
    have hno:w8 h q=false:=by unfold w8;rw[hof];rfl
    rw [hno] at hnx
    conv=>whnf
    repeat(first|(refine brF rfl ?_;conv=>whnf)|(refine brT rfl ?_;conv=>whnf))
    rw[hw1 c5']
    first
     |refine⟨⟨i+1,x0 :: m⟩,[0,1,2,3,4],⟨c5',by rw[hnx];simp⟩,by show H.length - (i+1)<H.length - i;omega,?_⟩
     |refine⟨⟨i+1,[]⟩,[0,1,2,3,4],⟨c5',by rw[hnx];simp⟩,by show H.length - (i+1)<H.length - i;omega,?_⟩
    conv=>whnf
    repeat'(first|exact ⟨⟩|exact rfl|exact(fun _ _ _ _ h=>⟨qb _,h⟩)|exact fun _=>Iff.rfl|exact fun _ _=>rfl|apply And.intro)
   |false =>
    have hno:w8 h q=true:=by unfold w8;rw[hof];rfl
    rw [hno] at hnx
    conv=>whnf
    repeat(first|(refine brF rfl ?_;conv=>whnf)|(refine brT rfl ?_;conv=>whnf))
    refine ⟨by first|decide|(simp only [List.length_cons] at hml;omega),?_⟩
    conv=>whnf
    rw[hw1 c5']
    first
     |refine⟨⟨i+1,x0 :: m++[q]⟩,[0,1,2,3,7],⟨c5',by rw[hnx];simp⟩,by show H.length - (i+1)<H.length - i;omega,?_⟩
     |refine⟨⟨i+1,[]++[q]⟩,[0,1,2,3,7],⟨c5',by rw[hnx];simp⟩,by show H.length - (i+1)<H.length - i;omega,?_⟩
    conv=>whnf
    repeat'(first|exact ⟨⟩|exact rfl|exact(fun _ _ _ _ h=>⟨qb _,h⟩)|exact fun _=>Iff.rfl|exact fun _ _=>rfl|apply And.intro)
    all_goals first
     |exact(show m.length+2+1=(m++[q]).length+2 by simp)
     |exact fun j hj=>held_two h q j hj
     |exact fun j hj=>held_cat (h :: x0 :: m) q j hj
  ·have c5':i=H.length:=(by have h:¬ (i:Int)<H.length:=of_decide_eq_false c5;omega)
   subst c5'
   rw [List.take_length] at hm
   rw[<-hm]
   conv=>whnf
   first
    |rw [show (if room<((m.length+2:Nat):Int) then room else ((m.length+2:Nat):Int))=((m.length+2:Nat):Int) from if_neg (by simp only [List.length_cons] at hml;omega)]
    |rw[show(if room<((1:Nat):Int) then room else ((1:Nat):Int))=((1:Nat):Int) from if_neg (by omega)]
   refine⟨by first|exact⟨by omega,by omega,by omega,by omega,.inr rfl⟩|exact⟨by omega,by omega,by omega⟩,?_⟩
   conv=>whnf
   repeat'(first|exact ⟨⟩|exact rfl|exact fun _=>Iff.rfl|exact fun _ _=>rfl|exact qa rfl _|apply And.intro)
   all_goals first
    |exact(show(0:Nat)<8 by decide)
    |exact .inr rfl
    |(show 0+(((m.length+2:Nat):Int) - 0).toNat<=m.length+2;omega)
    |(
     intro j hj
     have hj:j<(((1:Nat):Int) - 0).toNat:=hj
     have:j=0:=by omega
     subst this
     rfl)
    |(
     intro j hj
     show((h :: x0 :: m).getD (0+j) default).enc=_
     rw[Nat.zero_add])
theorem r14new_ok:FnOk Tryz.prog 41 [.d (.int .i64 64)] (.tup [w14 64 true [],.d (.bool true)]):=by
 refine qs (TT:=TT) (IN:=qf []) qe qi mixed 1000 Tryz.func41 rfl (qh Tryz.func41 (by kernel_rfl) rfl) rfl 11 (by kernel_rfl) ?_
 conv=>whnf
 repeat(first|(refine brF rfl ?_;conv=>whnf)|(refine brT rfl ?_;conv=>whnf))
 repeat'(first|exact ⟨⟩|exact rfl|exact fun _=>Iff.rfl|exact fun _ _=>rfl|exact qa rfl _|apply And.intro)
 all_goals first|exact .inl rfl|exact .inr rfl|exact fun i hi=>absurd hi (Nat.not_lt_zero _)
def yx(H:List Held)(nm:List UInt8)(ty ttl:Int)(l:List (List UInt8))(k now:Int):Bool:=jn nm ty ttl l && (ty != 0 && (decide (1<=k) && (decide (k<=4) && (ttl != 0 && (decide (0<=now) && (decide (now<=4611686018427387904) && !H.any (betP nm ty k now)))))))
def put14V(room:Int)(b:Bool)(H:List Held)(h:Held):Bool->SV
 |true=>.tup [w14 room false (h :: H.filter (w8 h)),.d (.bool true)]
 |false=>.tup [w14 room b H,.d (.bool false)]
def new14(nm:List UInt8)(ty ttl:Int)(z:Bool)(l:List (List UInt8))(k now:Int):Held:=⟨nm,ty,ttl,z,l,k,false,false,now+(if 604800<ttl then 604800 else ttl)⟩
theorem r14Put_ok(room:Int)(b:Bool)(H:List Held)(nm:List UInt8)(ty ttl:Int)(z:Bool)(l:List (List UInt8))(k now:Int)(hl:(H.length:Int)<room)(hr:room<=4096)(hd:∀ d ∈ l,d.length<=2000000)(httl:0<=ttl/\ttl<=4294967295) :
 FnOk Tryz.prog 42 [w14 room b H,setV nm ty ttl z l,.d (.int .u8 k),.d (.int .i64 now)] (put14V room b H (new14 nm ty ttl z l k now) (yx H nm ty ttl l k now)):=by
 refine qs (TT:=TT) (IN:=qf []) qe qi mixed 1000 Tryz.func42 rfl (qh Tryz.func42 (by kernel_rfl) rfl) rfl 58 (by kernel_rfl) ?_
 have hp:yx H nm ty ttl l k now=(jn nm ty ttl l && (ty != 0 && (decide (1<=k) && (decide (k<=4) && (ttl != 0 && (decide (0<=now) && (decide (now<=4611686018427387904) && !H.any (betP nm ty k now)))))))):=rfl
 conv=>whnf
 refine oD (r13chk_ok nm ty ttl z l hd) rfl rfl ?_
 cases h1:jn nm ty ttl l with
 |false =>
  rw[show yx H nm ty ttl l k now=false by rw[hp,h1];rfl]
  conv=>whnf
  repeat(first|(refine brF rfl ?_;conv=>whnf)|(refine brT rfl ?_;conv=>whnf))
  repeat'(first|exact ⟨⟩|exact rfl|exact fun _=>Iff.rfl|exact fun _ _=>rfl|exact qa rfl _|apply And.intro)
  all_goals first|exact .inl rfl|exact .inr rfl|exact fun i hi=>absurd hi (Nat.not_lt_zero _)|exact fun i _=>rfl
 |true =>
  rw [h1,Bool.true_and] at hp
  conv=>whnf
  repeat(first|(refine brF rfl ?_;conv=>whnf)|(refine brT rfl ?_;conv=>whnf))
  by_cases h2:ty=0
  ·rw[show yx H nm ty ttl l k now=false by rw[hp,h2];rfl]
   refine brT (beq_iff_eq.2 h2) ?_
   conv=>whnf
   repeat(first|(refine brF rfl ?_;conv=>whnf)|(refine brT rfl ?_;conv=>whnf))
   repeat'(first|exact ⟨⟩|exact rfl|exact fun _=>Iff.rfl|exact fun _ _=>rfl|exact qa rfl _|apply And.intro)
   all_goals first|exact .inl rfl|exact .inr rfl|exact fun i hi=>absurd hi (Nat.not_lt_zero _)|exact fun i _=>rfl
  rw [show (ty != 0)=true from bne_iff_ne.2 h2,Bool.true_and] at hp
  refine brF (beq_eq_false_iff_ne.2 h2) ?_
  conv=>whnf
  by_cases h3:1<=k
  case neg =>
   rw[show yx H nm ty ttl l k now=false by rw[hp,decide_eq_false h3];rfl]
   refine brT (decide_eq_true (by omega)) ?_
   conv=>whnf
   repeat(first|(refine brF rfl ?_;conv=>whnf)|(refine brT rfl ?_;conv=>whnf))
   repeat'(first|exact ⟨⟩|exact rfl|exact fun _=>Iff.rfl|exact fun _ _=>rfl|exact qa rfl _|apply And.intro)
   all_goals first|exact .inl rfl|exact .inr rfl|exact fun i hi=>absurd hi (Nat.not_lt_zero _)|exact fun i _=>rfl
  rw [decide_eq_true h3,Bool.true_and] at hp
  refine brF (decide_eq_false (by omega)) ?_
  conv=>whnf
  by_cases h4:k<=4
  case neg =>
   rw[show yx H nm ty ttl l k now=false by rw[hp,decide_eq_false h4];rfl]
   refine brT (decide_eq_true (by omega)) ?_
   conv=>whnf
   repeat(first|(refine brF rfl ?_;conv=>whnf)|(refine brT rfl ?_;conv=>whnf))
   repeat'(first|exact ⟨⟩|exact rfl|exact fun _=>Iff.rfl|exact fun _ _=>rfl|exact qa rfl _|apply And.intro)
   all_goals first|exact .inl rfl|exact .inr rfl|exact fun i hi=>absurd hi (Nat.not_lt_zero _)|exact fun i _=>rfl
  rw [decide_eq_true h4,Bool.true_and] at hp
  refine brF (decide_eq_false (by omega)) ?_
  conv=>whnf
  by_cases h5:ttl=0
  ·rw[show yx H nm ty ttl l k now=false by rw[hp,h5];rfl]
   refine brT (beq_iff_eq.2 h5) ?_
   conv=>whnf
   repeat(first|(refine brF rfl ?_;conv=>whnf)|(refine brT rfl ?_;conv=>whnf))
   repeat'(first|exact ⟨⟩|exact rfl|exact fun _=>Iff.rfl|exact fun _ _=>rfl|exact qa rfl _|apply And.intro)
   all_goals first|exact .inl rfl|exact .inr rfl|exact fun i hi=>absurd hi (Nat.not_lt_zero _)|exact fun i _=>rfl
  rw [show (ttl != 0)=true from bne_iff_ne.2 h5,Bool.true_and] at hp
  refine brF (beq_eq_false_iff_ne.2 h5) ?_
  conv=>whnf
  by_cases h6:0<=now
  case neg =>
   rw[show yx H nm ty ttl l k now=false by rw[hp,decide_eq_false h6];rfl]
   refine brT (decide_eq_true (by omega)) ?_
   conv=>whnf
   repeat(first|(refine brF rfl ?_;conv=>whnf)|(refine brT rfl ?_;conv=>whnf))
   repeat'(first|exact ⟨⟩|exact rfl|exact fun _=>Iff.rfl|exact fun _ _=>rfl|exact qa rfl _|apply And.intro)
   all_goals first|exact .inl rfl|exact .inr rfl|exact fun i hi=>absurd hi (Nat.not_lt_zero _)|exact fun i _=>rfl
  rw [decide_eq_true h6,Bool.true_and] at hp
  refine brF (decide_eq_false (by omega)) ?_
  conv=>whnf
  by_cases h7:now<=4611686018427387904
  case neg =>
   rw[show yx H nm ty ttl l k now=false by rw[hp,decide_eq_false h7];rfl]
   refine brT (decide_eq_true (by omega)) ?_
   conv=>whnf
   repeat(first|(refine brF rfl ?_;conv=>whnf)|(refine brT rfl ?_;conv=>whnf))
   repeat'(first|exact ⟨⟩|exact rfl|exact fun _=>Iff.rfl|exact fun _ _=>rfl|exact qa rfl _|apply And.intro)
   all_goals first|exact .inl rfl|exact .inr rfl|exact fun i hi=>absurd hi (Nat.not_lt_zero _)|exact fun i _=>rfl
  rw [decide_eq_true h7,Bool.true_and] at hp
  refine brF (decide_eq_false (by omega)) ?_
  conv=>whnf
  refine oD (r14better_ok room b H nm ty k now (by omega)) rfl rfl ?_
  cases h8:H.any (betP nm ty k now) with
  |true =>
   rw[show yx H nm ty ttl l k now=false by rw[hp,h8];rfl]
   conv=>whnf
   repeat(first|(refine brF rfl ?_;conv=>whnf)|(refine brT rfl ?_;conv=>whnf))
   repeat'(first|exact ⟨⟩|exact rfl|exact fun _=>Iff.rfl|exact fun _ _=>rfl|exact qa rfl _|apply And.intro)
   all_goals first|exact .inl rfl|exact .inr rfl|exact fun i hi=>absurd hi (Nat.not_lt_zero _)|exact fun i _=>rfl
  |false =>
   rw[show yx H nm ty ttl l k now=true by rw[hp,h8];rfl]
   conv=>whnf
   repeat(first|(refine brF rfl ?_;conv=>whnf)|(refine brT rfl ?_;conv=>whnf))
   have hmn:(if 604800<ttl then (604800:Int) else ttl)<=604800/\0<=(if 604800<ttl then (604800:Int) else ttl):=by split <;> omega
   have hwr:IntKind.i64.wrap (now+IntKind.i64.wrap (if 604800<ttl then 604800 else ttl))=now+(if 604800<ttl then 604800 else ttl):=by
    rw[qn (if 604800<ttl then (604800:Int) else ttl) (by omega),qn _ (by omega)]
   rw[hwr]
   refine oD ((r14put_ok room b H (new14 nm ty ttl z l k now) hl hr).convA (args':=[w14 room b H,.agg [.d (.str nm),.d (.int .u16 ty),.d (.int .u32 ttl),.d (.sl z l.length 1 (strs l)),.d (.int .u8 k),.d .ff,.d .ff,.d (.int .i64 (now+(if 604800<ttl then 604800 else ttl)))]]) ⟨.refl _,.aggL ⟨.refl _,.refl _,.refl _,.refl _,.refl _,.d .fb,.d .fb,.refl _,trivial⟩,trivial⟩) rfl rfl ?_
   conv=>whnf
   repeat'(first|exact ⟨⟩|exact rfl|exact fun _=>Iff.rfl|exact fun _ _=>rfl|exact qa rfl _|apply And.intro)
   all_goals first|exact .inl rfl|exact .inr rfl|exact fun i hi=>absurd hi (Nat.not_lt_zero _)|exact fun i _=>rfl
theorem mapM_q(σ:Nat->Nat)(i:Nat)(l:List (List UInt8 × Int × Nat)):mapM σ (entL i l)=entL (σ i) l:=by
 induction l with
 |nil=>rfl
 |cons e l ih=>simp[entL,mapM,ent,mapL,mapV,ih]
theorem qd0(c:CSt){σ:Nat->Nat}{p:Nat}(h1:σ 1=p+1)(h2:σ 2=p+2):mapB σ (c.ks 0)=c.ks p:=by
 show[KB.cells 307 [.d (.int .i64 c.room),.np (σ 1) c.r,.map (σ 2)],KB.arena 304 c.dom [.str c.nm,.int .u16 c.ty,.int .u32 c.ttl,.sl 1 c.ni c.ln c.dg,.int .u8 c.rk,.bool c.no,.bool c.nb,.int .i64 c.til,.str c.an,.int .u16 c.ak,.np (σ 1) c.bf,.np (σ 1) c.bh],KB.map [EK.str,EK.int IntKind.u16] true false (mapM σ (entL 1 c.m))]=_
 rw[mapM_q,h1,h2]
 rfl
theorem ckq{P:Program}{f:FuncId}{al al':List SV}{c:CSt}{Q:SV->CSt->Prop}(h:COk P f al (c.ks 0) (fun s k=>∃ c1,k=CSt.ks c1 0/\Q s c1))(pre rest:List KB)(σ:Nat->Nat)(hσ:σ=sig (List.range' pre.length 3) (pre.length+(3+rest.length)))(ha:mapL σ al=al') :
 COk P f al' (pre++(c.ks pre.length++rest)) (fun s k=>∃ s0 c1,Q s0 c1/\s=mapV σ s0/\k=pre++(CSt.ks c1 pre.length++rest)):=by
 have h1:σ 1=pre.length+1:=by rw[hσ];rfl
 have h2:σ 2=pre.length+2:=by rw[hσ];rfl
 have:=h.among pre rest (σ:=σ) (fun s k hs=>by obtain⟨c',rfl,_⟩:=hs;exact Nat.le_refl _) hσ
 rw [qd0 c h1 h2,ha] at this
 refine this.imp fun s k ⟨s0,k1,⟨c',hk1,hr⟩,hs,hk⟩=>?_
 subst hk1
 refine⟨s0,c',hr,hs,?_⟩
 rw[hk,show(c'.ks 0).take (c.ks 0).length=c'.ks 0 from rfl,show(c'.ks 0).drop (c.ks 0).length=[] from rfl,qd0 c' h1 h2]
 show pre++(c'.ks pre.length++(rest++[]))=_
 rw[List.append_nil]
def CSt.klq(c:CSt)(p:Nat):List (Nat × KB):=[(p,.cells 307 [.d (.int .i64 c.room),.np (p+1) c.r,.map (p+2)]),(p+1,.arena 304 c.dom (c.cols (p+1))),(p+2,.map [EK.str,EK.int .u16] true false (entL (p+1) c.m))]
theorem newq(room:Int)(hrm:1<=room/\room<=4096)(pre:List KB):COk Tryz.prog 39 [.d (.int .i64 room)] pre (fun s k=>s = .tup [.ptr pre.length 0,.d (.int .i64 0)]/\∃ c:CSt,k=pre++c.ks pre.length/\c.Rep [] []/\c.room=room):=by
 have:=(new2_ok room hrm).among pre [] (fun s k _=>Nat.zero_le _) rfl
 have e:pre++(mapB (sig (List.range' pre.length ([]:List KB).length) (pre.length+(([]:List KB).length+([]:List KB).length))) []++[])=pre:=by simp[mapB]
 rw [e] at this
 refine this.imp fun s k ⟨s0,k1,⟨hr,c,hc,h1,h2⟩,hs,hk⟩=>?_
 subst hr hc
 refine⟨hs,c,?_,h1,h2⟩
 rw[hk]
 show pre++([]++([]++mapB _ (c.ks 0)))=_
 rw[qd0 c (σ:=sig (List.range' pre.length ([]:List KB).length) (pre.length+(([]:List KB).length+([]:List KB).length))) (p:=pre.length) rfl rfl]
 rfl
def accL(H:List Held)(h:Held):Bool->List Held
 |true=>h :: H.filter (fun y=>!plEq h y)
 |false=>H
def PutQ(H:List Held)(h:Held)(acc:Bool)(room:Int)(s:SV)(c1:CSt):Prop:=∃ L1,s = .d (match acc with|true=>.tt|false=>.ff)/\c1.Rep L1 (accL H h acc)/\c1.room=room
theorem accQ{c:CSt}{L:List Nat}{H:List Held}(hr:c.Rep L H){h:Held}{acc:Bool}{s:SV}{k:List KB}(ha:AccS c H h acc s k):∃ c1,k=CSt.ks c1 0/\PutQ H h acc c.room s c1:=by
 rcases ha with⟨rfl,rfl,rfl⟩|⟨rfl,rfl,c',L',rfl,h1,h2⟩
 ·exact⟨c,rfl,L,rfl,hr,rfl⟩
 ·exact⟨c',rfl,L',rfl,h1,h2⟩
structure Pu where
 nm:List UInt8
 ty:Int
 ttl:Int
 z:Bool
 data:List (List UInt8)
 rank:Int
 now:Int
instance:Inhabited Pu:=⟨⟨[],0,0,true,[],0,0⟩⟩
def Pu.enc(p:Pu):List DV:=[.str p.nm,.int .u16 p.ty,.int .u32 p.ttl,.sl p.z p.data.length 1 (strs p.data),.int .u8 p.rank,.int .i64 p.now]
def pusD(z:Bool)(l:List Pu):DV:=.sl z l.length 6 (fun i=>(l.getD i default).enc)
structure Pu.Ok(p:Pu):Prop where
 ty:0<=p.ty/\p.ty<=65535
 z:p.z=true->p.data.length=0
 ttl:0<=p.ttl/\p.ttl<=4294967295
 d:∀ d ∈ p.data,d.length<=2000000
def Pu.held(p:Pu):Held:=⟨p.nm,p.ty,p.ttl,p.z,p.data,p.rank,false,false,p.now+mn p.ttl 604800⟩
def Good(H:List Held):Prop:=∀ h ∈ H,h.ok=true/\h.In
theorem ok_name{h:Held}(hk:h.ok=true):qc h.nm:=held_name hk
theorem of_pl{H:List Held}(hg:Good H){h:Held}(hn:qc h.nm):∀ y ∈ H,ofH h.nm h.ty y=plEq h y:=fun y hy=>by
 have hy1:=ok_name (hg y hy).1
 unfold ofH plEq qv
 rw[decide_eq_true hy1,decide_eq_true hn,Bool.true_and,Bool.true_and,Bool.eq_iff_iff]
 simp only[Bool.and_eq_true,decide_eq_true_eq,beq_iff_eq]
 exact And.comm
theorem any_congr{α:Type}{p q:α->Bool}:∀ {l:List α},(∀ x ∈ l,p x=q x)->l.any p=l.any q
 |[],_=>rfl
 |a :: l,h=>by rw[List.any_cons,List.any_cons,h a (List.mem_cons_self ..),any_congr (l:=l) fun x hx=>h x (List.mem_cons_of_mem _ hx)]
theorem acc_eq{H:List Held}(hg:Good H)(p:Pu):(z6 p.nm p.ty p.ttl p.data p.rank && !refH H p.held (mn p.ttl 604800) p.now)=yx H p.nm p.ty p.ttl p.data p.rank p.now:=by
 unfold z6 yx
 cases h1:jn p.nm p.ty p.ttl p.data with
 |false=>rfl
 |true =>
  have hn:qc p.nm:=by
   unfold jn at h1
   simp only [Bool.and_eq_true,decide_eq_true_eq] at h1
   exact h1.1.1.1
  have hany:H.any (betP p.nm p.ty p.rank p.now)=H.any (fun y=>plEq p.held y && (decide (p.now<y.til) && decide (p.held.rank<y.rank))):=any_congr fun y hy=>by
   unfold betP
   rw[show ofH p.nm p.ty y=plEq p.held y from of_pl hg (h:=p.held) hn y hy]
   rfl
  rw[hany]
  unfold refH
  generalize H.any (fun y=>plEq p.held y && (decide (p.now<y.til) && decide (p.held.rank<y.rank)))=A
  have hmn:(mn p.ttl 604800=0)↔p.ttl=0:=by unfold mn;split <;> omega
  rw[Bool.true_and,Bool.true_and,Bool.eq_iff_iff]
  simp only[Bool.and_eq_true,Bool.not_eq_true',Bool.or_eq_false_iff,decide_eq_false_iff_not,decide_eq_true_eq,bne_iff_ne,hmn]
  constructor
  ·rintro ⟨⟨a1,a2,a3⟩,a4,a5,a6,a7⟩
   exact⟨a1,a2,a3,a4,by omega,by omega,a7⟩
  ·rintro ⟨a1,a2,a3,a4,a5,a6,a7⟩
   exact⟨⟨a1,a2,a3⟩,a4,by omega,by omega,a7⟩
theorem filt_eq{H:List Held}(hg:Good H){h:Held}(hn:qc h.nm):H.filter (w8 h)=H.filter (fun y=>!plEq h y) :=
 List.filter_congr fun y hy=>by unfold w8;rw[of_pl hg hn y hy]
theorem good_put{H:List Held}(hg:Good H)(p:Pu)(hp:p.Ok)(h:yx H p.nm p.ty p.ttl p.data p.rank p.now=true):Good (p.held :: H.filter (fun y=>!plEq p.held y)):=fun x hx=>by
 rcases List.mem_cons.1 hx with rfl|hx
 ·unfold yx at h
  simp only [Bool.and_eq_true,decide_eq_true_eq,bne_iff_ne] at h
  obtain⟨h1,h2,h3,h4,h5,h6,h7,h8⟩:=h
  have hmn:0<=mn p.ttl 604800/\mn p.ttl 604800<=604800:=by have:=hp.ttl;unfold mn;split <;> omega
  have ht:0<=p.held.til/\p.held.til<=4611686018428436480:=by
   show 0<=p.now+mn p.ttl 604800/\p.now+mn p.ttl 604800<=4611686018428436480
   omega
  refine⟨?_,⟨hp.ty,hp.ttl,?_,?_⟩⟩
  ·rw[Held.ok_set ht rfl]
   show(decide (false=false/\1<=p.rank/\p.rank<=4) && jn p.nm p.ty p.ttl p.data)=true
   rw[h1,decide_eq_true ⟨rfl,h3,h4⟩]
   rfl
  ·show 0<=p.rank/\p.rank<=255;omega
  ·omega
 ·exact hg x (List.mem_filter.1 hx).1
structure HSt where
 i:Nat
 c:CSt
 L:List Nat
 H:List Held
 z:Bool
def PutH(H:List Held):Prop:=∀ h ∈ H,h.no=false/\h.name=false/\h.ty≠0
def HeldR(s:SV)(k:List KB):Prop:=∃ (c:CSt) (L:List Nat) (H:List Held) (zz:Bool),s = .tup [.ptr 0 0,w14 64 zz H,.d .tt]/\k=c.ks 0/\c.Rep L H/\c.room=64/\H.length<=40/\Good H/\PutH H
theorem held16_ok(z:Bool)(l:List Pu)(hl:l.length<=1048576)(hok:∀ p ∈ l,p.Ok):COk Tryz.prog 9 [.d (pusD z l)] [] HeldR:=by
 refine jk (TT:=TT) (IN:=qf []) qe qi mixed 1000 Tryz.func9 rfl (qh Tryz.func9 (by kernel_rfl) rfl) 76 (by kernel_rfl) ?_
 conv=>whnf
 refine .rel _ (newq 64 (by decide) [_]) (fun r ks' hR=>?_)
 obtain⟨rfl,c,rfl,hr0,hroom0⟩:=hR
 conv=>whnf
 refine oD r14new_ok rfl rfl ?_
 conv=>whnf
 repeat(first|(refine brF rfl ?_;conv=>whnf)|(refine brT rfl ?_;conv=>whnf))
 refine .inv HSt (fun x=>x.i<=l.length/\x.i<=40/\x.c.Rep x.L x.H/\x.c.room=64/\x.H.length<=x.i/\Good x.H/\PutH x.H) (fun x=>[(30,iV x.i)]) (fun x=>x.c.klq 1++[(4,.cells 32 [.d (.int .i64 64),.d (heldsD x.z x.H)])]) (fun x=>l.length - x.i) ⟨⟨0,c,[],[],true⟩,[0,1,2,3,4],⟨Nat.zero_le _,Nat.zero_le _,hr0,hroom0,Nat.le_refl _,(fun h hh=>by cases hh),fun h hh=>by cases hh⟩,?_⟩ ?_
 ·conv=>whnf
  repeat'(first|exact ⟨⟩|exact rfl|exact(fun _ _ _ _ h=>⟨qb _,h⟩)|exact fun _=>Iff.rfl|exact fun _ _=>rfl|apply And.intro)
  all_goals exact qa rfl _
 rintro x ⟨k1,k2,k3,k4,k5,k6,k7⟩
 generalize x.i=i at k1 k2 k5 ⊢
 generalize x.c=c at k3 k4 ⊢
 generalize x.L=L at k3 ⊢
 generalize x.H=H at k3 k5 k6 k7 ⊢
 generalize x.z=zz
 conv=>whnf
 refine⟨fun c5=>?_,fun c5=>?_⟩
 ·have c5':i<l.length:=(by have h:(i:Int)<l.length:=of_decide_eq_true c5;omega)
  have hw1:=w64s i (by omega)
  obtain⟨p,hp⟩:∃ p,l.getD i default=p:=⟨_,rfl⟩
  have hpi:l[i]? = some p:=by rw[<-hp,List.getD,List.getElem?_eq_getElem c5'];rfl
  have hpo:=hok p (List.mem_of_getElem? hpi)
  conv=>whnf
  refine⟨by omega,?_⟩
  conv=>whnf
  rw[Int.toNat_natCast,hp]
  by_cases h1:i=40
  ·refine brT (by rw[beq_iff_eq];omega) ?_
   conv=>whnf
   repeat(first|(refine brF rfl ?_;conv=>whnf)|(refine brT rfl ?_;conv=>whnf))
   conv=>whnf
   refine⟨[1,2,3],.tup [.ptr 0 0,w14 64 zz H,.d .tt],c.ks 0,rfl,rfl,rfl,?_,c,L,H,_,rfl,rfl,k3,k4,by omega,k6,k7⟩
   repeat'(first|exact ⟨⟩|exact rfl|exact(fun _ _ _ _ h=>⟨qb _,h⟩)|exact fun _=>Iff.rfl|exact fun _ _=>rfl|apply And.intro)
   all_goals exact qa rfl _
  refine brF (by rw[beq_eq_false_iff_ne];omega) ?_
  conv=>whnf
  by_cases h2:p.data.length > 100
  ·refine brT (decide_eq_true (by omega)) ?_
   conv=>whnf
   repeat(first|(refine brF rfl ?_;conv=>whnf)|(refine brT rfl ?_;conv=>whnf))
   conv=>whnf
   refine⟨[1,2,3],.tup [.ptr 0 0,w14 64 zz H,.d .tt],c.ks 0,rfl,rfl,rfl,?_,c,L,H,_,rfl,rfl,k3,k4,by omega,k6,k7⟩
   repeat'(first|exact ⟨⟩|exact rfl|exact(fun _ _ _ _ h=>⟨qb _,h⟩)|exact fun _=>Iff.rfl|exact fun _ _=>rfl|apply And.intro)
   all_goals exact qa rfl _
  refine brF (decide_eq_false (by omega)) ?_
  conv=>whnf
  by_cases h3:p.nm.length > 1000
  ·refine brT (decide_eq_true (by omega)) ?_
   conv=>whnf
   refine⟨[1,2,3],.tup [.ptr 0 0,w14 64 zz H,.d .tt],c.ks 0,rfl,rfl,rfl,?_,c,L,H,_,rfl,rfl,k3,k4,by omega,k6,k7⟩
   repeat'(first|exact ⟨⟩|exact rfl|exact(fun _ _ _ _ h=>⟨qb _,h⟩)|exact fun _=>Iff.rfl|exact fun _ _=>rfl|apply And.intro)
   all_goals exact qa rfl _
  refine brF (decide_eq_false (by omega)) ?_
  conv=>whnf
  refine .one (.data _ (r14Put_ok 64 zz H p.nm p.ty p.ttl p.z p.data p.rank p.now (by omega) (by decide) hpo.d hpo.ttl) rfl (by cases yx H p.nm p.ty p.ttl p.data p.rank p.now <;> rfl) ?_)
  have hPut:COk Tryz.prog 40 [.ptr 0 0,setV p.nm p.ty p.ttl p.z p.data,.d (.int .u8 p.rank),.d (.int .i64 p.now)] (c.ks 0) (fun s k=>∃ c1,k=CSt.ks c1 0/\PutQ H p.held (yx H p.nm p.ty p.ttl p.data p.rank p.now) c.room s c1):=by
   rw[<-acc_eq k6 p]
   exact(put2_ok c L H k3 (by omega) p.nm p.ty p.ttl p.z p.data p.rank p.now hpo.z hpo.ttl.1).imp fun _ _ h=>accQ k3 h
  cases hput:yx H p.nm p.ty p.ttl p.data p.rank p.now with
  |false =>
   rw [hput] at hPut
   conv=>whnf
   refine .rel _ (ckq hPut [_] [_,_,_] _ rfl rfl) (fun r ks' hR=>?_)
   obtain⟨_,c1,⟨L1,rfl,hr1,hroom1⟩,rfl,rfl⟩:=hR
   conv=>whnf
   repeat(first|(refine brF rfl ?_;conv=>whnf)|(refine brT rfl ?_;conv=>whnf))
   rw[hw1]
   refine⟨⟨i+1,c1,L1,H,zz⟩,[0,1,2,3,4],⟨c5',by show i+1<=40;omega,hr1,by rw[hroom1,k4],by show H.length<=i+1;omega,k6,k7⟩,by show l.length - (i+1)<l.length - i;omega,?_⟩
   conv=>whnf
   repeat'(first|exact ⟨⟩|exact rfl|exact(fun _ _ _ _ h=>⟨qb _,h⟩)|exact fun _=>Iff.rfl|exact fun _ _=>rfl|apply And.intro)
   all_goals exact qa rfl _
  |true =>
   rw [hput] at hPut
   have hn:qc p.held.nm:=ok_name (good_put k6 p hpo hput p.held (List.mem_cons_self ..)).1
   have hfe:H.filter (w8 (new14 p.nm p.ty p.ttl p.z p.data p.rank p.now))=H.filter (fun y=>!plEq p.held y):=filt_eq k6 (h:=p.held) hn
   have hfl:(H.filter (fun y=>!plEq p.held y)).length<=H.length:=List.length_filter_le ..
   have hgp:=good_put k6 p hpo hput
   have hpp:PutH (p.held :: H.filter (fun y=>!plEq p.held y)):=fun x hx=>by
    rcases List.mem_cons.1 hx with rfl|hx
    ·refine⟨rfl,rfl,?_⟩
     unfold yx at hput
     simp only [Bool.and_eq_true,bne_iff_ne] at hput
     exact hput.2.1
    ·exact k7 x (List.mem_filter.1 hx).1
   unfold put14V
   rw[hfe]
   conv=>whnf
   refine .rel _ (ckq hPut [_] [_,_,_] _ rfl rfl) (fun r ks' hR=>?_)
   obtain⟨_,c1,⟨L1,rfl,hr1,hroom1⟩,rfl,rfl⟩:=hR
   conv=>whnf
   repeat(first|(refine brF rfl ?_;conv=>whnf)|(refine brT rfl ?_;conv=>whnf))
   rw[hw1]
   refine⟨⟨i+1,c1,L1,p.held :: H.filter (fun y=>!plEq p.held y),false⟩,[0,1,2,3,4],⟨c5',by show i+1<=40;omega,hr1,by rw[hroom1,k4],by show(H.filter (fun y=>!plEq p.held y)).length+1<=i+1;omega,hgp,hpp⟩,by show l.length - (i+1)<l.length - i;omega,?_⟩
   conv=>whnf
   repeat'(first|exact ⟨⟩|exact rfl|exact(fun _ _ _ _ h=>⟨qb _,h⟩)|exact fun _=>Iff.rfl|exact fun _ _=>rfl|apply And.intro)
   all_goals exact qa rfl _
 ·conv=>whnf
  refine⟨[1,2,3],.tup [.ptr 0 0,w14 64 zz H,.d .tt],c.ks 0,rfl,rfl,rfl,?_,c,L,H,_,rfl,rfl,k3,k4,by omega,k6,k7⟩
  repeat'(first|exact ⟨⟩|exact rfl|exact(fun _ _ _ _ h=>⟨qb _,h⟩)|exact fun _=>Iff.rfl|exact fun _ _=>rfl|apply And.intro)
  all_goals exact qa rfl _
end Go.Proofs.YtiiafibkblpbcaaGreat
