/-
  Part of the proof: lemmas about the functions that the row calls, and about the steps of a run. Conditions: those ahead of each lemma.
-/
import Derived.Test.YtiiafibkblpbcaaGreatRows
import Derived.KernelRfl
import Derived.Shelf.Strings.OnBuilder
import Derived.Shelf.Small.Strs
import Derived.Test.YtiiafibkblpbcaaGreatProg
import Derived.Laws.BitsAllLaws
import Derived.Shelf.Strings.Builder1
import Derived.Test.YtiiafibkblpbcaaGreatM4
import Derived.Test.YtiiafibkblpbcaaGreatM1
set_option linter.unusedVariables false
set_option linter.unusedSimpArgs false
set_option maxRecDepth 100000
set_option maxHeartbeats 64000000
namespace Go.Proofs.YtiiafibkblpbcaaGreat
open Go Go.Eng
def types:List (Nat × TI):=[
 (2,⟨1,8,false,[.d (.int .i64 0)],.int .i64,[]⟩),
 (3,⟨1,8,false,[.d (.int .i64 0)],.int .i64,[]⟩),
 (4,⟨1,1,false,[.d .ff],.bool,[]⟩),
 (5,⟨1,1,false,[.d (.int .u8 0)],.int .u8,[]⟩),
 (6,⟨1,1,false,[.d (.int .u8 0)],.int .u8,[]⟩),
 (7,⟨4,24,true,[.d (.int .i64 0),.d (.int .i64 0),.d .ff,.d (.int .u8 0)],.struct [(0,2),(1,3),(2,4),(3,6)],[.int .i64,.int .i64,.bool,.int .u8]⟩),
 (9,⟨1,16,false,[.d (.str [])],.str,[]⟩),
 (17,⟨1,8,false,[.v (.pointer none)],.ptr 479,[]⟩),
 (18,⟨1,8,true,[.v (.pointer none)],.struct [(0,17)],[]⟩),
 (19,⟨1,8,true,[.v (.pointer none)],.struct [(0,17)],[]⟩),
 (21,⟨1,4,false,[.d (.int .i32 0)],.int .i32,[]⟩),
 (22,⟨1,24,false,[nilS],.slice 127,[]⟩),
 (23,⟨1,24,false,[nilS],.slice 47,[]⟩),
 (24,⟨1,2,false,[.d (.int .u16 0)],.int .u16,[]⟩),
 (25,⟨1,2,false,[.d (.int .u16 0)],.int .u16,[]⟩),
 (26,⟨3,24,true,[.d (.str []),.d (.int .u16 0),.d (.int .u16 0)],.struct [(0,9),(1,25),(2,24)],[.str,.int .u16,.int .u16]⟩),
 (27,⟨3,24,true,[.d (.str []),.d (.int .u16 0),.d (.int .u16 0)],.struct [(0,9),(1,25),(2,24)],[.str,.int .u16,.int .u16]⟩),
 (29,⟨1,8,false,[.v (.pointer none)],.ptr 307,[]⟩),
 (30,⟨1,24,false,[nilS],.slice 234,[]⟩),
 (31,⟨2,32,true,[.d (.int .i64 0),nilS],.struct [(0,3),(1,30)],[]⟩),
 (32,⟨2,32,true,[.d (.int .i64 0),nilS],.struct [(0,3),(1,30)],[]⟩),
 (35,⟨1,8,false,[.v (.pointer none)],.ptr 132,[]⟩),
 (36,⟨1,8,false,[.d (.int .i64 0)],.int .i64,[]⟩),
 (39,⟨1,24,false,[nilS],.slice 27,[]⟩),
 (40,⟨1,24,false,[nilS],.slice 68,[]⟩),
 (41,⟨1,24,false,[nilS],.slice 9,[]⟩),
 (42,⟨9,128,true,[.d (.int .i64 0),.d (.str []),.d (.int .u16 0),.d (.int .u16 0),nilS,nilS,nilS,.d (.int .i64 0),.d (.str [])],.struct [(0,3),(1,27),(4,39),(5,40),(6,41),(7,3),(8,9)],[]⟩),
 (43,⟨9,128,true,[.d (.int .i64 0),.d (.str []),.d (.int .u16 0),.d (.int .u16 0),nilS,nilS,nilS,.d (.int .i64 0),.d (.str [])],.struct [(0,3),(1,27),(4,39),(5,40),(6,41),(7,3),(8,9)],[]⟩),
 (45,⟨1,8,false,[.v .nilFunc],.other,[]⟩),
 (46,⟨1,24,false,[nilS],.slice 49,[]⟩),
 (47,⟨1,4,false,[.d (.int .u32 0)],.int .u32,[]⟩),
 (48,⟨4,48,true,[.d (.str []),.d (.int .u16 0),.d (.int .u32 0),nilS],.struct [(0,9),(1,25),(2,47),(3,41)],[]⟩),
 (49,⟨4,48,true,[.d (.str []),.d (.int .u16 0),.d (.int .u32 0),nilS],.struct [(0,9),(1,25),(2,47),(3,41)],[]⟩),
 (50,⟨6,80,true,[.d (.int .i64 0),nilS,.d (.str []),.d (.int .u16 0),.d (.int .u32 0),nilS],.struct [(0,3),(1,46),(2,49)],[]⟩),
 (51,⟨6,80,true,[.d (.int .i64 0),nilS,.d (.str []),.d (.int .u16 0),.d (.int .u32 0),nilS],.struct [(0,3),(1,46),(2,49)],[]⟩),
 (53,⟨1,8,false,[.v .nilFunc],.other,[]⟩),
 (54,⟨1,1,false,[.d (.int .u8 0)],.int .u8,[]⟩),
 (55,⟨8,104,true,[.d (.int .u8 0),nilS,.d (.str []),.d (.int .u16 0),.d (.int .u32 0),nilS,.d (.str []),.d (.int .u32 0)],.struct [(0,54),(1,46),(2,49),(6,9),(7,47)],[]⟩),
 (56,⟨8,104,true,[.d (.int .u8 0),nilS,.d (.str []),.d (.int .u16 0),.d (.int .u32 0),nilS,.d (.str []),.d (.int .u32 0)],.struct [(0,54),(1,46),(2,49),(6,9),(7,47)],[]⟩),
 (58,⟨1,1,false,[.d (.int .u8 0)],.int .u8,[]⟩),
 (59,⟨15,168,true,[.d (.int .u8 0),.d (.int .i64 0),.d (.int .u8 0),nilS,.d (.str []),.d (.int .u16 0),.d (.int .u32 0),nilS,.d (.str []),.d (.int .u32 0),.d (.int .u32 0),.d (.str []),.d (.str []),.d (.int .u16 0),.d (.int .u16 0)],.struct [(0,58),(1,36),(2,56),(10,47),(11,9),(12,27)],[]⟩),
 (60,⟨15,168,true,[.d (.int .u8 0),.d (.int .i64 0),.d (.int .u8 0),nilS,.d (.str []),.d (.int .u16 0),.d (.int .u32 0),nilS,.d (.str []),.d (.int .u32 0),.d (.int .u32 0),.d (.str []),.d (.str []),.d (.int .u16 0),.d (.int .u16 0)],.struct [(0,58),(1,36),(2,56),(10,47),(11,9),(12,27)],[]⟩),
 (63,⟨1,8,false,[.d (.int .u64 0)],.int .u64,[]⟩),
 (65,⟨1,8,false,[.v .nilFunc],.other,[]⟩),
 (66,⟨1,8,false,[.v .nilFunc],.other,[]⟩),
 (67,⟨4,48,true,[.d (.int .u32 0),.d (.str []),.d (.str []),.d (.int .u16 0)],.struct [(0,47),(1,9),(2,9),(3,25)],[.int .u32,.str,.str,.int .u16]⟩),
 (68,⟨4,48,true,[.d (.int .u32 0),.d (.str []),.d (.str []),.d (.int .u16 0)],.struct [(0,47),(1,9),(2,9),(3,25)],[.int .u32,.str,.str,.int .u16]⟩),
 (70,⟨1,24,false,[nilS],.slice 334,[]⟩),
 (71,⟨2,32,true,[.d .ff,nilS],.struct [(0,4),(1,70)],[]⟩),
 (72,⟨2,32,true,[.d .ff,nilS],.struct [(0,4),(1,70)],[]⟩),
 (73,⟨2,32,true,[.d (.str []),.d (.str [])],.struct [(0,9),(1,9)],[.str,.str]⟩),
 (74,⟨2,32,true,[.d (.str []),.d (.str [])],.struct [(0,9),(1,9)],[.str,.str]⟩),
 (75,⟨5,40,true,[.d (.int .i64 0),.d (.int .i64 0),.d (.int .i64 0),.d (.int .i64 0),.d (.int .i64 0)],.struct [(0,3),(1,2),(2,3),(3,3),(4,3)],[.int .i64,.int .i64,.int .i64,.int .i64,.int .i64]⟩),
 (76,⟨5,40,true,[.d (.int .i64 0),.d (.int .i64 0),.d (.int .i64 0),.d (.int .i64 0),.d (.int .i64 0)],.struct [(0,3),(1,2),(2,3),(3,3),(4,3)],[.int .i64,.int .i64,.int .i64,.int .i64,.int .i64]⟩),
 (77,⟨1,8,false,[.v .nilFunc],.other,[]⟩),
 (78,⟨1,8,false,[.v (.pointer none)],.ptr 154,[]⟩),
 (81,⟨1,24,false,[nilS],.slice 179,[]⟩),
 (82,⟨6,104,true,[.d (.int .u16 0),.d (.int .u16 0),nilS,nilS,nilS,nilS],.struct [(0,24),(1,24),(2,39),(3,81),(4,81),(5,81)],[]⟩),
 (83,⟨6,104,true,[.d (.int .u16 0),.d (.int .u16 0),nilS,nilS,nilS,nilS],.struct [(0,24),(1,24),(2,39),(3,81),(4,81),(5,81)],[]⟩),
 (84,⟨1,24,false,[nilS],.slice 192,[]⟩),
 (85,⟨6,32,true,[.d .ff,.d (.int .u16 0),.d (.int .u8 0),.d (.int .u8 0),.d (.int .u16 0),nilS],.struct [(0,4),(1,24),(2,5),(3,5),(4,24),(5,84)],[]⟩),
 (86,⟨6,32,true,[.d .ff,.d (.int .u16 0),.d (.int .u8 0),.d (.int .u8 0),.d (.int .u16 0),nilS],.struct [(0,4),(1,24),(2,5),(3,5),(4,24),(5,84)],[]⟩),
 (87,⟨15,176,true,[.d (.int .u16 0),.d (.int .u16 0),nilS,nilS,nilS,nilS,.d .ff,.d (.int .u16 0),.d (.int .u8 0),.d (.int .u8 0),.d (.int .u16 0),nilS,.d (.str []),.d (.str []),.d (.int .i64 0)],.struct [(0,83),(6,86),(12,9),(13,9),(14,3)],[]⟩),
 (88,⟨15,176,true,[.d (.int .u16 0),.d (.int .u16 0),nilS,nilS,nilS,nilS,.d .ff,.d (.int .u16 0),.d (.int .u8 0),.d (.int .u8 0),.d (.int .u16 0),nilS,.d (.str []),.d (.str []),.d (.int .i64 0)],.struct [(0,83),(6,86),(12,9),(13,9),(14,3)],[]⟩),
 (89,⟨1,8,false,[.v .nilFunc],.other,[]⟩),
 (91,⟨1,8,false,[.v .nilFunc],.other,[]⟩),
 (92,⟨1,1,false,[.d (.int .u8 0)],.int .u8,[]⟩),
 (93,⟨3,32,true,[.d (.int .u8 0),.d (.int .i64 0),.d (.str [])],.struct [(0,92),(1,3),(2,9)],[.int .u8,.int .i64,.str]⟩),
 (94,⟨3,32,true,[.d (.int .u8 0),.d (.int .i64 0),.d (.str [])],.struct [(0,92),(1,3),(2,9)],[.int .u8,.int .i64,.str]⟩),
 (97,⟨1,8,false,[.v .nilFunc],.other,[]⟩),
 (99,⟨1,8,false,[.v .nilFunc],.other,[]⟩),
 (101,⟨1,8,false,[.v .nilFunc],.other,[]⟩),
 (102,⟨1,8,false,[.v .nilFunc],.other,[]⟩),
 (103,⟨1,8,false,[.v .nilFunc],.other,[]⟩),
 (105,⟨1,8,false,[.v .nilFunc],.other,[]⟩),
 (106,⟨1,24,false,[nilS],.slice 94,[]⟩),
 (107,⟨1,8,false,[.v .nilFunc],.other,[]⟩),
 (108,⟨1,8,false,[.v .nilFunc],.other,[]⟩),
 (109,⟨1,8,false,[.v (.pointer none)],.ptr 212,[]⟩),
 (114,⟨1,8,false,[.v .nilFunc],.other,[]⟩),
 (115,⟨1,8,false,[.v .nilFunc],.other,[]⟩),
 (116,⟨1,8,false,[.v .nilFunc],.other,[]⟩),
 (117,⟨1,8,false,[.v .nilFunc],.other,[]⟩),
 (118,⟨1,8,false,[.v .nilFunc],.other,[]⟩),
 (119,⟨1,8,false,[.v .nilFunc],.other,[]⟩),
 (122,⟨1,8,false,[.v .nilFunc],.other,[]⟩),
 (123,⟨1,1,false,[.d (.int .u8 0)],.int .u8,[]⟩),
 (125,⟨1,8,false,[.v .nilFunc],.other,[]⟩),
 (126,⟨6,64,true,[.d (.str []),.d (.int .u16 0),.d (.int .u32 0),nilS,.d (.int .u8 0),.d (.int .i64 0)],.struct [(0,49),(4,123),(5,2)],[]⟩),
 (127,⟨6,64,true,[.d (.str []),.d (.int .u16 0),.d (.int .u32 0),nilS,.d (.int .u8 0),.d (.int .i64 0)],.struct [(0,49),(4,123),(5,2)],[]⟩),
 (128,⟨1,8,false,[.v .nilFunc],.other,[]⟩),
 (129,⟨1,8,false,[.v (.map none)],.map 47 130,[]⟩),
 (130,⟨1,8,false,[.v (.pointer none)],.ptr 391,[]⟩),
 (131,⟨4,32,true,[.d (.int .i64 0),.v (.map none),.v (.pointer none),.v (.pointer none)],.struct [(0,3),(1,129),(2,130),(3,130)],[]⟩),
 (132,⟨4,32,true,[.d (.int .i64 0),.v (.map none),.v (.pointer none),.v (.pointer none)],.struct [(0,3),(1,129),(2,130),(3,130)],[]⟩),
 (133,⟨1,8,false,[.v .nilFunc],.other,[]⟩),
 (134,⟨11,128,true,[.d (.int .u8 0),nilS,.d (.str []),.d (.int .u16 0),.d (.int .u32 0),nilS,.d (.str []),.d (.int .u32 0),.v (.pointer none),.d (.int .i64 0),.d .ff],.struct [(0,56),(8,29),(9,2),(10,4)],[]⟩),
 (135,⟨11,128,true,[.d (.int .u8 0),nilS,.d (.str []),.d (.int .u16 0),.d (.int .u32 0),nilS,.d (.str []),.d (.int .u32 0),.v (.pointer none),.d (.int .i64 0),.d .ff],.struct [(0,56),(8,29),(9,2),(10,4)],[]⟩),
 (136,⟨1,8,false,[.v .nilFunc],.other,[]⟩),
 (140,⟨1,8,false,[.v .nilFunc],.other,[]⟩),
 (141,⟨14,184,true,[.d (.int .i64 0),.d (.str []),.d (.int .u16 0),.d (.int .u16 0),nilS,nilS,nilS,.d (.int .i64 0),.d (.str []),.v (.pointer none),.v (.pointer none),nilS,.d (.int .i64 0),.d (.int .u64 0)],.struct [(0,43),(9,29),(10,35),(11,23),(12,2),(13,63)],[]⟩),
 (142,⟨14,184,true,[.d (.int .i64 0),.d (.str []),.d (.int .u16 0),.d (.int .u16 0),nilS,nilS,nilS,.d (.int .i64 0),.d (.str []),.v (.pointer none),.v (.pointer none),nilS,.d (.int .i64 0),.d (.int .u64 0)],.struct [(0,43),(9,29),(10,35),(11,23),(12,2),(13,63)],[]⟩),
 (146,⟨1,8,false,[.v .nilFunc],.other,[]⟩),
 (148,⟨1,8,false,[.v .nilFunc],.other,[]⟩),
 (149,⟨1,8,false,[.v .nilFunc],.other,[]⟩),
 (150,⟨1,8,false,[.v .nilFunc],.other,[]⟩),
 (151,⟨1,8,false,[.v (.map none)],.map 47 152,[]⟩),
 (152,⟨1,8,false,[.v (.pointer none)],.ptr 263,[]⟩),
 (153,⟨8,64,true,[.d (.int .i64 0),.d (.int .i64 0),.d (.int .i64 0),.d (.int .i64 0),.d (.int .i64 0),.v (.map none),.v (.pointer none),.v (.pointer none)],.struct [(0,76),(5,151),(6,152),(7,152)],[]⟩),
 (154,⟨8,64,true,[.d (.int .i64 0),.d (.int .i64 0),.d (.int .i64 0),.d (.int .i64 0),.d (.int .i64 0),.v (.map none),.v (.pointer none),.v (.pointer none)],.struct [(0,76),(5,151),(6,152),(7,152)],[]⟩),
 (156,⟨1,8,false,[.v .nilFunc],.other,[]⟩),
 (157,⟨1,8,false,[.v .nilFunc],.other,[]⟩),
 (158,⟨1,8,false,[.v (.pointer none)],.ptr 252,[]⟩),
 (160,⟨1,8,false,[.v .nilFunc],.other,[]⟩),
 (161,⟨1,8,false,[.v .nilFunc],.other,[]⟩),
 (162,⟨2,32,true,[.d (.str []),.d (.str [])],.array 2 9,[.str,.str]⟩),
 (163,⟨1,8,false,[.v .nilFunc],.other,[]⟩),
 (164,⟨1,8,false,[.v .nilFunc],.other,[]⟩),
 (166,⟨1,8,false,[.v .nilFunc],.other,[]⟩),
 (167,⟨1,1,false,[.d (.int .u8 0)],.int .u8,[]⟩),
 (168,⟨1,8,false,[.v .nilFunc],.other,[]⟩),
 (169,⟨1,8,false,[.v .nilFunc],.other,[]⟩),
 (170,⟨6,48,true,[.d (.int .i64 0),.d (.int .i64 0),.d (.int .i64 0),.d (.int .i64 0),.d (.int .i64 0),.d (.int .i64 0)],.array 6 3,[.int .i64,.int .i64,.int .i64,.int .i64,.int .i64,.int .i64]⟩),
 (171,⟨1,24,false,[nilS],.slice 3,[]⟩),
 (174,⟨1,8,false,[.v .nilFunc],.other,[]⟩),
 (176,⟨1,8,false,[.v (.pointer none)],.ptr 83,[]⟩),
 (177,⟨1,8,false,[.v (.pointer none)],.ptr 81,[]⟩),
 (178,⟨5,40,true,[.d (.str []),.d (.int .u16 0),.d (.int .u16 0),.d (.int .u32 0),.d (.str [])],.struct [(0,9),(1,25),(2,24),(3,47),(4,9)],[.str,.int .u16,.int .u16,.int .u32,.str]⟩),
 (179,⟨5,40,true,[.d (.str []),.d (.int .u16 0),.d (.int .u16 0),.d (.int .u32 0),.d (.str [])],.struct [(0,9),(1,25),(2,24),(3,47),(4,9)],[.str,.int .u16,.int .u16,.int .u32,.str]⟩),
 (183,⟨1,8,false,[.v .nilFunc],.other,[]⟩),
 (187,⟨1,8,false,[.d (.int .u64 0)],.int .u64,[]⟩),
 (189,⟨1,8,false,[.v .nilFunc],.other,[]⟩),
 (191,⟨2,24,true,[.d (.int .u16 0),.d (.str [])],.struct [(0,24),(1,9)],[.int .u16,.str]⟩),
 (192,⟨2,24,true,[.d (.int .u16 0),.d (.str [])],.struct [(0,24),(1,9)],[.int .u16,.str]⟩),
 (194,⟨1,24,false,[nilS],.slice 272,[]⟩),
 (195,⟨1,24,false,[nilS],.slice 274,[]⟩),
 (196,⟨2,48,true,[nilS,nilS],.struct [(0,194),(1,195)],[]⟩),
 (197,⟨2,48,true,[nilS,nilS],.struct [(0,194),(1,195)],[]⟩),
 (199,⟨1,8,false,[.v .nilFunc],.other,[]⟩),
 (200,⟨1,8,false,[.v .nilFunc],.other,[]⟩),
 (204,⟨1,8,false,[.v .nilFunc],.other,[]⟩),
 (205,⟨1,8,false,[.v (.pointer none)],.ptr 288,[]⟩),
 (207,⟨1,8,false,[.v .nilFunc],.other,[]⟩),
 (208,⟨1,8,false,[.v .nilFunc],.other,[]⟩),
 (210,⟨1,24,false,[nilS],.slice 5,[]⟩),
 (211,⟨1,24,true,[nilS],.struct [(0,210)],[]⟩),
 (212,⟨1,24,true,[nilS],.struct [(0,210)],[]⟩),
 (217,⟨1,8,false,[.v .nilFunc],.other,[]⟩),
 (221,⟨1,8,false,[.v .nilFunc],.other,[]⟩),
 (224,⟨1,8,false,[.v .nilFunc],.other,[]⟩),
 (227,⟨1,8,false,[.v .nilFunc],.other,[]⟩),
 (228,⟨1,8,false,[.v .nilFunc],.other,[]⟩),
 (229,⟨7,56,true,[.d (.str []),.d (.int .u16 0),.d (.int .u32 0),nilS,.d (.int .u8 0),.d .ff,.d .ff],.struct [(0,49),(4,123),(5,4),(6,4)],[]⟩),
 (230,⟨7,56,true,[.d (.str []),.d (.int .u16 0),.d (.int .u32 0),nilS,.d (.int .u8 0),.d .ff,.d .ff],.struct [(0,49),(4,123),(5,4),(6,4)],[]⟩),
 (231,⟨1,8,false,[.v .nilFunc],.other,[]⟩),
 (232,⟨1,8,false,[.v .nilFunc],.other,[]⟩),
 (233,⟨8,64,true,[.d (.str []),.d (.int .u16 0),.d (.int .u32 0),nilS,.d (.int .u8 0),.d .ff,.d .ff,.d (.int .i64 0)],.struct [(0,230),(7,2)],[]⟩),
 (234,⟨8,64,true,[.d (.str []),.d (.int .u16 0),.d (.int .u32 0),nilS,.d (.int .u8 0),.d .ff,.d .ff,.d (.int .i64 0)],.struct [(0,230),(7,2)],[]⟩),
 (235,⟨1,8,false,[.v (.pointer none)],.ptr 135,[]⟩),
 (237,⟨1,8,false,[.v .nilFunc],.other,[]⟩),
 (238,⟨1,8,false,[.v .nilFunc],.other,[]⟩),
 (239,⟨1,8,false,[.v (.pointer none)],.ptr 142,[]⟩),
 (240,⟨1,8,false,[.v .nilFunc],.other,[]⟩),
 (245,⟨1,8,false,[.v .nilFunc],.other,[]⟩),
 (247,⟨1,8,false,[.v .nilFunc],.other,[]⟩),
 (248,⟨1,8,false,[.v .nilFunc],.other,[]⟩),
 (249,⟨1,8,false,[.v .nilFunc],.other,[]⟩),
 (250,⟨1,8,false,[.v .nilFunc],.other,[]⟩),
 (251,⟨3,32,true,[.d (.str []),.d (.int .i64 0),.d .ff],.struct [(0,9),(1,3),(2,4)],[.str,.int .i64,.bool]⟩),
 (252,⟨3,32,true,[.d (.str []),.d (.int .i64 0),.d .ff],.struct [(0,9),(1,3),(2,4)],[.str,.int .i64,.bool]⟩),
 (253,⟨1,8,false,[.v .nilFunc],.other,[]⟩),
 (254,⟨8,8,true,[.d (.int .u8 0),.d (.int .u8 0),.d (.int .u8 0),.d (.int .u8 0),.d (.int .u8 0),.d (.int .u8 0),.d (.int .u8 0),.d (.int .u8 0)],.array 8 5,[.int .u8,.int .u8,.int .u8,.int .u8,.int .u8,.int .u8,.int .u8,.int .u8]⟩),
 (255,⟨1,8,false,[.v .nilFunc],.other,[]⟩),
 (257,⟨1,8,false,[.v .nilFunc],.other,[]⟩),
 (258,⟨1,8,false,[.v .nilFunc],.other,[]⟩),
 (259,⟨1,8,false,[.v .nilFunc],.other,[]⟩),
 (260,⟨1,8,false,[.v .nilFunc],.other,[]⟩),
 (261,⟨1,8,false,[.v .nilFunc],.other,[]⟩),
 (262,⟨6,48,true,[.d (.int .u32 0),.d (.int .i64 0),.d (.int .i64 0),.d (.int .i64 0),.v (.pointer none),.v (.pointer none)],.struct [(0,47),(1,2),(2,3),(3,3),(4,152),(5,152)],[]⟩),
 (263,⟨6,48,true,[.d (.int .u32 0),.d (.int .i64 0),.d (.int .i64 0),.d (.int .i64 0),.v (.pointer none),.v (.pointer none)],.struct [(0,47),(1,2),(2,3),(3,3),(4,152),(5,152)],[]⟩),
 (265,⟨1,8,false,[.v .nilFunc],.other,[]⟩),
 (269,⟨1,8,false,[.v .nilFunc],.other,[]⟩),
 (270,⟨1,8,false,[.v .nilFunc],.other,[]⟩),
 (271,⟨2,40,true,[.d (.str []),nilS],.struct [(0,9),(1,81)],[]⟩),
 (272,⟨2,40,true,[.d (.str []),nilS],.struct [(0,9),(1,81)],[]⟩),
 (273,⟨2,32,true,[.d (.int .u32 0),nilS],.struct [(0,47),(1,171)],[]⟩),
 (274,⟨2,32,true,[.d (.int .u32 0),nilS],.struct [(0,47),(1,171)],[]⟩),
 (275,⟨1,8,false,[.v .nilFunc],.other,[]⟩),
 (276,⟨1,8,false,[.v (.map none)],.map 9 3,[]⟩),
 (277,⟨1,8,false,[.v (.map none)],.map 353 81,[]⟩),
 (278,⟨4,64,true,[nilS,nilS,.v (.map none),.v (.map none)],.struct [(0,197),(2,276),(3,277)],[]⟩),
 (279,⟨4,64,true,[nilS,nilS,.v (.map none),.v (.map none)],.struct [(0,197),(2,276),(3,277)],[]⟩),
 (280,⟨1,8,false,[.v .nilFunc],.other,[]⟩),
 (281,⟨1,8,false,[.v .nilFunc],.other,[]⟩),
 (285,⟨1,8,false,[.v .nilFunc],.other,[]⟩),
 (287,⟨4,48,true,[nilS,.d (.int .i64 0),.d .ff,.v (.map none)],.struct [(0,210),(1,3),(2,4),(3,276)],[]⟩),
 (288,⟨4,48,true,[nilS,.d (.int .i64 0),.d .ff,.v (.map none)],.struct [(0,210),(1,3),(2,4),(3,276)],[]⟩),
 (289,⟨1,8,false,[.v .nilFunc],.other,[]⟩),
 (291,⟨1,8,false,[.v .nilFunc],.other,[]⟩),
 (293,⟨1,8,false,[.v .nilFunc],.other,[]⟩),
 (294,⟨1,8,false,[.v .nilFunc],.other,[]⟩),
 (295,⟨1,8,false,[.v .nilFunc],.other,[]⟩),
 (297,⟨1,8,false,[.v .nilFunc],.other,[]⟩),
 (298,⟨1,8,false,[.v (.pointer none)],.ptr 304,[]⟩),
 (299,⟨8,64,true,[.d (.str []),.d (.int .u16 0),.d (.int .u32 0),nilS,.d (.int .u8 0),.d .ff,.d .ff,.d (.int .i64 0)],.struct [(0,230),(7,2)],[]⟩),
 (300,⟨8,64,true,[.d (.str []),.d (.int .u16 0),.d (.int .u32 0),nilS,.d (.int .u8 0),.d .ff,.d .ff,.d (.int .i64 0)],.struct [(0,230),(7,2)],[]⟩),
 (301,⟨2,24,true,[.d (.str []),.d (.int .u16 0)],.struct [(0,9),(1,25)],[.str,.int .u16]⟩),
 (302,⟨2,24,true,[.d (.str []),.d (.int .u16 0)],.struct [(0,9),(1,25)],[.str,.int .u16]⟩),
 (303,⟨12,104,true,[.d (.str []),.d (.int .u16 0),.d (.int .u32 0),nilS,.d (.int .u8 0),.d .ff,.d .ff,.d (.int .i64 0),.d (.str []),.d (.int .u16 0),.v (.pointer none),.v (.pointer none)],.struct [(0,300),(8,302),(10,298),(11,298)],[]⟩),
 (304,⟨12,104,true,[.d (.str []),.d (.int .u16 0),.d (.int .u32 0),nilS,.d (.int .u8 0),.d .ff,.d .ff,.d (.int .i64 0),.d (.str []),.d (.int .u16 0),.v (.pointer none),.v (.pointer none)],.struct [(0,300),(8,302),(10,298),(11,298)],[]⟩),
 (305,⟨1,8,false,[.v (.map none)],.map 302 298,[]⟩),
 (306,⟨3,24,true,[.d (.int .i64 0),.v (.pointer none),.v (.map none)],.struct [(0,3),(1,298),(2,305)],[]⟩),
 (307,⟨3,24,true,[.d (.int .i64 0),.v (.pointer none),.v (.map none)],.struct [(0,3),(1,298),(2,305)],[]⟩),
 (308,⟨1,8,false,[.v .nilFunc],.other,[]⟩),
 (309,⟨1,8,false,[.v .nilFunc],.other,[]⟩),
 (310,⟨1,8,false,[.v .nilFunc],.other,[]⟩),
 (312,⟨1,8,false,[.v .nilFunc],.other,[]⟩),
 (315,⟨1,8,false,[.v .nilFunc],.other,[]⟩),
 (316,⟨2,4,true,[.d (.int .u16 0),.d (.int .u16 0)],.array 2 25,[.int .u16,.int .u16]⟩),
 (321,⟨1,24,false,[nilS],.slice 323,[]⟩),
 (322,⟨5,48,true,[.d (.int .u32 0),.d (.str []),.d .ff,.d (.int .i64 0),.d (.int .i64 0)],.struct [(0,47),(1,9),(2,4),(3,3),(4,2)],[.int .u32,.str,.bool,.int .i64,.int .i64]⟩),
 (323,⟨5,48,true,[.d (.int .u32 0),.d (.str []),.d .ff,.d (.int .i64 0),.d (.int .i64 0)],.struct [(0,47),(1,9),(2,4),(3,3),(4,2)],[.int .u32,.str,.bool,.int .i64,.int .i64]⟩),
 (324,⟨1,8,false,[.v .nilFunc],.other,[]⟩),
 (330,⟨1,8,false,[.v .nilFunc],.other,[]⟩),
 (331,⟨1,8,false,[.v .nilFunc],.other,[]⟩),
 (332,⟨1,8,false,[.v .nilFunc],.other,[]⟩),
 (333,⟨3,40,true,[.d (.str []),.d (.str []),.d (.int .u64 0)],.struct [(0,9),(1,9),(2,63)],[.str,.str,.int .u64]⟩),
 (334,⟨3,40,true,[.d (.str []),.d (.str []),.d (.int .u64 0)],.struct [(0,9),(1,9),(2,63)],[.str,.str,.int .u64]⟩),
 (336,⟨3,24,true,[.d (.int .i64 0),.d (.int .i64 0),.d (.int .i64 0)],.struct [(0,3),(1,3),(2,3)],[.int .i64,.int .i64,.int .i64]⟩),
 (337,⟨3,24,true,[.d (.int .i64 0),.d (.int .i64 0),.d (.int .i64 0)],.struct [(0,3),(1,3),(2,3)],[.int .i64,.int .i64,.int .i64]⟩),
 (339,⟨1,8,false,[.v .nilFunc],.other,[]⟩),
 (340,⟨1,8,false,[.v (.pointer none)],.ptr 342,[]⟩),
 (341,⟨2,32,true,[.v (.pointer none),nilS],.struct [(0,340),(1,210)],[]⟩),
 (342,⟨2,32,true,[.v (.pointer none),nilS],.struct [(0,340),(1,210)],[]⟩),
 (344,⟨1,16,false,[.v .nilIface],.iface,[]⟩),
 (350,⟨1,8,false,[.v .nilFunc],.other,[]⟩),
 (351,⟨1,8,false,[.v .nilFunc],.other,[]⟩),
 (352,⟨2,24,true,[.d (.int .i64 0),.d (.str [])],.struct [(0,3),(1,9)],[.int .i64,.str]⟩),
 (353,⟨2,24,true,[.d (.int .i64 0),.d (.str [])],.struct [(0,3),(1,9)],[.int .i64,.str]⟩),
 (355,⟨1,8,false,[.v .nilFunc],.other,[]⟩),
 (356,⟨1,8,false,[.v (.map none)],.map 435 3,[]⟩),
 (357,⟨1,8,false,[.v (.map none)],.map 9 437,[]⟩),
 (358,⟨4,56,true,[.d (.str []),nilS,.v (.map none),.v (.map none)],.struct [(0,272),(2,356),(3,357)],[]⟩),
 (359,⟨4,56,true,[.d (.str []),nilS,.v (.map none),.v (.map none)],.struct [(0,272),(2,356),(3,357)],[]⟩),
 (361,⟨1,8,false,[.v .nilFunc],.other,[]⟩),
 (363,⟨1,8,false,[.v .nilFunc],.other,[]⟩),
 (365,⟨1,8,false,[.v .nilFunc],.other,[]⟩),
 (367,⟨3,56,true,[.d (.str []),nilS,.d (.str [])],.struct [(0,9),(1,41),(2,9)],[]⟩),
 (368,⟨3,56,true,[.d (.str []),nilS,.d (.str [])],.struct [(0,9),(1,41),(2,9)],[]⟩),
 (370,⟨1,8,false,[.v .nilFunc],.other,[]⟩),
 (372,⟨2,2,true,[.d (.int .u8 0),.d (.int .u8 0)],.array 2 5,[.int .u8,.int .u8]⟩),
 (376,⟨1,8,false,[.v .nilFunc],.other,[]⟩),
 (379,⟨1,8,false,[.v .nilFunc],.other,[]⟩),
 (384,⟨1,8,false,[.v .nilFunc],.other,[]⟩),
 (386,⟨1,8,false,[.v .nilFunc],.other,[]⟩),
 (387,⟨1,8,false,[.v (.map none)],.map 47 3,[]⟩),
 (389,⟨1,8,false,[.v .nilFunc],.other,[]⟩),
 (390,⟨7,64,true,[.d (.int .u32 0),.d (.str []),.d .ff,.d (.int .i64 0),.d (.int .i64 0),.v (.pointer none),.v (.pointer none)],.struct [(0,323),(5,130),(6,130)],[]⟩),
 (391,⟨7,64,true,[.d (.int .u32 0),.d (.str []),.d .ff,.d (.int .i64 0),.d (.int .i64 0),.v (.pointer none),.v (.pointer none)],.struct [(0,323),(5,130),(6,130)],[]⟩),
 (393,⟨1,8,false,[.v .nilFunc],.other,[]⟩),
 (395,⟨1,8,false,[.v .nilFunc],.other,[]⟩),
 (396,⟨4,32,true,[.d (.int .u64 0),.d (.int .u64 0),.d (.int .u64 0),.d (.int .u64 0)],.array 4 63,[.int .u64,.int .u64,.int .u64,.int .u64]⟩),
 (398,⟨1,8,false,[.v .nilFunc],.other,[]⟩),
 (402,⟨1,8,false,[.v .nilFunc],.other,[]⟩),
 (403,⟨1,8,false,[.v (.pointer none)],.ptr 5,[]⟩),
 (404,⟨1,8,false,[.v .nilFunc],.other,[]⟩),
 (406,⟨1,8,false,[.v .nilFunc],.other,[]⟩),
 (408,⟨1,8,false,[.v (.pointer none)],.ptr 359,[]⟩),
 (412,⟨1,8,false,[.v .nilFunc],.other,[]⟩),
 (415,⟨1,8,false,[.v .nilFunc],.other,[]⟩),
 (416,⟨1,8,false,[.v .nilFunc],.other,[]⟩),
 (417,⟨1,8,false,[.v .nilFunc],.other,[]⟩),
 (420,⟨1,8,false,[.v .nilFunc],.other,[]⟩),
 (421,⟨1,8,false,[.v .nilFunc],.other,[]⟩),
 (422,⟨1,8,false,[.v .nilFunc],.other,[]⟩),
 (424,⟨1,8,false,[.v .nilFunc],.other,[]⟩),
 (426,⟨1,8,false,[.v .nilFunc],.other,[]⟩),
 (427,⟨1,8,false,[.v .nilFunc],.other,[]⟩),
 (428,⟨1,8,false,[.v (.pointer none)],.other,[]⟩),
 (430,⟨1,8,false,[.v (.map none)],.map 431 3,[]⟩),
 (431,⟨2,16,true,[.d (.int .i64 0),.d (.int .i64 0)],.array 2 3,[.int .i64,.int .i64]⟩),
 (434,⟨4,40,true,[.d (.str []),.d (.int .u16 0),.d (.int .u16 0),.d (.str [])],.struct [(0,9),(1,25),(2,24),(3,9)],[.str,.int .u16,.int .u16,.str]⟩),
 (435,⟨4,40,true,[.d (.str []),.d (.int .u16 0),.d (.int .u16 0),.d (.str [])],.struct [(0,9),(1,25),(2,24),(3,9)],[.str,.int .u16,.int .u16,.str]⟩),
 (436,⟨5,40,true,[.d (.int .i64 0),.d (.int .i64 0),.d (.int .i64 0),.d (.int .i64 0),.d (.int .i64 0)],.struct [(0,3),(1,3),(2,3),(3,3),(4,3)],[.int .i64,.int .i64,.int .i64,.int .i64,.int .i64]⟩),
 (437,⟨5,40,true,[.d (.int .i64 0),.d (.int .i64 0),.d (.int .i64 0),.d (.int .i64 0),.d (.int .i64 0)],.struct [(0,3),(1,3),(2,3),(3,3),(4,3)],[.int .i64,.int .i64,.int .i64,.int .i64,.int .i64]⟩),
 (438,⟨1,8,false,[.v .nilFunc],.other,[]⟩),
 (439,⟨1,24,false,[nilS],.slice 442,[]⟩),
 (441,⟨2,40,true,[.d (.str []),nilS],.struct [(0,9),(1,41)],[]⟩),
 (442,⟨2,40,true,[.d (.str []),nilS],.struct [(0,9),(1,41)],[]⟩),
 (445,⟨1,8,false,[.v .nilFunc],.other,[]⟩),
 (447,⟨1,8,false,[.v .nilFunc],.other,[]⟩),
 (450,⟨1,8,false,[.v .nilFunc],.other,[]⟩),
 (468,⟨4,40,true,[.v (.pointer none),.v (.pointer none),.v (.pointer none),.d (.str [])],.struct [(0,17),(1,17),(2,17),(3,9)],[]⟩),
 (473,⟨1,1,false,[.d (.int .u8 0)],.int .u8,[]⟩),
 (474,⟨1,1,false,[.d (.int .u8 0)],.int .u8,[]⟩),
 (476,⟨1,4,false,[.d (.int .i32 0)],.int .i32,[]⟩),
 (477,⟨1,4,false,[.d (.int .i32 0)],.int .i32,[]⟩),
 (479,⟨11,48,true,[.d (.int .u64 0),.d (.int .u64 0),.d (.int .u32 0),.d (.int .u8 0),.d (.int .u8 0),.d (.int .u8 0),.d (.int .u8 0),.v .nilFunc,.v (.pointer none),.d (.int .i32 0),.d (.int .i32 0)],.struct [(0,12),(1,12),(2,47),(3,473),(4,5),(5,5),(6,474),(7,475),(8,403),(9,476),(10,477)],[]⟩),
 (480,⟨1,8,false,[.v .nilFunc],.other,[]⟩)]
def TT(n:Nat):Option TI:=Eng.look types n
set_option maxRecDepth 100000 in
theorem qf:TTok Tryz.prog TT:=jl6 (P:=Tryz.prog) (l:=types) (by kernel_rfl)
theorem mixed:Tryz.prog.follows .mixedOrders=true:=by kernel_rfl
def bt(s:List UInt8)(k:Nat):Nat:=(s[k]?.getD 0).toNat
theorem zl(s:List UInt8)(k:Nat):jc s (k:Int)=(bt s k:Int):=by
 unfold jc bt;simp
theorem bt_lt(s:List UInt8)(k:Nat):bt s k<256:=UInt8.toNat_lt _
def more(s:List UInt8)(k:Nat):Prop:=k<s.length/\¬ bt s k=0/\bt s k<=63/\bt s k<s.length - k
instance (s:List UInt8) (k:Nat):Decidable (more s k):=by unfold more;infer_instance
def xy(s:List UInt8):Nat->Nat->Nat
 |0,k=>k
 |m+1,k=>if more s k then xy s m (k+1+bt s k) else k
def lastOf(s:List UInt8):Nat:=xy s s.length 0
def At(s:List UInt8)(k:Nat):Prop:=k<=s.length/\∃ m,s.length<=k+m/\xy s m k=lastOf s
theorem At.zero(s:List UInt8):At s 0:=⟨Nat.zero_le _,s.length,by omega,rfl⟩
theorem At.next{s:List UInt8}{k:Nat}(h:At s k)(hm:more s k):At s (k+1+bt s k):=by
 obtain⟨h1,m,h2,h3⟩:=h
 have:=hm
 obtain⟨a1,a2,a3,a4⟩:=this
 cases m with
 |zero=>omega
 |succ m=>exact⟨by omega,m,by omega,by rw[<-h3];simp[xy,hm]⟩
theorem At.last{s:List UInt8}{k:Nat}(h:At s k)(hm:¬ more s k):k=lastOf s:=by
 obtain⟨h1,m,h2,h3⟩:=h
 rw[<-h3]
 cases m <;> simp[xy,hm]
def qh(s:List UInt8):Prop:=0<s.length/\s.length<=255/\lastOf s=s.length - 1/\bt s (lastOf s)=0
instance (s:List UInt8):Decidable (qh s):=by unfold qh;infer_instance
theorem qg(n:Int)(h : -9223372036854775808<=n/\n<=9223372036854775807):IntKind.i64.wrap n=n:=by rw[IntKind.wrap_i64];omega
theorem w64s(i:Nat)(h:i<9223372036854775807):IntKind.i64.wrap ((i:Int)+1)=((i+1:Nat):Int):=by rw[qg _ (by omega)];omega
theorem j5(s:List UInt8):FnOk Tryz.prog 15 [.d (.str s)] (.d (.int .i64 (if qh s then 0 else 2))):=by
 refine qn (TT:=TT) (IN:=qd [(50,Tryz.f50,1),(115,Tryz.f115,2)]) qf ?_ mixed 1000 Tryz.func15 rfl (qc Tryz.func15 (by kernel_rfl) rfl) rfl 27 (by kernel_rfl) ?_
 ·exact qv (qv qe Tryz.func115 (by kernel_rfl) (by kernel_rfl)) Tryz.func50 (by kernel_rfl) (by kernel_rfl)
 conv=>whnf
 refine⟨fun h1=>?_,fun h1=>?_⟩
 ·have:¬ qh s:=fun hn=>by have a:=hn.1;simp at h1;rw [h1] at a;simp at a
  exact congrArg (DV.int _) (by rw[if_neg this])
 have hpos:0<s.length:=by
  rcases Nat.eq_zero_or_pos s.length with e|e
  ·rw [e] at h1;cases h1
  ·exact e
 conv=>whnf
 refine⟨fun h2=>?_,fun h2=>?_⟩
 ·have:¬ qh s:=fun hn=>by have a:=hn.2.1;simp at h2;omega
  exact congrArg (DV.int _) (by rw[if_neg this])
 have hlen:s.length<=255:=by simp at h2;omega
 conv=>whnf
 refine .inv Nat (fun k=>At s k) (fun k=>[(3,.d (.int .i64 k))]) (fun k=>[(0,.cells 3 [.d (.int .i64 k)])]) (fun k=>s.length - k) ⟨0,[0,1,2],At.zero s,?_⟩ ?_
 ·conv=>whnf
  repeat'(first|exact ⟨⟩|exact rfl|apply And.intro)
 intro k hk
 have hkl:=hk.1
 have hby:=bt_lt s k
 have hwb:IntKind.i64.wrap (jc s (k:Int))=(bt s k:Int):=by rw[zl,qg _ (by omega)]
 have hwl:IntKind.i64.wrap ((s.length:Int) - 1)=(s.length:Int) - 1:=qg _ (by omega)
 have key1:¬ more s k->(((k:Int) != IntKind.i64.wrap ((s.length:Int) - 1))=true)->¬ qh s:=fun hm hne hn=>by
  have:=hk.last hm
  obtain⟨_,_,a,_⟩:=hn
  rw [hwl] at hne
  simp at hne
  omega
 have key2:¬ more s k->(((k:Int) != IntKind.i64.wrap ((s.length:Int) - 1))=false)->(bt s k=0↔qh s)/\k<s.length:=fun hm hne=>by
  have:=hk.last hm
  rw [hwl] at hne
  simp at hne
  unfold qh
  rw[<-this]
  omega
 conv=>whnf
 refine⟨fun hlt=>?_,fun hge=>?_⟩
 ·have hlt':k<s.length:=by simpa using hlt
  conv=>whnf
  refine⟨by simp;omega,?_⟩
  conv=>whnf
  refine⟨fun h0=>?_,fun h0=>?_⟩
  ·have hm:¬ more s k:=fun hm=>by rw [hwb] at h0;simp at h0;exact hm.2.1 h0
   conv=>whnf
   refine⟨fun e=>congrArg (DV.int _) (by rw[if_neg (key1 hm e)]),fun e=>?_⟩
   obtain⟨e1,e2⟩:=key2 hm e
   conv=>whnf
   refine⟨by simp;omega,?_⟩
   conv=>whnf
   refine⟨fun hz=>?_,fun hz=>?_⟩
   ·exact congrArg (DV.int _) (by rw [if_neg (fun hn=>by rw [zl] at hz;simp at hz;exact hz (e1.2 hn))])
   ·exact congrArg (DV.int _) (by rw [if_pos (e1.1 (by rw [zl] at hz;simpa using hz))])
  ·have h0':¬ bt s k=0:=by rw [hwb] at h0;simpa using h0
   conv=>whnf
   refine⟨fun h3=>?_,fun h3=>?_⟩
   ·have hm:¬ more s k:=fun hm=>by rw [hwb] at h3;simp at h3;have:=hm.2.2.1;omega
    conv=>whnf
    refine⟨fun e=>congrArg (DV.int _) (by rw[if_neg (key1 hm e)]),fun e=>?_⟩
    obtain⟨e1,e2⟩:=key2 hm e
    conv=>whnf
    refine⟨by simp;omega,?_⟩
    conv=>whnf
    refine⟨fun hz=>?_,fun hz=>?_⟩
    ·exact congrArg (DV.int _) (by rw [if_neg (fun hn=>by rw [zl] at hz;simp at hz;exact hz (e1.2 hn))])
    ·exact congrArg (DV.int _) (by rw [if_pos (e1.1 (by rw [zl] at hz;simpa using hz))])
   ·have h3':bt s k<=63:=by rw [hwb] at h3;simp at h3;omega
    conv=>whnf
    have hws:IntKind.i64.wrap ((s.length:Int) - (k:Int))=(s.length:Int) - k:=qg _ (by omega)
    refine⟨fun h4=>?_,fun h4=>?_⟩
    ·have hm:¬ more s k:=fun hm=>by rw [hwb,hws] at h4;simp at h4;have:=hm.2.2.2;omega
     conv=>whnf
     refine⟨fun e=>congrArg (DV.int _) (by rw[if_neg (key1 hm e)]),fun e=>?_⟩
     obtain⟨e1,e2⟩:=key2 hm e
     conv=>whnf
     refine⟨by simp;omega,?_⟩
     conv=>whnf
     refine⟨fun hz=>?_,fun hz=>?_⟩
     ·exact congrArg (DV.int _) (by rw [if_neg (fun hn=>by rw [zl] at hz;simp at hz;exact hz (e1.2 hn))])
     ·exact congrArg (DV.int _) (by rw [if_pos (e1.1 (by rw [zl] at hz;simpa using hz))])
    ·have hm:more s k:=⟨hlt',h0',h3',by rw [hwb,hws] at h4;simp at h4;omega⟩
     conv=>whnf
     refine⟨k+1+bt s k,[0,1,2],hk.next hm,by show s.length - (k+1+bt s k)<s.length - k;omega,?_⟩
     have hnx:IntKind.i64.wrap ((k:Int)+IntKind.i64.wrap (1+IntKind.i64.wrap (jc s (k:Int))))=((k+1+bt s k:Nat):Int):=by rw[hwb,qg (1+(bt s k:Int)) (by omega),qg _ (by omega)];omega
     conv=>whnf
     repeat'(first|exact ⟨⟩|exact rfl|apply And.intro)
     all_goals exact congrArg SV.d (congrArg (DV.int _) hnx)
 ·have hm:¬ more s k:=fun hm=>by have:=hm.1;simp at hge;omega
  conv=>whnf
  refine⟨fun e=>congrArg (DV.int _) (by rw[if_neg (key1 hm e)]),fun e=>?_⟩
  obtain⟨e1,e2⟩:=key2 hm e
  conv=>whnf
  refine⟨by simp;omega,?_⟩
  conv=>whnf
  refine⟨fun hz=>?_,fun hz=>?_⟩
  ·exact congrArg (DV.int _) (by rw [if_neg (fun hn=>by rw [zl] at hz;simp at hz;exact hz (e1.2 hn))])
  ·exact congrArg (DV.int _) (by rw [if_pos (e1.1 (by rw [zl] at hz;simpa using hz))])
def low(b:UInt8):UInt8:=if 65<=b/\b<=90 then b+32 else b
def fold(s:List UInt8):List UInt8:=s.map low
theorem qn7(b:UInt8):(low b).toNat=if 65<=b.toNat/\b.toNat<=90 then b.toNat+32 else b.toNat:=by
 unfold low
 have e1:(65<=b)↔65<=b.toNat:=by rw[UInt8.le_iff_toNat_le];rfl
 have e2:(b<=90)↔b.toNat<=90:=by rw[UInt8.le_iff_toNat_le];rfl
 simp only[e1,e2]
 split
 ·rw[UInt8.toNat_add]
  have:(32:UInt8).toNat=32:=rfl
  omega
 ·rfl
def mix(s:List UInt8)(k j:Nat):Int:=if j<k then ((low (s[j]?.getD 0)).toNat:Int) else (bt s j:Int)
theorem xo(s:List UInt8)(hs:s.length<9223372036854775808):FnOk Tryz.prog 51 [.d (.str s)] (.d (.str (fold s))):=by
 refine qn (TT:=TT) (IN:=qd []) qf qe mixed 1000 Tryz.func51 rfl (qc Tryz.func51 (by kernel_rfl) rfl) rfl 28 (by kernel_rfl) ?_
 conv=>whnf
 refine .inv Nat (fun k=>k<=s.length) (fun k=>[(10,.d (.int .i64 k))]) (fun k=>[(0,.row 5 1 s.length .no (fun j=>[.int .u8 (mix s k j)]))]) (fun k=>s.length - k) ⟨0,[0],by omega,?_⟩ ?_
 ·conv=>whnf
  repeat'(first|exact ⟨⟩|exact rfl|apply And.intro)
  intro i hi
  simp[mix,zl]
 intro k hk
 have hk1:k<s.length->IntKind.i64.wrap ((k:Int)+1)=((k+1:Nat):Int):=fun _=>by rw[qg _ (by omega)];omega
 conv=>whnf
 refine⟨fun hlt=>?_,fun hge=>?_⟩
 ·have hlt':k<s.length:=by simpa using hlt
  conv=>whnf
  refine⟨by simp;omega,?_⟩
  have hmk:mix s k (Int.toNat (k:Int))=(bt s k:Int):=by simp[mix]
  have hb:=bt_lt s k
  conv=>whnf
  have stay:¬ (65<=bt s k/\bt s k<=90)->∀ i,i<s.length->[DV.int IntKind.u8 (mix s k i)]=[DV.int IntKind.u8 (mix s (k+1) i)]:=fun hn i hi=>by
   unfold mix
   by_cases e:i=k
   ·subst e
    rw [if_neg (by omega),if_pos (by omega),qn7,if_neg (by unfold bt at hn;exact hn)]
    rfl
   ·by_cases e2:i<k
    ·rw[if_pos e2,if_pos (by omega)]
    ·rw[if_neg e2,if_neg (by omega)]
  rw[hmk]
  refine⟨fun h1=>?_,fun h1=>?_⟩
  ·conv=>whnf
   refine⟨fun h2=>?_,fun h2=>?_⟩
   ·conv=>whnf
    refine⟨by simp;omega,?_⟩
    conv=>whnf
    refine⟨k+1,[0],by omega,by show s.length - (k+1)<s.length - k;omega,?_⟩
    conv=>whnf
    repeat'(first|exact ⟨⟩|exact rfl|apply And.intro)
    all_goals first
     |exact congrArg SV.d (congrArg (DV.int _) (hk1 hlt'))
     |exact stay (by simp at h1 h2;omega)
     |(
      intro i hi
      show oneF _ _ _ _ i=_
      unfold oneF mix
      simp at h1 h2
      by_cases e:i=k
      ·subst e
       simp only[Int.toNat_natCast,if_true,putD,List.set_cons_zero]
       rw [if_pos (by omega),qn7,if_pos (by unfold bt at h1 h2;omega),IntKind.wrap_u8]
       unfold bt at *
       congr 2
       omega
      ·rw[if_neg (by simpa using e)]
       show[DV.int _ _]=[DV.int _ _]
       by_cases e2:i<k
       ·rw[if_pos e2,if_pos (by omega)]
       ·rw[if_neg e2,if_neg (by omega)])
   ·conv=>whnf
    refine⟨k+1,[0],by omega,by show s.length - (k+1)<s.length - k;omega,?_⟩
    conv=>whnf
    repeat'(first|exact ⟨⟩|exact rfl|apply And.intro)
    all_goals first
     |exact congrArg SV.d (congrArg (DV.int _) (hk1 hlt'))
     |exact stay (by simp at h1 h2;omega)
     |(
      intro i hi
      show oneF _ _ _ _ i=_
      unfold oneF mix
      simp at h1 h2
      by_cases e:i=k
      ·subst e
       simp only[Int.toNat_natCast,if_true,putD,List.set_cons_zero]
       rw [if_pos (by omega),qn7,if_pos (by unfold bt at h1 h2;omega),IntKind.wrap_u8]
       unfold bt at *
       congr 2
       omega
      ·rw[if_neg (by simpa using e)]
       show[DV.int _ _]=[DV.int _ _]
       by_cases e2:i<k
       ·rw[if_pos e2,if_pos (by omega)]
       ·rw[if_neg e2,if_neg (by omega)])
  ·conv=>whnf
   refine⟨k+1,[0],by omega,by show s.length - (k+1)<s.length - k;omega,?_⟩
   conv=>whnf
   repeat'(first|exact ⟨⟩|exact rfl|apply And.intro)
   all_goals first
    |exact congrArg SV.d (congrArg (DV.int _) (hk1 hlt'))
    |exact stay (by simp at h1;omega)
    |(
     intro i hi
     show oneF _ _ _ _ i=_
     unfold oneF mix
     simp at h1
     by_cases e:i=k
     ·subst e
      simp only[Int.toNat_natCast,if_true,putD,List.set_cons_zero]
      rw [if_pos (by omega),qn7,if_pos (by unfold bt at h1;omega),IntKind.wrap_u8]
      unfold bt at *
      congr 2
      omega
     ·rw[if_neg (by simpa using e)]
      show[DV.int _ _]=[DV.int _ _]
      by_cases e2:i<k
      ·rw[if_pos e2,if_pos (by omega)]
      ·rw[if_neg e2,if_neg (by omega)])
 ·have hke:k=s.length:=by simp at hge;omega
  subst hke
  conv=>whnf
  refine⟨fun i _=>⟨_,rfl⟩,?_⟩
  conv=>whnf
  refine congrArg DV.str ?_
  unfold ju fold
  apply List.ext_getElem?
  intro i
  rw[List.getElem?_map,List.getElem?_map]
  by_cases hi:i<s.length
  ·rw[List.getElem?_range hi,List.getElem?_eq_getElem hi]
   simp[mix,hi]
  ·rw[List.getElem?_eq_none (by simp;omega),List.getElem?_eq_none (by omega)]
   rfl
def wu(s:List UInt8):Nat->Nat->Nat
 |0,_=>0
 |m+1,k=>if k<s.length/\k<255 then (if bt s k=0 then (if qh (s.take (k+1)) then k+1 else 0) else wu s m (k+1+bt s k)) else 0
def yy(s:List UInt8):Nat:=wu s 256 0
def FAt(s:List UInt8)(k:Nat):Prop:=k<=510/\∃ m,256<=k+m/\wu s m k=yy s
theorem FAt.zero(s:List UInt8):FAt s 0:=⟨by omega,256,by omega,rfl⟩
theorem FAt.step{s:List UInt8}{k:Nat}(h:FAt s k)(h1:k<s.length)(h2:k<255):(yy s=if bt s k=0 then (if qh (s.take (k+1)) then k+1 else 0) else yy s)/\(bt s k≠0->FAt s (k+1+bt s k)):=by
 obtain⟨hk,m,hm,e⟩:=h
 cases m with
 |zero=>omega
 |succ m =>
  simp only [wu,h1,h2,and_self,if_true] at e
  have:=bt_lt s k
  refine⟨?_,fun hb=>⟨by omega,m,by omega,?_⟩⟩
  ·split
   ·rename_i hb;rw [if_pos hb] at e;exact e.symm
   ·rfl
  ·rw [if_neg hb] at e;exact e
theorem FAt.last{s:List UInt8}{k:Nat}(h:FAt s k)(h1:¬ (k<s.length/\k<255)):yy s=0:=by
 obtain⟨hk,m,hm,e⟩:=h
 rw[<-e]
 cases m with
 |zero=>rfl
 |succ m=>simp only[wu,if_neg h1]
theorem brT{b:Bool}{p q:Prop}(h:b=true)(hp:p):(b=true->p)/\(b=false->q):=⟨fun _=>hp,fun e=>(by rw [h] at e;cases e)⟩
theorem brF{b:Bool}{p q:Prop}(h:b=false)(hq:q):(b=true->p)/\(b=false->q):=⟨fun e=>(by rw [h] at e;cases e),fun _=>hq⟩
def strs(l:List (List UInt8))(i:Nat):List DV:=[.str (l[i]?.getD [])]
theorem ql9(l:List (List UInt8))(x:List UInt8)(g:Nat->List DV)(hg:g 0=[.str x]):∀ i,i<l.length+1->catF l.length (strs l) g i=strs (l++[x]) i:=fun i hi=>by
 unfold catF strs
 split
 ·rename_i h;rw[List.getElem?_append_left h]
 ·rename_i h
  have:i=l.length:=by omega
  subst this
  simp[hg]
theorem firstF_le(s:List UInt8):∀ m k,wu s m k<=s.length/\wu s m k<=255:=by
 intro m
 induction m with
 |zero=>intro k;simp[wu]
 |succ m ih =>
  intro k
  simp only[wu]
  split
  ·split
   ·split
    ·omega
    ·omega
   ·exact ih _
  ·omega
theorem firstN_le(s:List UInt8):yy s<=s.length/\yy s<=255:=firstF_le s _ _
def errno(b:Bool):Int:=if b then 0 else 2
theorem lenEq(s:List UInt8)(n:Nat):((s.length:Int) == (n:Int))=(s.length == n):=by
 rw[Bool.eq_iff_iff];simp;omega
end Go.Proofs.YtiiafibkblpbcaaGreat
namespace Go.Proofs
open Go.Shelf Go.RowKit
def Try.lays156_ren:Go.Shelf.Ren:=⟨fun|156=>202|165=>238|166=>180|169=>181|240=>222|241=>271|276=>250|277=>284|n=>n,fun|31=>41|9=>9|3=>3|4=>4|0=>0|20=>20|72=>342|76=>345|70=>340|37=>210|75=>344|127=>403|164=>428|5=>5|80=>172|n=>n,fun|n=>n⟩
theorem Try.lays156:Go.Proofs.Lays.n156 Tryz.prog Try.lays156_ren:={
 mixed:=by kernel_rfl
 f156:=Tryz.func202.trans (congrArg some (by kernel_rfl))
 f165:=Tryz.func238.trans (congrArg some (by kernel_rfl))
 f166:=Tryz.func180.trans (congrArg some (by kernel_rfl))
 f169:=Tryz.func181.trans (congrArg some (by kernel_rfl))
 f240:=Tryz.func222.trans (congrArg some (by kernel_rfl))
 f241:=Tryz.func271.trans (congrArg some (by kernel_rfl))
 f276:=Tryz.func250.trans (congrArg some (by kernel_rfl))
 f277:=Tryz.func284.trans (congrArg some (by kernel_rfl))
 t0:=Tryz.underlying0
 a0:=Tryz.isAgg0
 z0:=Tryz.sizeOf0
 v0:=Tryz.zeroValue0
 t3:=Tryz.underlying3
 a3:=Tryz.isAgg3
 z3:=Tryz.sizeOf3
 v3:=Tryz.zeroValue3
 t4:=Tryz.underlying4
 a4:=Tryz.isAgg4
 z4:=Tryz.sizeOf4
 v4:=Tryz.zeroValue4
 t9:=Tryz.underlying9
 a9:=Tryz.isAgg9
 z9:=Tryz.sizeOf9
 v9:=Tryz.zeroValue9
 t20:=Tryz.underlying20
 a20:=Tryz.isAgg20
 z20:=Tryz.sizeOf20
 v20:=Tryz.zeroValue20
 t31:=Tryz.underlying41
 a31:=Tryz.isAgg41
 z31:=Tryz.sizeOf41
 v31:=Tryz.zeroValue41
 t37:=Tryz.underlying210
 a37:=Tryz.isAgg210
 z37:=Tryz.sizeOf210
 v37:=Tryz.zeroValue210
 t70:=Tryz.underlying340
 a70:=Tryz.isAgg340
 z70:=Tryz.sizeOf340
 v70:=Tryz.zeroValue340
 t72:=Tryz.underlying342
 a72:=Tryz.isAgg342
 z72:=Tryz.sizeOf342
 v72:=Tryz.zeroValue342
 t75:=Tryz.underlying344
 a75:=Tryz.isAgg344
 z75:=Tryz.sizeOf344
 v75:=Tryz.zeroValue344
 t76:=Tryz.underlying345
 a76:=Tryz.isAgg345
 z76:=Tryz.sizeOf345
 v76:=Tryz.zeroValue345
 t127:=Tryz.underlying403
 a127:=Tryz.isAgg403
 z127:=Tryz.sizeOf403
 v127:=Tryz.zeroValue403
 t164:=Tryz.underlying428
 a164:=Tryz.isAgg428
 z164:=Tryz.sizeOf428
 v164:=Tryz.zeroValue428 }
theorem Try.Builder_Extra_156:Builder.Extra Tryz.prog Try.lays156_ren:={
 sizeBuilder:=by kernel_rfl
 liesBuilder:=by kernel_rfl
 t5:=Tryz.underlying5
 a5:=Tryz.isAgg5
 z5:=Tryz.sizeOf5
 v5:=Tryz.zeroValue5
 infoByte:=by kernel_rfl
 cellsByte:=by kernel_rfl
 sizeByte:=by kernel_rfl
 neB5:=by decide }
theorem Try.strings_Join_none(a:Option Addr)(c:Nat)(sep:ByteArray)(w:World) :
 Calls Tryz.prog 202 #[.slice a 0 c,.string sep] w fun e w'=>e = .returned (.string ⟨#[]⟩)/\w'=w:=Any.strings_Join_none Try.lays156 Try.Builder_Extra_156 a c sep w
theorem Try.strings_Join(bk o c:Nat)(xs:List ByteArray)(sep:ByteArray)(w:World)(hcells:∀ (j:Nat) x,xs[j]? = some x->w.cell? ⟨bk,o+j,none⟩=some (.string x))(hbk:bk<w.heap.size)(hN:xs.length<=140737488355328)(hcap:xs.length<=c)(hlen:(Lib.join (xs.map (·.data.toList)) sep.data.toList).length<=140737488355328) :
 Calls Tryz.prog 202 #[.slice (some ⟨bk,o,none⟩) xs.length c,.string sep] w fun e w'=>e = .returned (.string ⟨(Lib.join (xs.map (·.data.toList)) sep.data.toList).toArray⟩)/\Below w.heap.size w w':=Any.strings_Join Try.lays156 Try.Builder_Extra_156 bk o c xs sep w hcells hbk hN hcap hlen
def Try.lays106_ren:Go.Shelf.Ren:=⟨fun|106=>265|213=>282|265=>291|n=>n,fun|9=>9|3=>3|n=>n,fun|n=>n⟩
theorem Try.lays106:Go.Proofs.Lays.n106 Tryz.prog Try.lays106_ren:={
 mixed:=by kernel_rfl
 f106:=Tryz.func265.trans (congrArg some (by kernel_rfl))
 f213:=Tryz.func282.trans (congrArg some (by kernel_rfl))
 f265:=Tryz.func291.trans (congrArg some (by kernel_rfl))
 t3:=Tryz.underlying3
 a3:=Tryz.isAgg3
 z3:=Tryz.sizeOf3
 v3:=Tryz.zeroValue3
 t9:=Tryz.underlying9
 a9:=Tryz.isAgg9
 z9:=Tryz.sizeOf9
 v9:=Tryz.zeroValue9 }
theorem Try.strings_Compare(a b:ByteArray)(w:World) :
 Calls Tryz.prog 265 #[.string a,.string b] w fun e w'=>e = .returned (.int .i64 (Lib.compareBytes a.data.toList b.data.toList))/\w'=w:=Any.strings_Compare Try.lays106 a b w
end Go.Proofs
namespace Go.Proofs.YtiiafibkblpbcaaGreat
open Go Go.Eng
theorem rd_slice{w:World}{M:Nat->Prop}{b:Bool}{n sz:Nat}{f:Nat->List DV}{v:Value}(h:Rd w M (.sl b n sz f) v):(n=0/\v = .slice none 0 0)\/∃ (ad:Addr) (cap:Nat) (u:Nat->Nat->Value),v = .slice (some ad) n cap/\n<=cap /\
 (0<n->ad.block<w.heap.size/\¬ M ad.block)/\(∀ (i j:Nat) (d:DV),i<n->(f i)[j]? = some d->w.cell? (ad.add (i * sz+j))=some (u i j))/\(∀ (i j:Nat) (d:DV),i<n->(f i)[j]? = some d->Rd w M d (u i j)):=by
 cases h with
 |nil=>exact .inl ⟨rfl,rfl⟩
 |sl _ _ _ ad cap u g1 g3 g4 g5 g6=>exact .inr ⟨ad,cap,u,rfl,g1,g3,g5,g6⟩
theorem join_ok(b:Bool)(l:List (List UInt8))(sep:List UInt8)(hn:l.length<=140737488355328)(hj:(Lib.join l sep).length<=140737488355328):FnOk Tryz.prog 202 [.d (.sl b l.length 1 (strs l)),.d (.str sep)] (.d (.str (Lib.join l sep))):=by
 refine⟨qc Tryz.func202 (by kernel_rfl) rfl,fun M w vs _ hM hl hd=>?_⟩
 match vs,hl with
 |[v0,v1],_ =>
  have h0:=jb (hd 0 _ v0 rfl rfl)
  have h1:=xp (hd 1 _ v1 rfl rfl)
  subst h1
  rcases rd_slice h0 with⟨hl0,rfl⟩|⟨ad,cap,u,rfl,g1,g3,g5,g6⟩
  ·have:l=[]:=List.eq_nil_of_length_eq_zero hl0
   subst this
   refine(Try.strings_Join_none none 0 ⟨sep.toArray⟩ w).mono ?_
   rintro e w' ⟨rfl,rfl⟩
   exact⟨_,rfl,Step.refl _ _,.d (.str _)⟩
  ·by_cases hz:l=[]
   ·subst hz
    refine(Try.strings_Join_none (some ad) cap ⟨sep.toArray⟩ w).mono ?_
    rintro e w' ⟨rfl,rfl⟩
    exact⟨_,rfl,Step.refl _ _,.d (.str _)⟩
   ·have hpos:0<l.length:=List.length_pos_iff.2 hz
    obtain⟨hb,_⟩:=g3 hpos
    have hu:∀ i,i<l.length->u i 0=strV (l[i]?.getD []):=fun i hi=>by
     have:=g6 i 0 (.str (l[i]?.getD [])) hi rfl
     exact xp (β:=noE) (.d this)
    have hc0:=g5 0 0 (.str (l[0]?.getD [])) hpos rfl
    have hspot:ad.spot=none:=by
     rw [show ad.add (0 * 1+0)=ad from rfl] at hc0
     unfold World.cell? at hc0
     split at hc0
     ·cases hs:ad.spot with
      |none=>rfl
      |some _=>simp [hs] at hc0
     ·cases hc0
    obtain⟨bk,o,sp⟩:=ad
    simp only at hspot hb
    subst hspot
    have:=Try.strings_Join bk o cap (l.map fun x=>⟨x.toArray⟩) ⟨sep.toArray⟩ w (fun j x hx=>by
     rw [List.getElem?_map,Option.map_eq_some_iff] at hx
     obtain⟨y,hy,rfl⟩:=hx
     have hj:j<l.length:=(List.getElem?_eq_some_iff.1 hy).1
     have h5:=g5 j 0 (.str (l[j]?.getD [])) hj rfl
     rw [hu j hj,yd,hy] at h5
     simpa[strV] using h5) hb (by simpa using hn) (by simpa using g1) (by
      simp only[List.map_map,Function.comp_def,List.toList_toArray,List.map_id']
      exact hj)
    simp only [List.length_map,List.map_map,Function.comp_def,List.toList_toArray,List.map_id'] at this
    refine this.mono ?_
    rintro e w' ⟨rfl,hw⟩
    exact⟨_,rfl,Step.of_below _ hw,.d (.str _)⟩
theorem first_ok(s:List UInt8):FnOk Tryz.prog 237 [.d (.str s)] (.d (.int .i64 (yy s))):=by
 refine qn (TT:=TT) (IN:=qd []) qf qe mixed 1000 Tryz.func237 rfl (qc Tryz.func237 (by kernel_rfl) rfl) rfl 30 (by kernel_rfl) ?_
 conv=>whnf
 refine .inv Nat (fun k=>FAt s k) (fun k=>[(3,.d (.int .i64 k))]) (fun k=>[]) (fun k=>600 - k) ⟨0,[],FAt.zero s,?_⟩ ?_
 ·conv=>whnf
  repeat'(first|exact ⟨⟩|exact rfl|apply And.intro)
 intro k hk
 have hk1:=hk.1
 have hby:=bt_lt s k
 conv=>whnf
 refine⟨fun hlt=>?_,fun hge=>?_⟩
 ·conv=>whnf
  refine⟨fun hlt2=>?_,fun hge2=>?_⟩
  ·have h1:k<s.length:=by simpa using hlt
   have h2:k<255:=by simp at hlt2;omega
   obtain⟨e1,e2⟩:=hk.step h1 h2
   conv=>whnf
   refine⟨by simp;omega,?_⟩
   conv=>whnf
   rw[zl]
   refine⟨fun hb=>?_,fun hb=>?_⟩
   ·have hb':bt s k≠0:=by simpa using hb
    conv=>whnf
    refine⟨by simp;omega,?_⟩
    conv=>whnf
    refine⟨k+1+bt s k,[],e2 hb',by show 600 - (k+1+bt s k)<600 - k;omega,?_⟩
    have hnx:IntKind.i64.wrap ((k:Int)+IntKind.i64.wrap (1+IntKind.i64.wrap (jc s (k:Int))))=((k+1+bt s k:Nat):Int):=by simp(disch:=omega) only[zl,qg];omega
    conv=>whnf
    repeat'(first|exact ⟨⟩|exact rfl|apply And.intro)
    all_goals exact congrArg SV.d (congrArg (DV.int _) hnx)
   ·have hb':bt s k=0:=by simpa using hb
    rw [if_pos hb'] at e1
    have hw:=w64s k (by omega)
    conv=>whnf
    rw[hw]
    refine⟨by omega,?_⟩
    conv=>whnf
    refine oD (j5 _) rfl rfl ?_
    have hsub:sub s 0 ((k+1:Nat):Int)=s.take (k+1):=by simp[sub]
    rw[hsub]
    by_cases hn:qh (s.take (k+1))
    ·rw [if_pos hn] at e1 ⊢
     conv=>whnf
     refine brF (by decide) ?_
     conv=>whnf
     refine congrArg (DV.int _) ?_
     rw[e1,hw]
    ·rw [if_neg hn] at e1 ⊢
     conv=>whnf
     refine brT (by decide) ?_
     conv=>whnf
     exact congrArg (DV.int _) (by rw[e1];rfl)
  ·conv=>whnf
   exact congrArg (DV.int _) (by rw [hk.last (by simp at hge2;omega)];rfl)
 ·conv=>whnf
  exact congrArg (DV.int _) (by rw [hk.last (by simp at hge;omega)];rfl)
def textsF:Nat->List UInt8->Option (List (List UInt8))
 |_,[]=>some []
 |0,_ :: _=>none
 |m+1,a :: r=>if a.toNat<=r.length then (textsF m (r.drop a.toNat)).map (r.take a.toNat :: ·) else none
def qn0(s:List UInt8):Option (List (List UInt8)):=textsF s.length s
def qf3(s:List UInt8):Bool:=match qn0 s with
 |some l=>decide (0<l.length)
 |none=>false
def TAt(s:List UInt8)(k:Nat)(l:List (List UInt8)):Prop:=k<=s.length/\l.length<=k/\∃ m,s.length<=k+m/\(textsF m (s.drop k)).map (l ++ ·)=qn0 s
theorem TAt.zero(s:List UInt8):TAt s 0 []:=⟨Nat.zero_le _,Nat.zero_le _,s.length,by omega,by simp[qn0]⟩
theorem TAt.step{s:List UInt8}{k:Nat}{l:List (List UInt8)}(h:TAt s k l)(hk:k<s.length):(s.length<k+1+bt s k->qn0 s=none)/\(k+1+bt s k<=s.length->TAt s (k+1+bt s k) (l++[(s.drop (k+1)).take (bt s k)])):=by
 obtain⟨h1,h2,m,h3,h4⟩:=h
 have hd:s.drop k=s[k] :: s.drop (k+1):=List.drop_eq_getElem_cons hk
 have hb:bt s k=s[k].toNat:=by simp[bt,hk]
 cases m with
 |zero=>omega
 |succ m =>
  rw [hd] at h4
  simp only [textsF,List.length_drop,<-hb] at h4
  refine⟨fun hlt=>?_,fun hle=>⟨hle,by simp;omega,m,by omega,?_⟩⟩
  ·rw [if_neg (by omega)] at h4
   simpa using h4.symm
  ·rw [if_pos (by omega),List.drop_drop] at h4
   rw[<-h4]
   simp[Function.comp_def]
theorem TAt.last{s:List UInt8}{k:Nat}{l:List (List UInt8)}(h:TAt s k l)(hk:k=s.length):qn0 s=some l:=by
 obtain⟨h1,h2,m,h3,h4⟩:=h
 rw[<-h4,hk,List.drop_length]
 cases m <;> simp[textsF]
theorem texts_ok(s:List UInt8)(hs:s.length<=4096):FnOk Tryz.prog 200 [.d (.str s)] (.tup [.any,.d (.bool (qf3 s))]):=by
 refine qn (TT:=TT) (IN:=qd []) qf qe mixed 1000 Tryz.func200 rfl (qc Tryz.func200 (by kernel_rfl) rfl) rfl 28 (by kernel_rfl) ?_
 conv=>whnf
 refine .nilT 4 9 1 (fun _=>[]) _ _ rfl ?_
 conv=>whnf
 refine .inv (Nat × List (List UInt8)) (fun p=>TAt s p.1 p.2) (fun p=>[(0,.d (.str (s.drop p.1))),(4,.all 0)]) (fun p=>[(0,.row 9 1 p.2.length .iff (strs p.2))]) (fun p=>s.length - p.1) ⟨(0,[]),[0],TAt.zero s,?_⟩ ?_
 ·conv=>whnf
  repeat'(first|exact ⟨⟩|exact rfl|apply And.intro)
  intro i hi
  exact absurd hi (by simp)
 intro p hk
 have hk0:p.1<=s.length:=hk.1
 have hk2:p.2.length<=p.1:=hk.2.1
 have hby:=bt_lt s p.1
 have hlen:(s.drop p.1).length=s.length - p.1:=by simp
 conv=>whnf
 refine⟨fun hne=>?_,fun heq=>?_⟩
 ·have hlt:p.1<s.length:=by
   rcases Nat.lt_or_ge p.1 s.length with e|e
   ·exact e
   ·rw [List.drop_eq_nil_of_le e] at hne;simp at hne
  obtain⟨e1,e2⟩:=TAt.step hk hlt
  have hb0:jc (s.drop p.1) 0=(bt s p.1:Int):=by
   rw[show(0:Int)=((0:Nat):Int) from rfl,zl]
   simp[bt]
  conv=>whnf
  refine⟨by omega,?_⟩
  have hsz:IntKind.i64.wrap (1+IntKind.i64.wrap (jc (s.drop p.1) 0))=((1+bt s p.1:Nat):Int):=by rw[hb0];simp(disch:=omega) only[qg];omega
  conv=>whnf
  rw[hsz]
  refine⟨fun hgt=>?_,fun hle=>?_⟩
  ·conv=>whnf
   refine⟨True.intro,?_,True.intro⟩
   have:qf3 s=false:=by unfold qf3;rw [e1 (by simp at hgt;omega)]
   rw[this]
   exact rfl
  ·have hle':p.1+1+bt s p.1<=s.length:=by simp at hle;omega
   conv=>whnf
   refine⟨by omega,?_⟩
   conv=>whnf
   refine⟨by omega,?_⟩
   conv=>whnf
   refine⟨by omega,?_⟩
   conv=>whnf
   refine⟨(p.1+1+bt s p.1,p.2++[(s.drop (p.1+1)).take (bt s p.1)]),[2],e2 hle',by show s.length - (p.1+1+bt s p.1)<s.length - p.1;omega,?_⟩
   conv=>whnf
   repeat'(first|exact ⟨⟩|exact rfl|apply And.intro)
   ·refine congrArg SV.d (congrArg DV.str ?_)
    show sub (s.drop p.1) _ _=s.drop (p.1+1+bt s p.1)
    simp only[sub,Int.toNat_natCast,List.drop_drop]
    rw[List.take_of_length_le (by simp;omega)]
    congr 1
    omega
   ·simp
   ·refine ql9 _ _ _ ?_
    show[DV.str _]=[DV.str _]
    congr 2
    simp only[sub,Int.toNat_natCast,List.drop_drop]
    rw[show(1:Int).toNat=1 from rfl]
    congr 1
    omega
 ·have hke:p.1=s.length:=by
   simp at heq
   omega
  conv=>whnf
  refine⟨True.intro,?_,True.intro⟩
  have:qf3 s=decide (0<p.2.length):=by unfold qf3;rw[TAt.last hk hke]
  rw[this]
  refine congrArg DV.bool ?_
  simp
def z8:Nat->List UInt8->Option (List (List UInt8) × List UInt8)
 |0,s=>some ([],s)
 |n+1,s=>if yy s=0 then none else (z8 n (s.drop (yy s))).map (fun p=>(s.take (yy s) :: p.1,p.2))
def cutF(a n c:Nat)(s:List UInt8):Option (List UInt8 × List (List UInt8) × List UInt8) :=
 if s.length<2 * a then none else (z8 n (s.drop (2 * a))).bind fun p=>if p.2.length=4 * c then some (s.take (2 * a),p.1,p.2) else none
def partsV(x:List UInt8)(l:List (List UInt8))(r:List UInt8):SV:=.agg [.d (.str x),.d (.sl (Nat.beq l.length 0) l.length 1 (strs l)),.d (.str r)]
def noParts:SV:=.agg [.d (.str []),nilS,.d (.str [])]
def cutR:Option (List UInt8 × List (List UInt8) × List UInt8)->SV
 |none=>.tup [noParts,.d .ff]
 |some (x,l,r)=>.tup [partsV x l r,.d .tt]
structure NAt(n:Nat)(s:List UInt8)(i:Nat)(l:List (List UInt8))(r:List UInt8):Prop where
 le:i<=n
 len:l.length=i
 short:r.length<=s.length
 eq:(z8 (n - i) r).map (fun p=>(l++p.1,p.2))=z8 n s
theorem NAt.zero(n:Nat)(s:List UInt8):NAt n s 0 [] s:=⟨Nat.zero_le _,rfl,Nat.le_refl _,by simp⟩
theorem NAt.step{n:Nat}{s:List UInt8}{i:Nat}{l:List (List UInt8)}{r:List UInt8}(h:NAt n s i l r)(hi:i<n):(yy r=0->z8 n s=none)/\(yy r≠0->NAt n s (i+1) (l++[r.take (yy r)]) (r.drop (yy r))):=by
 have e:=h.eq
 rw [show n - i=(n - (i+1))+1 from by omega] at e
 simp only [z8] at e
 refine ⟨fun h0=>by rw [if_pos h0] at e;simpa using e.symm,fun h0=>⟨hi,by simp [h.len],by have:=h.short;simp;omega,?_⟩⟩
 rw [if_neg h0] at e
 rw[<-e]
 simp[Function.comp_def]
theorem NAt.last{n:Nat}{s:List UInt8}{l:List (List UInt8)}{r:List UInt8}(h:NAt n s n l r):z8 n s=some (l,r):=by
 rw[<-h.eq]
 simp[z8]
theorem cut_ok(a n c:Nat)(ha:a<=100)(hn:n<=100)(hc:c<=100)(s:List UInt8):FnOk Tryz.prog 201 [.agg [.d (.int .i64 a),.d (.int .i64 n),.d (.int .i64 c)],.d (.str s)] (cutR (cutF a n c s)):=by
 refine qn (TT:=TT) (IN:=qd []) qf qe mixed 1000 Tryz.func201 rfl (qc Tryz.func201 (by kernel_rfl) rfl) rfl 56 (by kernel_rfl) ?_
 have h2a:IntKind.i64.wrap (2 * (a:Int))=((2 * a:Nat):Int):=by rw[qg _ (by omega)];omega
 have h4c:IntKind.i64.wrap (4 * (c:Int))=((4 * c:Nat):Int):=by rw[qg _ (by omega)];omega
 conv=>whnf
 rw[h2a]
 refine⟨fun hlt=>?_,fun hge=>?_⟩
 ·have:cutF a n c s=none:=by unfold cutF;rw [if_pos (by simp at hlt;omega)]
  rw[this]
  conv=>whnf
  repeat'(first|exact ⟨⟩|exact rfl|exact Or.inl rfl|exact .inr rfl|exact fun _ _=>rfl|apply And.intro)
 ·have hge':2 * a<=s.length:=by simp at hge;omega
  conv=>whnf
  rw[h2a]
  refine⟨by omega,?_⟩
  conv=>whnf
  rw[h2a]
  refine⟨by omega,?_⟩
  conv=>whnf
  refine .nilC 2 1 9 1 (fun _=>[]) _ _ _ _ rfl rfl ?_
  conv=>whnf
  have hr0:sub s ((2 * a:Nat):Int) (s.length:Int)=s.drop (2 * a):=by
   simp only[sub,Int.toNat_natCast]
   rw[List.take_of_length_le (by simp)]
  have hx0:sub s 0 ((2 * a:Nat):Int)=s.take (2 * a):=by simp only[sub,Int.toNat_natCast];simp
  rw[hr0,hx0]
  refine .inv (Nat × List (List UInt8) × List UInt8) (fun p=>NAt n (s.drop (2 * a)) p.1 p.2.1 p.2.2) (fun p=>[(7,.d (.str p.2.2)),(29,.d (.int .i64 p.1))]) (fun p=>[(2,.cells 368 [.d (.str (s.take (2 * a))),.all 3,.d (.str [])]),(3,.row 9 1 p.2.1.length .iff (strs p.2.1))]) (fun p=>n - p.1) ⟨(0,[],s.drop (2 * a)),[0,1,2,3],NAt.zero _ _,?_⟩ ?_
  ·conv=>whnf
   repeat'(first|exact ⟨⟩|exact rfl|apply And.intro)
   intro i hi
   omega
  intro p hp
  have hp1:=hp.le
  have hp2:=hp.len
  have hp3:=hp.short
  have hf:=firstN_le p.2.2
  simp only [List.length_drop] at hp3
  conv=>whnf
  refine⟨fun hlt=>?_,fun hge=>?_⟩
  ·have hi:p.1<n:=by simpa using hlt
   obtain⟨e1,e2⟩:=hp.step hi
   conv=>whnf
   refine oD (first_ok _) rfl rfl ?_
   conv=>whnf
   refine⟨fun h0=>?_,fun h0=>?_⟩
   ·have h0':yy p.2.2=0:=by simpa using h0
    have:cutF a n c s=none:=by unfold cutF;rw[if_neg (by omega),e1 h0'];rfl
    rw[this]
    conv=>whnf
    repeat'(first|exact ⟨⟩|exact rfl|exact Or.inl rfl|exact .inr rfl|exact fun _ _=>rfl|apply And.intro)
   ·have h0':yy p.2.2≠0:=by simpa using h0
    conv=>whnf
    refine⟨by omega,?_⟩
    conv=>whnf
    refine⟨by omega,?_⟩
    conv=>whnf
    refine⟨by omega,?_⟩
    conv=>whnf
    refine⟨(p.1+1,p.2.1++[p.2.2.take (yy p.2.2)],p.2.2.drop (yy p.2.2)),[0,1,2,5],e2 h0',by show n - (p.1+1)<n - p.1;omega,?_⟩
    have hw:IntKind.i64.wrap ((p.1:Int)+1)=((p.1+1:Nat):Int):=by rw[qg _ (by omega)];omega
    conv=>whnf
    repeat'(first|exact ⟨⟩|exact rfl|apply And.intro)
    ·refine congrArg SV.d (congrArg DV.str ?_)
     simp only[sub,Int.toNat_natCast]
     rw[List.take_of_length_le (by simp)]
    ·exact congrArg SV.d (congrArg (DV.int _) hw)
    ·simp
    ·refine ql9 _ _ _ ?_
     show[DV.str _]=[DV.str _]
     simp[sub]
  ·have hi:p.1=n:=by simp at hge;omega
   rw [hi] at hp
   have hnm:=hp.last
   conv=>whnf
   rw[h4c]
   refine⟨fun hne=>?_,fun heq=>?_⟩
   ·have:cutF a n c s=none:=by unfold cutF;rw [if_neg (by omega),hnm];simp at hne ⊢;omega
    rw[this]
    conv=>whnf
    repeat'(first|exact ⟨⟩|exact rfl|exact Or.inl rfl|exact .inr rfl|exact fun _ _=>rfl|apply And.intro)
   ·have:cutF a n c s=some (s.take (2 * a),p.2.1,p.2.2):=by unfold cutF;rw [if_neg (by omega),hnm];simp at heq ⊢;omega
    rw[this]
    conv=>whnf
    repeat'(first|exact ⟨⟩|exact rfl|exact Or.inl rfl|exact .inr rfl|exact fun _ _=>rfl|apply And.intro)
def ya(t:Int):Option (Nat × Nat × Nat) :=
 if t=2\/t=5\/t=12 then some (0,1,0) else if t=15 then some (1,1,0) else if t=33 then some (3,1,0) else if t=6 then some (0,2,5) else none
def formV(p:Nat × Nat × Nat):SV:=.agg [.d (.int .i64 p.1),.d (.int .i64 p.2.1),.d (.int .i64 p.2.2)]
def formR:Option (Nat × Nat × Nat)->SV
 |some p=>.tup [formV p,.d .tt]
 |none=>.tup [formV (0,0,0),.d .ff]
theorem qg5{t:Int}{p:Nat × Nat × Nat}(h:ya t=some p):p.1<=100/\p.2.1<=100/\p.2.2<=100:=by
 unfold ya at h
 repeat'(split at h)
 all_goals first|(cases h;decide)|cases h
theorem qw1(t:Int):FnOk Tryz.prog 179 [.d (.int .u16 t)] (formR (ya t)):=by
 refine qn (TT:=TT) (IN:=qd []) qf qe mixed 1000 Tryz.func179 rfl (qc Tryz.func179 (by kernel_rfl) rfl) rfl 19 (by kernel_rfl) ?_
 have fin1:t=2\/t=5\/t=12->ya t=some (0,1,0):=fun h=>by unfold ya;rw[if_pos h]
 conv=>whnf
 refine⟨fun h1=>?_,fun h1=>?_⟩
 ·rw[fin1 (.inl (by simpa using h1))]
  conv=>whnf
  refine brT h1 ?_
  conv=>whnf
  repeat'(first|exact ⟨⟩|exact rfl|apply And.intro)
 simp only [beq_eq_false_iff_ne,ne_eq] at h1
 conv=>whnf
 refine⟨fun h2=>?_,fun h2=>?_⟩
 ·rw[fin1 (.inr (.inl (by simpa using h2)))]
  conv=>whnf
  refine brT h2 ?_
  conv=>whnf
  repeat'(first|exact ⟨⟩|exact rfl|apply And.intro)
 simp only [beq_eq_false_iff_ne,ne_eq] at h2
 conv=>whnf
 refine⟨fun h3=>?_,fun h3=>?_⟩
 ·rw[fin1 (.inr (.inr (by simpa using h3)))]
  conv=>whnf
  repeat'(first|exact ⟨⟩|exact rfl|apply And.intro)
 simp only [beq_eq_false_iff_ne,ne_eq] at h3
 conv=>whnf
 refine⟨fun h4=>?_,fun h4=>?_⟩
 ·have:ya t=some (1,1,0):=by unfold ya;simp at h4;simp [h4]
  rw[this]
  conv=>whnf
  repeat'(first|exact ⟨⟩|exact rfl|apply And.intro)
 simp only [beq_eq_false_iff_ne,ne_eq] at h4
 conv=>whnf
 refine⟨fun h5=>?_,fun h5=>?_⟩
 ·have:ya t=some (3,1,0):=by unfold ya;simp at h5;simp [h5]
  rw[this]
  conv=>whnf
  repeat'(first|exact ⟨⟩|exact rfl|apply And.intro)
 simp only [beq_eq_false_iff_ne,ne_eq] at h5
 conv=>whnf
 refine⟨fun h6=>?_,fun h6=>?_⟩
 ·have:ya t=some (0,2,5):=by unfold ya;simp at h6;simp [h6]
  rw[this]
  conv=>whnf
  repeat'(first|exact ⟨⟩|exact rfl|apply And.intro)
 simp only [beq_eq_false_iff_ne,ne_eq] at h6
 have:ya t=none:=by unfold ya;simp[h1,h2,h3,h4,h5,h6]
 rw[this]
 conv=>whnf
 repeat'(first|exact ⟨⟩|exact rfl|apply And.intro)
def xg(t:Int)(s:List UInt8):Bool :=
 if t=1 then s.length == 4 else if t=28 then s.length == 16 else if t=16 then qf3 s else match ya t with
 |some p=>(cutF p.1 p.2.1 p.2.2 s).isSome
 |none=>true
def yb(t:Int)(s:List UInt8):Bool:=decide (s.length<=4096) && xg t s
theorem ql3(t:Int)(s:List UInt8):FnOk Tryz.prog 153 [.d (.int .u16 t),.d (.str s)] (.d (.int .i64 (errno (yb t s)))):=by
 refine qn (TT:=TT) (IN:=qd []) qf qe mixed 1000 Tryz.func153 rfl (qc Tryz.func153 (by kernel_rfl) rfl) rfl 43 (by kernel_rfl) ?_
 conv=>whnf
 refine⟨fun h0=>?_,fun h0=>?_⟩
 ·have:yb t s=false:=by unfold yb;simp at h0;simp;intro h;omega
  rw[this]
  conv=>whnf
  exact rfl
 have hle:s.length<=4096:=by simp at h0;omega
 have hr:yb t s=xg t s:=by unfold yb;simp[hle]
 rw[hr]
 have hlast:∀ b:Bool,xg t s=b->(((!b)=true->(if xg t s=true then (0:Int) else 2)=2)/\((!b)=false->(if xg t s=true then (0:Int) else 2)=0)):=fun b h=>by rw[h];cases b <;> simp
 conv=>whnf
 refine⟨fun h1=>?_,fun h1=>?_⟩
 ·simp only [beq_iff_eq] at h1
  have e:xg t s=((s.length:Int) == 4):=by unfold xg;rw[if_pos h1,<-lenEq];rfl
  obtain⟨l1,l2⟩:=hlast _ e
  conv=>whnf
  refine⟨fun h=>?_,fun h=>?_⟩
  ·conv=>whnf
   exact congrArg (DV.int _) (l1 h).symm
  ·conv=>whnf
   exact congrArg (DV.int _) (l2 h).symm
 simp only [beq_eq_false_iff_ne,ne_eq] at h1
 conv=>whnf
 refine⟨fun h2=>?_,fun h2=>?_⟩
 ·simp only [beq_iff_eq] at h2
  have e:xg t s=((s.length:Int) == 16):=by unfold xg;rw[if_neg h1,if_pos h2,<-lenEq];rfl
  obtain⟨l1,l2⟩:=hlast _ e
  conv=>whnf
  refine⟨fun h=>?_,fun h=>?_⟩
  ·conv=>whnf
   exact congrArg (DV.int _) (l1 h).symm
  ·conv=>whnf
   exact congrArg (DV.int _) (l2 h).symm
 simp only [beq_eq_false_iff_ne,ne_eq] at h2
 conv=>whnf
 refine⟨fun h3=>?_,fun h3=>?_⟩
 ·simp only [beq_iff_eq] at h3
  have e:xg t s=qf3 s:=by unfold xg;rw[if_neg h1,if_neg h2,if_pos h3]
  obtain⟨l1,l2⟩:=hlast _ e
  conv=>whnf
  refine oD (texts_ok s hle) rfl rfl ?_
  conv=>whnf
  refine⟨fun h=>?_,fun h=>?_⟩
  ·conv=>whnf
   exact congrArg (DV.int _) (l1 h).symm
  ·conv=>whnf
   exact congrArg (DV.int _) (l2 h).symm
 simp only [beq_eq_false_iff_ne,ne_eq] at h3
 conv=>whnf
 refine .one (.data _ (qw1 t) rfl ?_ ?_)
 ·cases ya t <;> rfl
 cases hf:ya t with
 |none =>
  have e:xg t s=true:=by unfold xg;rw[if_neg h1,if_neg h2,if_neg h3,hf]
  obtain⟨l1,l2⟩:=hlast _ e
  conv=>whnf
  refine brF (by simpa using h0) ?_
  conv=>whnf
  exact congrArg (DV.int _) (l2 rfl).symm
 |some p =>
  obtain⟨f1,f2,f3⟩:=qg5 hf
  have e:xg t s=(cutF p.1 p.2.1 p.2.2 s).isSome:=by unfold xg;rw[if_neg h1,if_neg h2,if_neg h3,hf]
  obtain⟨l1,l2⟩:=hlast _ e
  conv=>whnf
  refine .one (.data _ (cut_ok p.1 p.2.1 p.2.2 f1 f2 f3 s) rfl ?_ ?_)
  ·cases cutF p.1 p.2.1 p.2.2 s <;> rfl
  cases hc:cutF p.1 p.2.1 p.2.2 s with
  |none =>
   rw [hc] at l1
   conv=>whnf
   exact congrArg (DV.int _) (l1 rfl).symm
  |some q =>
   rw [hc] at l2
   conv=>whnf
   exact congrArg (DV.int _) (l2 rfl).symm
def yf(t:Int)(s:List UInt8):Option ((Nat × Nat × Nat) × (List UInt8 × List (List UInt8) × List UInt8)) :=
 if s.length<=4096 then (ya t).bind fun p=>(cutF p.1 p.2.1 p.2.2 s).map fun q=>(p,q) else none
def lookR:Option ((Nat × Nat × Nat) × (List UInt8 × List (List UInt8) × List UInt8))->SV
 |none=>.tup [.agg [.any,.any,.any],noParts,.d .ff]
 |some (p,x,l,r)=>.tup [formV p,partsV x l r,.d .tt]
theorem look_ok(t:Int)(s:List UInt8):FnOk Tryz.prog 197 [.d (.int .u16 t),.d (.str s)] (lookR (yf t s)):=by
 refine qn (TT:=TT) (IN:=qd []) qf qe mixed 1000 Tryz.func197 rfl (qc Tryz.func197 (by kernel_rfl) rfl) rfl 32 (by kernel_rfl) ?_
 conv=>whnf
 refine .one (.data _ (qw1 t) rfl ?_ ?_)
 ·cases ya t <;> rfl
 cases hf:ya t with
 |none =>
  have e:yf t s=none:=by unfold yf;rw[hf];split <;> rfl
  rw[e]
  conv=>whnf
  repeat'(first|exact ⟨⟩|exact rfl|exact Or.inl rfl|exact .inr rfl|exact fun _ _=>rfl|apply And.intro)
 |some p =>
  obtain⟨f1,f2,f3⟩:=qg5 hf
  conv=>whnf
  refine⟨fun hgt=>?_,fun hle=>?_⟩
  ·have e:yf t s=none:=by unfold yf;rw [if_neg (by simp at hgt;omega)]
   rw[e]
   conv=>whnf
   repeat'(first|exact ⟨⟩|exact rfl|exact Or.inl rfl|exact .inr rfl|exact fun _ _=>rfl|apply And.intro)
  ·have e:yf t s=(cutF p.1 p.2.1 p.2.2 s).map fun q=>(p,q):=by unfold yf;rw [if_pos (by simp at hle;omega),hf];rfl
   rw[e]
   conv=>whnf
   refine .one (.data _ (cut_ok p.1 p.2.1 p.2.2 f1 f2 f3 s) rfl ?_ ?_)
   ·cases cutF p.1 p.2.1 p.2.2 s <;> rfl
   cases hc:cutF p.1 p.2.1 p.2.2 s with
   |none =>
    conv=>whnf
    (apply Exists.intro;apply Exists.intro;apply And.intro;focus ((conv=>whnf);repeat'(first|exact ⟨⟩|exact rfl|apply And.intro)))
    conv=>whnf
    repeat'(first|exact ⟨⟩|exact rfl|exact Or.inl rfl|exact .inr rfl|exact fun _ _=>rfl|apply And.intro)
   |some q =>
    conv=>whnf
    (apply Exists.intro;apply Exists.intro;apply And.intro;focus ((conv=>whnf);repeat'(first|exact ⟨⟩|exact rfl|apply And.intro)))
    conv=>whnf
    repeat'(first|exact ⟨⟩|exact rfl|exact Or.inl rfl|exact .inr rfl|exact fun _ _=>rfl|apply And.intro)
def jx(t:Int)(s:List UInt8):List UInt8:=match yf t s with
 |none=>s
 |some (_,x,l,r)=>x++fold (Lib.join l [])++r
theorem qy6(l:List (List UInt8)):Lib.join l []=l.flatten:=by
 induction l with
 |nil=>rfl
 |cons a l ih=>cases l with
  |nil=>simp[Lib.join]
  |cons b l=>simp [Lib.join] at ih ⊢;rw [ih]
theorem jh2:∀ (n:Nat) (s:List UInt8) (l:List (List UInt8)) (r:List UInt8),z8 n s=some (l,r)->l.length=n/\l.flatten.length+r.length=s.length:=by
 intro n
 induction n with
 |zero=>intro s l r h;simp only [z8,Option.some.injEq,Prod.mk.injEq] at h;obtain ⟨rfl,rfl⟩:=h;simp
 |succ n ih =>
  intro s l r h
  simp only [z8] at h
  split at h
  ·cases h
  ·cases hn:z8 n (s.drop (yy s)) with
   |none=>rw [hn] at h;cases h
   |some p =>
    rw [hn] at h
    simp only [Option.map_some,Option.some.injEq,Prod.mk.injEq] at h
    obtain⟨rfl,rfl⟩:=h
    obtain⟨h1,h2⟩:=ih _ p.1 p.2 hn
    have:=firstN_le s
    refine⟨by simp[h1],?_⟩
    simp only [List.flatten_cons,List.length_append,List.length_take,List.length_drop] at h2 ⊢
    omega
theorem lookF_len{t:Int}{s:List UInt8}{p:Nat × Nat × Nat}{x:List UInt8}{l:List (List UInt8)}{r:List UInt8}(h:yf t s=some (p,x,l,r)):s.length<=4096/\l.length<=100/\x.length+l.flatten.length+r.length=s.length:=by
 unfold yf at h
 split at h
 ·rename_i hs
  cases hf:ya t with
  |none=>rw [hf] at h;cases h
  |some q =>
   rw [hf] at h
   simp only [Option.bind_some] at h
   cases hc:cutF q.1 q.2.1 q.2.2 s with
   |none=>rw [hc] at h;cases h
   |some c =>
    rw [hc] at h
    simp only [Option.map_some,Option.some.injEq,Prod.mk.injEq] at h
    obtain⟨rfl,rfl⟩:=h
    unfold cutF at hc
    split at hc
    ·cases hc
    ·cases hn:z8 q.2.1 (s.drop (2 * q.1)) with
     |none=>rw [hn] at hc;cases hc
     |some y =>
      rw [hn] at hc
      simp only [Option.bind_some] at hc
      split at hc
      ·simp only [Option.some.injEq,Prod.mk.injEq] at hc
       obtain⟨rfl,rfl,rfl⟩:=hc
       obtain⟨h1,h2⟩:=jh2 _ _ y.1 y.2 hn
       have:=(qg5 hf).2.1
       refine⟨hs,by omega,?_⟩
       simp only [List.length_take,List.length_drop] at h2 ⊢
       omega
      ·cases hc
 ·cases h
theorem qx8(t:Int)(s:List UInt8):FnOk Tryz.prog 154 [.d (.int .u16 t),.d (.str s)] (.d (.str (jx t s))):=by
 refine qn (TT:=TT) (IN:=qd []) qf qe mixed 1000 Tryz.func154 rfl (qc Tryz.func154 (by kernel_rfl) rfl) rfl 26 (by kernel_rfl) ?_
 conv=>whnf
 refine .one (.data _ (look_ok t s) rfl ?_ ?_)
 ·cases yf t s <;> rfl
 cases hf:yf t s with
 |none =>
  have e:jx t s=s:=by unfold jx;rw[hf]
  rw[e]
  conv=>whnf
 |some p =>
  obtain⟨p,x,l,r⟩:=p
  obtain⟨h1,h2,h3⟩:=lookF_len hf
  have e:jx t s=x++fold (Lib.join l [])++r:=by unfold jx;rw[hf]
  rw[e]
  conv=>whnf
  refine .data _ (join_ok _ l [] (by omega) (by rw[qy6];omega)) rfl rfl ?_
  conv=>whnf
  refine .data _ (xo _ (by rw[qy6];omega)) rfl rfl ?_
  have hfl:(fold (Lib.join l [])).length=l.flatten.length:=by rw[qy6];simp only[fold,List.length_map]
  conv=>whnf
  refine⟨by omega,?_⟩
  conv=>whnf
  refine⟨by simp only[List.length_append];omega,?_⟩
  conv=>whnf
def ul(t:Int):Bool->List UInt8->List (List UInt8)->Bool
 |_,_,[]=>true
 |b,last,d :: l=>yb t d && !(b && (Op.bytesLess (jx t d) last || jx t d == last)) && ul t true (jx t d) l
def uj(name:List UInt8)(t ttl:Int)(l:List (List UInt8)):Bool :=
 qh name && decide (ttl<=2147483647) && decide (0<l.length/\l.length<=64) && ul t false [] l
def setV(name:List UInt8)(t ttl:Int)(b:Bool)(l:List (List UInt8)):SV:=.agg [.d (.str name),.d (.int .u16 t),.d (.int .u32 ttl),.d (.sl b l.length 1 (strs l))]
theorem scheck_ok(name:List UInt8)(t ttl:Int)(b:Bool)(l:List (List UInt8)):FnOk Tryz.prog 101 [setV name t ttl b l] (.d (.int .i64 (errno (uj name t ttl l)))):=by
 refine qn (TT:=TT) (IN:=qd []) qf qe mixed 1000 Tryz.func101 rfl (qc Tryz.func101 (by kernel_rfl) rfl) rfl 51 (by kernel_rfl) ?_
 have bad:uj name t ttl l=false->errno (uj name t ttl l)=2:=fun h=>by rw[h];rfl
 conv=>whnf
 refine oD (j5 _) rfl rfl ?_
 by_cases hn:qh name
 ·rw[if_pos hn]
  conv=>whnf
  refine brF (by decide) ?_
  conv=>whnf
  refine⟨fun hgt=>?_,fun hle=>?_⟩
  ·rw [bad (by simp only [uj,Bool.and_eq_false_iff,decide_eq_false_iff_not];simp at hgt;omega)]
   conv=>whnf
  conv=>whnf
  refine⟨fun h0=>?_,fun h0=>?_⟩
  ·rw [bad (by simp only [uj,Bool.and_eq_false_iff,decide_eq_false_iff_not];simp at h0;simp [h0])]
   conv=>whnf
  conv=>whnf
  refine⟨fun h1=>?_,fun h1=>?_⟩
  ·rw [bad (by simp only [uj,Bool.and_eq_false_iff,decide_eq_false_iff_not];simp at h1;omega)]
   conv=>whnf
  have hl:0<l.length/\l.length<=64:=by simp at h0 h1;exact ⟨by rw [List.length_pos_iff];exact h0,by omega⟩
  have hsc:uj name t ttl l=ul t false [] l:=by
   unfold uj
   rw[decide_eq_true hl]
   have:ttl<=2147483647:=by simpa using hle
   simp[hn,this]
  rw[hsc]
  conv=>whnf
  refine .inv (Nat × List UInt8) (fun p=>p.1<=l.length/\ul t (decide (0<p.1)) p.2 (l.drop p.1)=ul t false [] l) (fun p=>[(3,.d (.str p.2)),(29,.d (.int .i64 p.1))]) (fun p=>[]) (fun p=>l.length - p.1) ⟨(0,[]),[0],⟨by omega,rfl⟩,?_⟩ ?_
  ·conv=>whnf
   repeat'(first|exact ⟨⟩|exact rfl|apply And.intro)
  intro p hp
  obtain⟨hp1,hp2⟩:=hp
  conv=>whnf
  refine⟨fun hlt=>?_,fun hge=>?_⟩
  ·have hi:p.1<l.length:=by simpa using hlt
   have hd:l.drop p.1=l[p.1] :: l.drop (p.1+1):=List.drop_eq_getElem_cons hi
   rw [hd] at hp2
   simp only [ul] at hp2
   conv=>whnf
   refine⟨by omega,?_⟩
   conv=>whnf
   have hel:l[((p.1:Nat):Int).toNat]?.getD []=l[p.1]:=by simp[hi]
   rw[hel]
   generalize hdd:l[p.1]=d at hp2 ⊢
   refine oD (ql3 t d) rfl rfl ?_
   cases hr:yb t d with
   |false =>
    rw [hr,Bool.false_and,Bool.false_and] at hp2
    rw[show ul t false [] l=false from hp2.symm]
    conv=>whnf
    refine brT (by decide) ?_
    conv=>whnf
    exact rfl
   |true =>
    rw [hr,Bool.true_and] at hp2
    conv=>whnf
    refine brF (by decide) ?_
    conv=>whnf
    refine oD (qx8 t d) rfl rfl ?_
    conv=>whnf
    have fin:∀ z:Bool,((decide (0<p.1) && (Op.bytesLess (jx t d) p.2 || jx t d == p.2))=z)->z=false->ul t true (jx t d) (l.drop (p.1+1))=ul t false [] l:=fun z h1 h2=>by rw [h2] at h1;rw [h1] at hp2;simpa using hp2
    have hw:IntKind.i64.wrap ((p.1:Int)+1)=((p.1+1:Nat):Int):=by rw[qg _ (by omega)];omega
    refine⟨fun hg=>?_,fun hg=>?_⟩
    ·have hg':0<p.1:=by simp at hg;omega
     conv=>whnf
     refine⟨fun hle=>?_,fun hle=>?_⟩
     ·have:(Op.bytesLess (jx t d) p.2 || jx t d == p.2)=true:=hle
      rw [this] at hp2
      rw [decide_eq_true hg'] at hp2
      rw[show ul t false [] l=false from hp2.symm]
      conv=>whnf
      exact rfl
     ·conv=>whnf
      refine⟨(p.1+1,jx t d),[0],⟨hi,?_⟩,by show l.length - (p.1+1)<l.length - p.1;omega,?_⟩
      ·rw[decide_eq_true (Nat.succ_pos _)]
       exact fin _ rfl (by rw[show(Op.bytesLess (jx t d) p.2 || jx t d == p.2)=false from hle,Bool.and_false])
      conv=>whnf
      repeat'(first|exact ⟨⟩|exact rfl|apply And.intro)
      all_goals exact congrArg SV.d (congrArg (DV.int _) hw)
    ·have hg':p.1=0:=by simp at hg;omega
     conv=>whnf
     refine⟨(p.1+1,jx t d),[0],⟨hi,?_⟩,by show l.length - (p.1+1)<l.length - p.1;omega,?_⟩
     ·rw[decide_eq_true (Nat.succ_pos _)]
      exact fin _ rfl (by rw[hg'];rfl)
     conv=>whnf
     repeat'(first|exact ⟨⟩|exact rfl|apply And.intro)
     all_goals exact congrArg SV.d (congrArg (DV.int _) hw)
  ·have hi:p.1=l.length:=by simp at hge;omega
   rw [hi,List.drop_length] at hp2
   rw[<-hp2]
   conv=>whnf
   exact congrArg (DV.int _) rfl
 ·rw[if_neg hn]
  rw[bad (by simp[uj,hn])]
  conv=>whnf
  refine brT (by decide) ?_
  conv=>whnf
structure RR where
 nm:List UInt8
 ty:Int
 cl:Int
 ttl:Int
 d:List UInt8
deriving Inhabited,DecidableEq
def RR.enc(r:RR):List DV:=[.str r.nm,.int .u16 r.ty,.int .u16 r.cl,.int .u32 r.ttl,.str r.d]
def RR.V(r:RR):SV:=.agg [.d (.str r.nm),.d (.int .u16 r.ty),.d (.int .u16 r.cl),.d (.int .u32 r.ttl),.d (.str r.d)]
def RR.check(r:RR):Bool:=decide (qh r.nm) && yb r.ty r.d && (decide (r.ttl<=2147483647) || r.ty == 41)
theorem qg0(r:RR):FnOk Tryz.prog 148 [r.V] (.d (.int .i64 (errno r.check))):=by
 refine qn (TT:=TT) (IN:=qd []) qf qe mixed 1000 Tryz.func148 rfl (qc Tryz.func148 (by kernel_rfl) rfl) rfl 22 (by kernel_rfl) ?_
 conv=>whnf
 refine oD (j5 r.nm) rfl rfl ?_
 by_cases hn:qh r.nm
 ·rw[if_pos hn]
  conv=>whnf
  refine brF rfl ?_
  conv=>whnf
  refine oD (ql3 r.ty r.d) rfl rfl ?_
  cases hc:yb r.ty r.d
  ·have e:r.check=false:=by simp[RR.check,hc]
   rw[e]
   conv=>whnf
   refine brT rfl ?_
   conv=>whnf
   exact rfl
  ·conv=>whnf
   refine brF rfl ?_
   conv=>whnf
   refine⟨fun c1=>?_,fun c1=>?_⟩
   ·have c1':¬ r.ttl<=2147483647:=by
     have:r.ttl > 2147483647:=of_decide_eq_true c1
     omega
    conv=>whnf
    refine⟨fun c2=>?_,fun c2=>?_⟩
    ·have e:r.check=false:=by
      have:¬ r.ty=41:=by simpa using c2
      simp[RR.check,c1',this]
     rw[e]
     conv=>whnf
     exact rfl
    ·have e:r.check=true:=by
      have:r.ty=41:=by simpa using c2
      simp only[RR.check,hn,hc,decide_true,Bool.true_and,Bool.or_eq_true,beq_iff_eq]
      exact .inr this
     rw[e]
     conv=>whnf
     exact rfl
   ·have c1':r.ttl<=2147483647:=by
     have:¬ r.ttl > 2147483647:=of_decide_eq_false c1
     omega
    have e:r.check=true:=by simp[RR.check,hn,hc,c1']
    rw[e]
    conv=>whnf
    exact rfl
 ·rw[if_neg hn]
  have e:r.check=false:=by simp[RR.check,hn]
  rw[e]
  conv=>whnf
  refine brT rfl ?_
  conv=>whnf
  exact rfl
def rrsD(z:Bool)(l:List RR):DV:=.sl z l.length 5 (fun i=>(l.getD i default).enc)
theorem qj0(l:List RR)(q:RR)(j:Nat)(hj:j<l.length+1):catF l.length (fun j=>(l.getD j default).enc) (qz q.enc 5) j=((l++[q]).getD j default).enc:=by
 unfold catF
 split
 ·rename_i h
  show(l.getD j default).enc=_
  rw[List.getD,List.getD,List.getElem?_append_left h]
 ·rename_i h
  have:j=l.length:=by omega
  subst this
  rw[Nat.sub_self,List.getD,List.getElem?_append_right (Nat.le_refl _),Nat.sub_self]
  rfl
structure RR.Ok(r:RR):Prop where
 ty:0<=r.ty/\r.ty<=65535
 cl:0<=r.cl/\r.cl<=65535
 ttl:0<=r.ttl/\r.ttl<=4294967295
def btw(n a b:Int):Bool:=decide (a<=n) && decide (n<=b)
structure Lim where
 many:Int
 window:Int
 slip:Int
 bits:Int
 room:Int
def Lim.cells(l:Lim):List SV:=[.d (.int .i64 l.many),.d (.int .i64 l.window),.d (.int .i64 l.slip),.d (.int .i64 l.bits),.d (.int .i64 l.room)]
def Lim.ok(l:Lim):Bool:=btw l.many 0 1048576 && (btw l.window 1 3600 && (btw l.slip 0 1048576 && (btw l.bits 0 32 && btw l.room 1 4096)))
structure RtS where
 l:Lim
 dom:Nat->Prop
 pf:Nat->Int
 wn:Nat->Int
 ht:Nat->Int
 ov:Nat->Int
 nw:Nat->Nat
 od:Nat->Nat
 newest:Nat
 oldest:Nat
 m:List (Int × Nat)
def entR(i:Nat):List (Int × Nat)->List (List DV × List SV)
 |[]=>[]
 |e :: l=>([.int .u32 e.1],[.ap i e.2 0]) :: entR i l
def RtS.cols(c:RtS)(i:Nat):List Col:=[.int .u32 c.pf,.int .i64 c.wn,.int .i64 c.ht,.int .i64 c.ov,.np i c.nw,.np i c.od]
def RtS.ks(c:RtS)(j:Nat):List KB:=[.cells 154 (c.l.cells++[.map (j+2),.np (j+1) c.newest,.np (j+1) c.oldest]),.arena 263 c.dom (c.cols (j+1)),.map [EK.int .u32] false false (entR (j+1) c.m)]
structure RtS.Fresh(c:RtS)(l:Lim):Prop where
 l:c.l=l
 dom:∀ n,¬ c.dom n
 newest:c.newest=0
 oldest:c.oldest=0
 m:c.m=[]
def rotF(x:Int)(k:Nat):Int:=Go.bits BinOp.or IntKind.u64 (IntKind.u64.wrap (x * 2 ^ k)) (x.fdiv (2 ^ (64 - k)))
structure V4 where
 a:Int
 b:Int
 c:Int
 d:Int
def V4.cells(v:V4):List SV:=[.d (.int .u64 v.a),.d (.int .u64 v.b),.d (.int .u64 v.c),.d (.int .u64 v.d)]
def xr(a b:Int):Int:=Go.bits BinOp.xor IntKind.u64 a b
def ad(a b:Int):Int:=IntKind.u64.wrap (a+b)
def V4.round(v:V4):V4 :=
 let a1:=ad v.a v.b
 let b1:=xr (rotF v.b 13) a1
 let a2:=rotF a1 32
 let c1:=ad v.c v.d
 let d1:=xr (rotF v.d 16) c1
 let a3:=ad a2 d1
 let d2:=xr (rotF d1 21) a3
 let c2:=ad c1 b1
 let b2:=xr (rotF b1 17) c2
 ⟨a3,b2,rotF c2 32,d2⟩
structure Rck where
 two:V4->V4
 four:V4->V4
 word:List UInt8->Int
def Rck.step(R:Rck)(v:V4)(w:Int):V4:=⟨xr (R.two ⟨v.a,v.b,v.c,xr v.d w⟩).a w,(R.two ⟨v.a,v.b,v.c,xr v.d w⟩).b,(R.two ⟨v.a,v.b,v.c,xr v.d w⟩).c,(R.two ⟨v.a,v.b,v.c,xr v.d w⟩).d⟩
def Rck.st(R:Rck)(s:List UInt8)(v:V4):Nat->V4
 |0=>v
 |k+1=>R.step (R.st s v k) (R.word (sub (s.drop (8 * k)) 0 8))
def lastB(n:Nat)(w:Int):Int:=Go.bits BinOp.or IntKind.u64 w (IntKind.u64.wrap (IntKind.u64.wrap n * 2 ^ 56))
def Rck.fin(R:Rck)(s:List UInt8)(v:V4):V4:=R.step (R.st s v (s.length / 8)) (lastB s.length (R.word (s.drop (8 * (s.length / 8)))))
def Rck.beg(R:Rck)(key:List UInt8):V4:=⟨xr (R.word (sub key 0 8)) 8317987319222330741,xr (R.word (sub key 8 key.length)) 7237128888997146477,xr (R.word (sub key 0 8)) 7816392313619706465,xr (R.word (sub key 8 key.length)) 8387220255154660723⟩
def Rck.fin2(R:Rck)(v:V4):Int:=xr (xr (xr (R.four ⟨v.a,v.b,xr v.c 255,v.d⟩).a (R.four ⟨v.a,v.b,xr v.c 255,v.d⟩).b) (R.four ⟨v.a,v.b,xr v.c 255,v.d⟩).c) (R.four ⟨v.a,v.b,xr v.c 255,v.d⟩).d
def Rck.sum(R:Rck)(key s:List UInt8):Int × Int :=
 if key.length≠16 then (0,2) else if 65536<s.length then (0,7) else (R.fin2 (R.fin s (R.beg key)),0)
structure Rck.Ok(R:Rck):Prop where
 two:∀ v:V4,FnOk Tryz.prog 219 [.agg v.cells,.d (.int .i64 2)] (.agg (R.two v).cells)
 four:∀ v:V4,FnOk Tryz.prog 219 [.agg v.cells,.d (.int .i64 4)] (.agg (R.four v).cells)
 word:∀ s:List UInt8,s.length<=8->FnOk Tryz.prog 217 [.d (.str s)] (.d (.int .u64 (R.word s)))
def okL(l:List UInt8):Prop:=1<=l.length/\l.length<=63
def lab(l:List UInt8):List UInt8:=UInt8.ofNat l.length :: l
def mk:List (List UInt8)->List UInt8
 |[]=>[0]
 |l :: ls=>lab l++mk ls
theorem qi5(s:List UInt8)(k j:Nat):bt (s.drop k) j=bt s (k+j):=by simp[bt]
theorem more_drop(s:List UInt8)(k:Nat):more s k↔more (s.drop k) 0:=by
 unfold more
 rw[qi5,Nat.add_zero,List.length_drop]
 omega
theorem qp0:∀ (m:Nat) (s:List UInt8) (k:Nat),xy s m k=k+xy (s.drop k) m 0
 |0,s,k=>rfl
 |m+1,s,k=>by
  simp only[xy]
  by_cases h:more s k
  ·rw[if_pos h,if_pos ((more_drop s k).1 h),qp0 m s,qp0 m (s.drop k),qi5,List.drop_drop,show k+0=k from rfl]
   have e:k+(0+1+bt s k)=k+1+bt s k:=by omega
   rw[e]
   omega
  ·rw[if_neg h,if_neg (fun e=>h ((more_drop s k).2 e))]
   rfl
theorem qd4{n:Nat}(h:n<256):(UInt8.ofNat n).toNat=n:=by
 rw[UInt8.toNat_ofNat'];exact Nat.mod_eq_of_lt h
theorem x7(l t:List UInt8)(h:okL l):bt (lab l++t) 0=l.length:=by
 simp only[bt,lab,List.cons_append,List.getElem?_cons_zero,Option.getD_some]
 exact qd4 (by have:=h.2;omega)
theorem zg(l:List UInt8):(lab l).length=1+l.length:=by simp[lab];omega
theorem uo(ls:List (List UInt8)):0<(mk ls).length:=by cases ls <;> simp[mk,lab]
theorem u7(l t:List UInt8):(lab l++t).drop (1+l.length)=t:=by
 rw[<-zg l,List.drop_left]
theorem qq4(l t:List UInt8):(lab l++t).take (1+l.length)=lab l:=by
 rw[<-zg l,List.take_left]
theorem name_of:∀ (m:Nat) (s:List UInt8),0<s.length->xy s m 0=s.length - 1->bt s (s.length - 1)=0->∃ ls,(∀ l ∈ ls,okL l)/\s=mk ls
 |m,s,h0,h1,h2=>by
  have leaf:s.length=1->∃ ls,(∀ l ∈ ls,okL l)/\s=mk ls:=fun hl=>by
   match s,hl with
   |[b],_ =>
    refine⟨[],(fun l h=>by cases h),?_⟩
    have:b.toNat=0:=by simpa[bt] using h2
    rw[mk,UInt8.toNat_inj.1 (show b.toNat=(0:UInt8).toNat from this)]
  cases m with
  |zero=>exact leaf (by simp [xy] at h1;omega)
  |succ m =>
   simp only [xy] at h1
   split at h1
   ·rename_i hm
    obtain⟨a1,a2,a3,a4⟩:=hm
    rw [qp0] at h1
    have hb:1+bt s 0<s.length:=by omega
    obtain⟨ls,i1,i2⟩:=name_of m (s.drop (0+1+bt s 0)) (by rw[List.length_drop];omega) (by rw[List.length_drop];omega) (by
     rw[qi5,List.length_drop,show 0+1+bt s 0+(s.length - (0+1+bt s 0) - 1)=s.length - 1 by omega]
     exact h2)
    refine⟨(s.drop 1).take (bt s 0) :: ls,fun l hl=>?_,?_⟩
    ·rcases List.mem_cons.1 hl with rfl|hl
     ·have:((s.drop 1).take (bt s 0)).length=bt s 0:=by simp;omega
      unfold okL
      omega
     ·exact i1 l hl
    ·rw[mk,<-i2]
     have hlen:((s.drop 1).take (bt s 0)).length=bt s 0:=by simp;omega
     unfold lab
     rw[hlen]
     match s,a1 with
     |b :: r,_ =>
      have e:bt (b :: r) 0=b.toNat:=by simp[bt]
      rw[e]
      simp[show 0+1+b.toNat=b.toNat+1 by omega]
   ·exact leaf (by omega)
theorem endOf_mk(ls:List (List UInt8))(h:∀ l ∈ ls,okL l):∀ m,(mk ls).length<=m->xy (mk ls) m 0=(mk ls).length - 1:=by
 induction ls with
 |nil =>
  intro m hm
  cases m with
  |zero=>rfl
  |succ m =>
   show(if more [0] 0 then xy [0] m (0+1+bt [0] 0) else 0)=0
   exact if_neg (by rintro ⟨_,h2,_⟩;exact h2 rfl)
 |cons l ls ih =>
  intro m hm
  have hl:=h l (List.mem_cons_self ..)
  have hb:=x7 l (mk ls) hl
  have hlen:(mk (l :: ls)).length=1+l.length+(mk ls).length:=by simp[mk,zg]
  have hp:=uo ls
  cases m with
  |zero=>omega
  |succ m =>
   simp only[xy]
   show(if more (mk (l :: ls)) 0 then xy (mk (l :: ls)) m (0+1+bt (mk (l :: ls)) 0) else 0)=_
   have hbm:bt (mk (l :: ls)) 0=l.length:=hb
   rw[if_pos ⟨by omega,by rw[hbm];have:=hl.1;omega,by rw[hbm];exact hl.2,by rw[hbm];omega⟩,hbm,qp0,Nat.zero_add]
   have:(mk (l :: ls)).drop (1+l.length)=mk ls:=u7 l (mk ls)
   rw[this,ih (fun x hx=>h x (List.mem_cons_of_mem _ hx)) m (by omega)]
   omega
theorem last_mk(ls:List (List UInt8)):bt (mk ls) ((mk ls).length - 1)=0:=by
 induction ls with
 |nil=>rfl
 |cons l ls ih =>
  have hlen:(mk (l :: ls)).length=1+l.length+(mk ls).length:=by simp[mk,zg]
  have hp:=uo ls
  have e:(mk (l :: ls)).drop (1+l.length)=mk ls:=u7 l (mk ls)
  have:=qi5 (mk (l :: ls)) (1+l.length) ((mk ls).length - 1)
  rw [e,ih] at this
  rw[hlen,show 1+l.length+(mk ls).length - 1=1+l.length+((mk ls).length - 1) by omega]
  exact this.symm
theorem qe0(s:List UInt8):qh s↔s.length<=255/\∃ ls,(∀ l ∈ ls,okL l)/\s=mk ls:=by
 constructor
 ·rintro ⟨h1,h2,h3,h4⟩
  exact⟨h2,name_of s.length s h1 h3 (by rw[<-h3];exact h4)⟩
 ·rintro ⟨h1,ls,h2,rfl⟩
  have:=endOf_mk ls h2 (mk ls).length (Nat.le_refl _)
  exact⟨uo ls,h1,this,by unfold lastOf;rw[this];exact last_mk ls⟩
theorem mk_inj:∀ {a b:List (List UInt8)},(∀ l ∈ a,okL l)->(∀ l ∈ b,okL l)->mk a=mk b->a=b
 |[],[],_,_,_=>rfl
 |[],l :: b,_,hb,h=>by
  have h1:=hb l (List.mem_cons_self ..)
  have:=x7 l (mk b) h1
  rw [show lab l++mk b=mk (l :: b) from rfl,<-h] at this
  have h2:=h1.1
  have:(0:Nat)=l.length:=this
  omega
 |l :: a,[],ha,_,h=>by
  have h1:=ha l (List.mem_cons_self ..)
  have:=x7 l (mk a) h1
  rw [show lab l++mk a=mk (l :: a) from rfl,h] at this
  have h2:=h1.1
  have:(0:Nat)=l.length:=this
  omega
 |l :: a,k :: b,ha,hb,h=>by
  have h1:=x7 l (mk a) (ha l (List.mem_cons_self ..))
  have h2:=x7 k (mk b) (hb k (List.mem_cons_self ..))
  have hlen:l.length=k.length:=by
   rw[<-h1,<-h2]
   show bt (mk (l :: a)) 0=bt (mk (k :: b)) 0
   rw[h]
  have e1:lab l=lab k:=by
   have:=congrArg (List.take (1+l.length)) h
   rw [show mk (l :: a)=lab l++mk a from rfl,qq4,hlen,show mk (k :: b)=lab k++mk b from rfl,qq4] at this
   exact this
  have e2:mk a=mk b:=by
   have:=congrArg (List.drop (1+l.length)) h
   rw [show mk (l :: a)=lab l++mk a from rfl,u7,hlen,show mk (k :: b)=lab k++mk b from rfl,u7] at this
   exact this
  have e3:l=k:=(List.cons.inj e1).2
  rw[e3,mk_inj (fun x hx=>ha x (List.mem_cons_of_mem _ hx)) (fun x hx=>hb x (List.mem_cons_of_mem _ hx)) e2]
def yn(s:List UInt8):Nat->List DV:=fun j=>[.int .u8 (jc s j)]
def zt:List (List UInt8 × Int)->List (List DV × List SV)
 |[]=>[]
 |e :: l=>([.str e.1],[.d (.int .i64 e.2)]) :: zt l
theorem yg(ρ:List Nat)(l:List (List UInt8 × Int)):renM ρ (zt l)=zt l:=by
 induction l with
 |nil=>rfl
 |cons e l ih=>simp[zt,renM,renL,renV,ih]
theorem yh(a b:List UInt8)(i:Nat)(h:i<a.length+b.length):catF a.length (yn a) (fun j=>[.int .u8 (jc b j)]) i=yn (a++b) i:=by
 unfold catF yn jc
 split
 ·rename_i hl
  simp[List.getElem?_append_left hl]
 ·rename_i hl
  simp[List.getElem?_append_right (show a.length<=i by omega)]
def boolD(b:Bool):SV:=.d (if b then .tt else .ff)
theorem uc(s:List UInt8):ju s.length (yn s)=s:=by
 apply List.ext_getElem?
 intro i
 unfold ju
 rw[List.getElem?_map]
 by_cases h:i<s.length
 ·rw[List.getElem?_range h,List.getElem?_eq_getElem h]
  simp[yn,jc,h]
 ·rw[List.getElem?_eq_none (by simp;omega),List.getElem?_eq_none (by omega)]
  rfl
structure Wr where
 buf:List UInt8
 limit:Int
 full:Bool
 rests:List (List UInt8 × Int)
def Wr.fl(w:Wr):List KB:=[.cells 288 [.all 2,.d (.int .i64 w.limit),.d (.bool w.full),.map 1],.map [EK.str] false false (zt w.rests),.row 5 1 w.buf.length .iff (yn w.buf)]
structure Wr.Ok(w:Wr):Prop where
 lo : -9223372036854775808<=w.limit
 hi:w.limit<=1048576
 len:w.buf.length=0\/(w.buf.length:Int)<=w.limit
 pl:∀ e ∈ w.rests,0<=e.2/\e.2<16384
def Wr.fits(w:Wr)(s:List UInt8):Bool:=!w.full && (decide (s.length=0) || decide ((s.length:Int)<=w.limit - w.buf.length))
def Wr.piece(w:Wr)(s:List UInt8):Wr:=if w.fits s then { w with buf:=w.buf++s } else { w with full:=true }
theorem Wr.Ok.piece{w:Wr}(h:w.Ok)(s:List UInt8):(w.piece s).Ok:=by
 unfold Wr.piece
 split
 ·rename_i hf
  refine⟨h.lo,h.hi,?_,h.pl⟩
  simp only [Wr.fits,Bool.and_eq_true,Bool.or_eq_true,decide_eq_true_eq] at hf
  have:=h.len
  show(w.buf++s).length=0\/_
  rw[List.length_append]
  rcases hf.2 with h0|h1
  ·rcases this with h2|h2
   ·exact .inl (by omega)
   ·exact .inr (by show(w.buf.length+s.length:Nat)<=w.limit;omega)
  ·exact .inr (by show((w.buf.length+s.length:Nat):Int)<=w.limit;omega)
 ·exact⟨h.lo,h.hi,h.len,h.pl⟩
def fndS{α:Type}:List (List UInt8 × α)->List UInt8->Option α
 |[],_=>none
 |e :: l,a=>if a=e.1 then some e.2 else fndS l a
theorem fndS_mem{α:Type}{l:List (List UInt8 × α)}{a:List UInt8}{x:α}(h:fndS l a=some x):(a,x) ∈ l:=by
 induction l with
 |nil=>cases h
 |cons e l ih =>
  simp only [fndS] at h
  split at h
  ·rename_i e1
   cases h
   subst e1
   exact List.mem_cons_self ..
  ·exact List.mem_cons_of_mem _ (ih h)
theorem find_rests(l:List (List UInt8 × Int))(a:List UInt8):yp (zt l) [.str a]=(fndS l a).map (fun x=>[.d (.int .i64 x)]):=by
 induction l with
 |nil=>rfl
 |cons e l ih =>
  show(if jj [.str a] [.str e.1] then some [.d (.int .i64 e.2)] else yp (zt l) [.str a])=_
  have:jj [.str a] [.str e.1]=decide (a=e.1):=by
   rw[Bool.eq_iff_iff]
   simp[jj,dEq]
  rw[this,ih,fndS]
  by_cases h:a=e.1 <;> simp[h]
theorem put_rests(l:List (List UInt8 × Int))(a:List UInt8)(x:Int)(h:fndS l a=none):putM (zt l) [.str a] [.d (.int .i64 x)]=zt (l++[(a,x)]):=by
 induction l with
 |nil=>rfl
 |cons e l ih =>
  show(if jj [.str a] [.str e.1] then _ else ([.str e.1],[.d (.int .i64 e.2)]) :: putM (zt l) [.str a] [.d (.int .i64 x)])=_
  simp only [fndS] at h
  split at h
  ·cases h
  ·rename_i hne
   have:jj [.str a] [.str e.1]=decide (a=e.1):=by
    rw[Bool.eq_iff_iff]
    simp[jj,dEq]
   rw[this,ih h]
   simp[hne,zt]
theorem qh2(w:Wr)(hw:w.Ok)(s:List UInt8)(hs:s.length<4611686018427387904):COk Tryz.prog 144 [.ptr 0 0,.d (.str s)] [pk w.fl] (fun r k=>∃ w1,k=[pk (Wr.fl w1)]/\(r=boolD (w.fits s)/\w1=w.piece s)):=by
 refine COk.toThing Wr.fl (qb9 (TT:=TT) (IN:=qd []) qf qe mixed 1000 Tryz.func144 rfl (qc Tryz.func144 (by kernel_rfl) rfl) 41 (by kernel_rfl) rfl ?_ ?_)
 ·rintro r l ⟨w1,_,rfl,_⟩
  cases w.fits s <;> rfl
 have hlen:=hw.len
 have hhi:=hw.hi
 have hlo:=hw.lo
 conv=>whnf
 refine⟨fun h1=>?_,fun h1=>?_⟩
 ·have hf:w.fits s=false:=by simp[Wr.fits,h1]
  conv=>whnf
  refine⟨[0,1,2],.d .ff,w.fl,rfl,rfl,rfl,?_,_,rfl,by rw[hf];rfl,?_⟩
  ·repeat'(first|exact ⟨⟩|exact rfl|exact fun _=>Iff.rfl|exact fun _ _=>rfl|exact yg _ _|exact(List.length_append ..).symm|exact yh _ _|apply And.intro)
  ·unfold Wr.piece
   rw[hf]
   show w=Wr.mk w.buf w.limit true w.rests
   rw[<-h1]
 have hwr:IntKind.i64.wrap (w.limit - w.buf.length)=w.limit - w.buf.length:=qg _ (by omega)
 have good:(s.length=0\/(s.length:Int)<=w.limit - w.buf.length)->w.fits s=true:=fun h=>by
  simp only[Wr.fits,h1,Bool.not_false,Bool.true_and,Bool.or_eq_true,decide_eq_true_eq]
  exact h
 conv=>whnf
 refine⟨fun h2=>?_,fun h2=>?_⟩
 ·have h2':0<s.length:=by
   have:(s.length:Int) > 0:=of_decide_eq_true h2
   omega
  conv=>whnf
  rw[hwr]
  refine⟨fun h3=>?_,fun h3=>?_⟩
  ·have h3':(s.length:Int) > w.limit - w.buf.length:=of_decide_eq_true h3
   have hf:w.fits s=false:=by
    simp only[Wr.fits,h1,Bool.not_false,Bool.true_and,Bool.or_eq_false_iff,decide_eq_false_iff_not]
    omega
   conv=>whnf
   refine⟨[0,1,2],.d .ff,(w.piece s).fl,rfl,rfl,rfl,?_,_,rfl,by rw[hf];rfl,rfl⟩
   unfold Wr.piece
   rw[hf]
   repeat'(first|exact ⟨⟩|exact rfl|exact fun _=>Iff.rfl|exact fun _ _=>rfl|exact yg _ _|exact(List.length_append ..).symm|exact yh _ _|apply And.intro)
  ·have h3':¬ (s.length:Int) > w.limit - w.buf.length:=of_decide_eq_false h3
   have hf:=good (.inr (by omega))
   conv=>whnf
   refine⟨by omega,?_⟩
   conv=>whnf
   refine⟨[0,1,3],.d .tt,(w.piece s).fl,rfl,rfl,rfl,?_,_,rfl,by rw[hf];rfl,rfl⟩
   unfold Wr.piece
   rw[hf]
   repeat'(first|exact ⟨⟩|exact rfl|exact fun _=>Iff.rfl|exact fun _ _=>rfl|exact yg _ _|exact(List.length_append ..).symm|exact yh _ _|apply And.intro)
 ·have h2':s.length=0:=by
   have:¬ ((s.length:Int) > 0):=of_decide_eq_false h2
   omega
  have hf:=good (.inl h2')
  conv=>whnf
  refine⟨by omega,?_⟩
  conv=>whnf
  refine⟨[0,1,3],.d .tt,(w.piece s).fl,rfl,rfl,rfl,?_,_,rfl,by rw[hf];rfl,rfl⟩
  unfold Wr.piece
  rw[hf]
  repeat'(first|exact ⟨⟩|exact rfl|exact fun _=>Iff.rfl|exact fun _ _=>rfl|exact yg _ _|exact(List.length_append ..).symm|exact yh _ _|apply And.intro)
def be8(n:Int):List Int:=[n.fdiv (2 ^ 56),n.fdiv (2 ^ 48),n.fdiv (2 ^ 40),n.fdiv (2 ^ 32),n.fdiv (2 ^ 24),n.fdiv (2 ^ 16),n.fdiv (2 ^ 8),n.fdiv (2 ^ 0)].map IntKind.u8.wrap
def be(width:Nat)(n:Int):List UInt8:=vm ((be8 n).drop (8 - width))
def Wr.num(w:Wr)(width:Nat)(n:Int):Wr:=w.piece (be width n)
theorem z7(w:Wr)(hw:w.Ok)(width:Nat)(hd:width=1\/width=2\/width=4\/width=8)(n:Int):COk Tryz.prog 84 [.ptr 0 0,.d (.int .i64 width),.d (.int .u64 n)] [pk w.fl] (fun r k=>∃ w1,k=[pk (Wr.fl w1)]/\(r = .tup []/\w1=w.num width n)):=by
 refine ji (TT:=TT) (IN:=qd [(120,Tryz.f120,1)]) qf (qv qe Tryz.func120 (by kernel_rfl) (by kernel_rfl)) mixed 1000 Tryz.func84 rfl (qc Tryz.func84 (by kernel_rfl) rfl) 26 (by kernel_rfl) ?_
 rcases hd with rfl|rfl|rfl|rfl
 ·conv=>whnf
  repeat(first|(refine brT rfl ?_;conv=>whnf)|(refine brF rfl ?_;conv=>whnf)|(refine .once ?_;conv=>whnf)|(refine⟨by decide,?_⟩;conv=>whnf)|(refine And.intro (Nat.le_of_ble_eq_true rfl) ?_;conv=>whnf))
  refine .rel _ (COk.thing Wr.fl (qh2 w hw (be 1 n) (by show(1:Nat)<_;omega)) [] [_] _ rfl rfl) (fun r ks' hR=>?_)
  obtain⟨_,w1,⟨rfl,rfl⟩,rfl,rfl⟩:=hR
  conv=>whnf
  exact⟨[0],.tup [],[pk (w.num 1 n).fl],rfl,rfl,rfl,⟨fun _ _ _ _ h=>⟨jn _,h⟩,True.intro⟩,_,rfl,rfl,rfl⟩
 ·conv=>whnf
  repeat(first|(refine brT rfl ?_;conv=>whnf)|(refine brF rfl ?_;conv=>whnf)|(refine .once ?_;conv=>whnf)|(refine⟨by decide,?_⟩;conv=>whnf)|(refine And.intro (Nat.le_of_ble_eq_true rfl) ?_;conv=>whnf))
  refine .rel _ (COk.thing Wr.fl (qh2 w hw (be 2 n) (by show(2:Nat)<_;omega)) [] [_] _ rfl rfl) (fun r ks' hR=>?_)
  obtain⟨_,w1,⟨rfl,rfl⟩,rfl,rfl⟩:=hR
  conv=>whnf
  exact⟨[0],.tup [],[pk (w.num 2 n).fl],rfl,rfl,rfl,⟨fun _ _ _ _ h=>⟨jn _,h⟩,True.intro⟩,_,rfl,rfl,rfl⟩
 ·conv=>whnf
  repeat(first|(refine brT rfl ?_;conv=>whnf)|(refine brF rfl ?_;conv=>whnf)|(refine .once ?_;conv=>whnf)|(refine⟨by decide,?_⟩;conv=>whnf)|(refine And.intro (Nat.le_of_ble_eq_true rfl) ?_;conv=>whnf))
  refine .rel _ (COk.thing Wr.fl (qh2 w hw (be 4 n) (by show(4:Nat)<_;omega)) [] [_] _ rfl rfl) (fun r ks' hR=>?_)
  obtain⟨_,w1,⟨rfl,rfl⟩,rfl,rfl⟩:=hR
  conv=>whnf
  exact⟨[0],.tup [],[pk (w.num 4 n).fl],rfl,rfl,rfl,⟨fun _ _ _ _ h=>⟨jn _,h⟩,True.intro⟩,_,rfl,rfl,rfl⟩
 ·conv=>whnf
  repeat(first|(refine brT rfl ?_;conv=>whnf)|(refine brF rfl ?_;conv=>whnf)|(refine .once ?_;conv=>whnf)|(refine⟨by decide,?_⟩;conv=>whnf)|(refine And.intro (Nat.le_of_ble_eq_true rfl) ?_;conv=>whnf))
  refine .rel _ (COk.thing Wr.fl (qh2 w hw (be 8 n) (by show(8:Nat)<_;omega)) [] [_] _ rfl rfl) (fun r ks' hR=>?_)
  obtain⟨_,w1,⟨rfl,rfl⟩,rfl,rfl⟩:=hR
  conv=>whnf
  exact⟨[0],.tup [],[pk (w.num 8 n).fl],rfl,rfl,rfl,⟨fun _ _ _ _ h=>⟨jn _,h⟩,True.intro⟩,_,rfl,rfl,rfl⟩
def Wr.nameGo(p:Bool):Nat->Wr->List UInt8->Wr
 |0,w,n=>w.piece n
 |m+1,w,n=>if 1<n.length then
  match fndS w.rests n with
  |some a=>if p then w.num 2 (49152+a) else
   if w.fits (n.take (1+bt n 0)) then nameGo p m (w.piece (n.take (1+bt n 0))) (n.drop (1+bt n 0)) else w.piece (n.take (1+bt n 0))
  |none =>
   if w.fits (n.take (1+bt n 0)) then nameGo p m (if w.buf.length<16384 then { w.piece (n.take (1+bt n 0)) with rests:=w.rests++[(n,(w.buf.length:Int))] } else w.piece (n.take (1+bt n 0))) (n.drop (1+bt n 0))
   else w.piece (n.take (1+bt n 0))
  else w.piece n
def Wr.name(w:Wr)(n:List UInt8)(p:Bool):Wr:=if w.full=true\/¬ qh n then w else Wr.nameGo p n.length w n
def Wr.flL(w:Wr):List (Nat × KB):=[(0,.cells 288 [.all 2,.d (.int .i64 w.limit),.d (.bool w.full),.map 1]),(1,.map [EK.str] false false (zt w.rests)),(2,.row 5 1 w.buf.length .iff (yn w.buf))]
structure NmSt where
 w:Wr
 n:List UInt8
 m:Nat
theorem mapM_rests(σ:Nat->Nat)(l:List (List UInt8 × Int)):mapM σ (zt l)=zt l:=by
 induction l with
 |nil=>rfl
 |cons e l ih=>simp[zt,mapM,mapL,mapV,ih]
def Wr.fx(w:Wr):List KB:=[.cells 288 [.all 4,.d (.int .i64 w.limit),.d (.bool w.full),.map 3],.gone,.gone,.map [EK.str] false false (zt w.rests),.row 5 1 w.buf.length .iff (yn w.buf)]
theorem expl_wr(w:Wr):expl 3 w.fl=w.fx:=by
 show[KB.cells 288 [.all 4,.d (.int .i64 w.limit),.d (.bool w.full),.map 3],.gone,.gone,.map [EK.str] false false (mapM (expS 3) (zt w.rests)),.row 5 1 w.buf.length .iff (yn w.buf)]=_
 rw[mapM_rests]
 rfl
theorem piece_x(w:Wr)(hw:w.Ok)(s:List UInt8)(hs:s.length<4611686018427387904):COk Tryz.prog 144 [.ptr 0 0,.d (.str s)] w.fl (fun r k=>r=boolD (w.fits s)/\k=(w.piece s).fx) :=
 ((
  (qh2 w hw s hs).imp (R':=fun r l=>∃ k1,l=[pk k1]/\(r=boolD (w.fits s)/\k1=(w.piece s).fl)) (fun r k ⟨w1,h1,h2,h3⟩=>⟨_,h1,h2,by rw[h3]⟩)).explode (by show 0<3;omega) rfl (fun r l ⟨h,_⟩=>by rw[h];cases w.fits s <;> rfl)).imp
  fun r k ⟨k1,⟨h1,h2⟩,h3⟩=>⟨h1,by rw[h3,h2];exact expl_wr _⟩
theorem num_x(w:Wr)(hw:w.Ok)(width:Nat)(hd:width=1\/width=2\/width=4\/width=8)(n:Int):COk Tryz.prog 84 [.ptr 0 0,.d (.int .i64 width),.d (.int .u64 n)] w.fl (fun r k=>r = .tup []/\k=(w.num width n).fx) :=
 ((
  (z7 w hw width hd n).imp (R':=fun r l=>∃ k1,l=[pk k1]/\(r = .tup []/\k1=(w.num width n).fl)) (fun r k ⟨w1,h1,h2,h3⟩=>⟨_,h1,h2,by rw[h3]⟩)).explode (by show 0<3;omega) rfl (fun r l ⟨h,_⟩=>by rw[h];rfl)).imp
  fun r k ⟨k1,⟨h1,h2⟩,h3⟩=>⟨h1,by rw[h3,h2];exact expl_wr _⟩
theorem name_ok(w:Wr)(hw:w.Ok)(n:List UInt8)(p:Bool):COk Tryz.prog 149 [.ptr 0 0,.d (.str n),.d (.bool p)] [pk w.fl] (fun r k=>∃ w1,k=[pk (Wr.fl w1)]/\(r = .tup []/\w1=w.name n p)):=by
 refine COk.toThing Wr.fl (qb9 (TT:=TT) (IN:=qd []) qf qe mixed 1000 Tryz.func149 rfl (qc Tryz.func149 (by kernel_rfl) rfl) 74 (by kernel_rfl) rfl ?_ ?_)
 ·rintro r l ⟨w1,_,rfl,_⟩
  rfl
 conv=>whnf
 refine⟨fun h1=>?_,fun h1=>?_⟩
 ·have hf:w.name n p=w:=by simp[Wr.name,h1]
  conv=>whnf
  refine⟨[0,1,2],.tup [],w.fl,rfl,rfl,rfl,?_,_,rfl,rfl,hf.symm⟩
  repeat'(first|exact ⟨⟩|exact rfl|exact fun _=>Iff.rfl|exact fun _ _=>rfl|exact yg _ _|exact(List.length_append ..).symm|exact yh _ _|apply And.intro)
 conv=>whnf
 refine oD (j5 n) rfl rfl ?_
 by_cases hn:qh n
 rotate_left
 ·rw[if_neg hn]
  have hf:w.name n p=w:=by simp[Wr.name,hn]
  conv=>whnf
  refine brT rfl ?_
  conv=>whnf
  refine⟨[0,1,2],.tup [],w.fl,rfl,rfl,rfl,?_,_,rfl,rfl,hf.symm⟩
  repeat'(first|exact ⟨⟩|exact rfl|exact fun _=>Iff.rfl|exact fun _ _=>rfl|exact yg _ _|exact(List.length_append ..).symm|exact yh _ _|apply And.intro)
 rw[if_pos hn]
 have hgo0:w.name n p=Wr.nameGo p n.length w n:=by simp[Wr.name,h1,hn]
 obtain⟨hlen0,ls0,hls0,hn0⟩:=(qe0 n).1 hn
 conv=>whnf
 refine brF rfl ?_
 conv=>whnf
 refine .inv NmSt (fun s=>s.w.Ok/\s.w.full=false/\(∃ ls,(∀ l ∈ ls,okL l)/\s.n=mk ls/\s.n.length<=s.m)/\s.n.length<=255/\Wr.nameGo p s.m s.w s.n=w.name n p) (fun s=>[(1,.d (.str s.n))]) (fun s=>s.w.flL) (fun s=>s.m) ⟨⟨w,n,n.length⟩,[0,1,2],⟨hw,h1,⟨ls0,hls0,hn0,Nat.le_refl _⟩,hlen0,hgo0.symm⟩,?_⟩ ?_
 ·conv=>whnf
  repeat'(first|exact ⟨⟩|exact rfl|exact fun _=>Iff.rfl|exact fun _ _=>rfl|exact yg _ _|exact(List.length_append ..).symm|exact yh _ _|apply And.intro)
 clear hgo0 hn0 hls0 hlen0
 intro s hs
 obtain⟨hw,hfull,⟨ls,hls,hsn,hm⟩,hlen,hgo⟩:=hs
 conv=>whnf
 generalize s.w=w1 at hw hfull hgo ⊢
 generalize s.n=n1 at hsn hlen hgo hm ⊢
 generalize s.m=m1 at hm hgo ⊢
 refine⟨fun k1=>?_,fun k1=>?_⟩
 ·have k1':1<n1.length:=by
   have:(n1.length:Int) > 1:=of_decide_eq_true k1
   omega
  conv=>whnf
  refine⟨_,find_rests w1.rests n1,?_⟩
  obtain⟨l,ls',rfl⟩:∃ l ls',ls=l :: ls':=by
   cases ls with
   |nil=>rw [hsn] at k1';simp [mk] at k1'
   |cons l ls'=>exact⟨l,ls',rfl⟩
  have hl:=hls l (List.mem_cons_self ..)
  have hls':∀ x ∈ ls',okL x:=fun x hx=>hls x (List.mem_cons_of_mem _ hx)
  have hb:bt n1 0=l.length:=by rw[hsn];exact x7 l (mk ls') hl
  have htk:n1.take (1+l.length)=lab l:=by rw[hsn];exact qq4 l (mk ls')
  have hdr:n1.drop (1+l.length)=mk ls':=by rw[hsn];exact u7 l (mk ls')
  have hnl:n1.length=1+l.length+(mk ls').length:=by rw[hsn,mk,List.length_append,zg]
  have hby:jc n1 0=(l.length:Int):=by rw[show(0:Int)=((0:Nat):Int) from rfl,zl,hb]
  have hl2:=hl.2
  have hsz:IntKind.i64.wrap (1+IntKind.i64.wrap (jc n1 0))=((1+l.length:Nat):Int):=by
   rw[hby,qg (l.length:Int) (by omega),qg _ (by omega)]
   omega
  have hs1:sub n1 0 ((1+l.length:Nat):Int)=lab l:=by
   unfold sub
   rw[Int.toNat_natCast]
   simpa using htk
  have hs2:sub n1 ((1+l.length:Nat):Int) (n1.length:Int)=mk ls':=by
   unfold sub
   rw[Int.toNat_natCast,Int.toNat_natCast,hdr,List.take_of_length_le (by omega)]
  obtain⟨m2,rfl⟩:∃ m2,m1=m2+1:=⟨m1 - 1,by omega⟩
  have hpo:=hw.piece (lab l)
  have hll:(lab l).length<4611686018427387904:=by rw[zg];omega
  rcases hq:fndS w1.rests n1 with _|a
  ·have hgo2:(if w1.fits (lab l) then Wr.nameGo p m2 (if w1.buf.length<16384 then { w1.piece (lab l) with rests:=w1.rests++[(n1,(w1.buf.length:Int))] } else w1.piece (lab l)) (mk ls') else w1.piece (lab l))=w.name n p:=by
    rw[<-hgo,Wr.nameGo,if_pos k1',hq,hb,htk,hdr]
   conv=>whnf
   refine⟨by omega,?_⟩
   conv=>whnf
   rw[hsz]
   refine⟨by omega,?_⟩
   conv=>whnf
   rw[hs1]
   refine .rel _ (piece_x w1 hw (lab l) hll) (fun r ks' hR=>?_)
   obtain⟨rfl,rfl⟩:=hR
   cases hf:w1.fits (lab l)
   ·rw [hf] at hgo2
    conv=>whnf
    refine⟨[0,3,4],.tup [],(w1.piece (lab l)).fl,rfl,rfl,rfl,?_,_,rfl,rfl,hgo2⟩
    repeat'(first|exact ⟨⟩|exact rfl|exact fun _=>Iff.rfl|exact fun _ _=>rfl|exact yg _ _|exact(List.length_append ..).symm|exact yh _ _|apply And.intro)
   ·rw [hf] at hgo2
    have hfull2:(w1.piece (lab l)).full=false:=by unfold Wr.piece;rw[if_pos hf];exact hfull
    conv=>whnf
    have hrs:(w1.piece (lab l)).rests=w1.rests:=by unfold Wr.piece;split <;> rfl
    refine⟨fun k2=>?_,fun k2=>?_⟩
    ·have k2':w1.buf.length<16384:=by
      have:(w1.buf.length:Int)<16384:=of_decide_eq_true k2
      omega
     rw [if_pos rfl,if_pos k2'] at hgo2
     conv=>whnf
     rw[hrs]
     refine⟨_,put_rests w1.rests n1 _ hq,?_⟩
     conv=>whnf
     refine⟨by omega,?_⟩
     conv=>whnf
     rw[hs2]
     refine⟨⟨{ w1.piece (lab l) with rests:=w1.rests++[(n1,(w1.buf.length:Int))] },mk ls',m2⟩,[0,3,4],⟨⟨hpo.lo,hpo.hi,hpo.len,fun e he=>?_⟩,hfull2,⟨ls',hls',rfl,by show(mk ls').length<=m2;omega⟩,by show(mk ls').length<=255;omega,hgo2⟩,by show m2<m2+1;omega,?_⟩
     rotate_left
     ·conv=>whnf
      repeat'(first|exact ⟨⟩|exact rfl|exact fun _=>Iff.rfl|exact fun _ _=>rfl|exact yg _ _|exact(List.length_append ..).symm|exact yh _ _|apply And.intro)
     rcases List.mem_append.1 he with he|he
     ·exact hw.pl e he
     ·rw[List.mem_singleton.1 he]
      show 0<=(w1.buf.length:Int)/\(w1.buf.length:Int)<16384
      omega
    ·have k2':¬ w1.buf.length<16384:=by
      have:¬ (w1.buf.length:Int)<16384:=of_decide_eq_false k2
      omega
     rw [if_pos rfl,if_neg k2'] at hgo2
     conv=>whnf
     refine⟨by omega,?_⟩
     conv=>whnf
     rw[hs2]
     refine⟨⟨w1.piece (lab l),mk ls',m2⟩,[0,3,4],⟨hpo,hfull2,⟨ls',hls',rfl,by show(mk ls').length<=m2;omega⟩,by show(mk ls').length<=255;omega,hgo2⟩,by show m2<m2+1;omega,?_⟩
     conv=>whnf
     repeat'(first|exact ⟨⟩|exact rfl|exact fun _=>Iff.rfl|exact fun _ _=>rfl|exact yg _ _|exact(List.length_append ..).symm|exact yh _ _|apply And.intro)
  ·have hpl:=hw.pl _ (fndS_mem hq)
   have hor:bits .or .u64 49152 (IntKind.u64.wrap a)=49152+a:=by
    obtain ⟨a',rfl⟩:∃ a':Nat,a=(a':Int):=⟨a.toNat,by have:=hpl.1;simp only at this;omega⟩
    have h1:a'<16384:=by have:=hpl.2;simp only at this;omega
    rw[IntKind.wrap_u64,show((a':Int) % 18446744073709551616)=(a':Int) by omega]
    have:=u64_or_nat 49152 a' (by omega) (by omega)
    rw [show ((49152:Nat):Int)=49152 from rfl] at this
    rw[this,<-Nat.two_pow_add_eq_or_of_lt (i:=14) (show a'<2 ^ 14 by omega) 3]
    omega
   conv=>whnf
   refine⟨fun kp=>?_,fun kp=>?_⟩
   ·have hfin:w1.num 2 (49152+a)=w.name n p:=by rw[<-hgo,Wr.nameGo,if_pos k1',hq,kp];rfl
    conv=>whnf
    rw[hor]
    refine .rel _ (num_x w1 hw 2 (.inr (.inl rfl)) (49152+a)) (fun r ks' hR=>?_)
    obtain⟨rfl,rfl⟩:=hR
    conv=>whnf
    refine⟨[0,3,4],.tup [],(w1.num 2 (49152+a)).fl,rfl,rfl,rfl,?_,_,rfl,rfl,hfin⟩
    repeat'(first|exact ⟨⟩|exact rfl|exact fun _=>Iff.rfl|exact fun _ _=>rfl|exact yg _ _|exact(List.length_append ..).symm|exact yh _ _|apply And.intro)
   ·have hgo2:(if w1.fits (lab l) then Wr.nameGo p m2 (w1.piece (lab l)) (mk ls') else w1.piece (lab l))=w.name n p:=by
     rw[<-hgo,Wr.nameGo,if_pos k1',hq,kp,hb,htk,hdr]
     rfl
    conv=>whnf
    refine⟨by omega,?_⟩
    conv=>whnf
    rw[hsz]
    refine⟨by omega,?_⟩
    conv=>whnf
    rw[hs1]
    refine .rel _ (piece_x w1 hw (lab l) hll) (fun r ks' hR=>?_)
    obtain⟨rfl,rfl⟩:=hR
    cases hf:w1.fits (lab l)
    ·rw [hf] at hgo2
     conv=>whnf
     refine⟨[0,3,4],.tup [],(w1.piece (lab l)).fl,rfl,rfl,rfl,?_,_,rfl,rfl,hgo2⟩
     repeat'(first|exact ⟨⟩|exact rfl|exact fun _=>Iff.rfl|exact fun _ _=>rfl|exact yg _ _|exact(List.length_append ..).symm|exact yh _ _|apply And.intro)
    ·rw [hf] at hgo2
     have hfull2:(w1.piece (lab l)).full=false:=by unfold Wr.piece;rw[if_pos hf];exact hfull
     conv=>whnf
     refine⟨by omega,?_⟩
     conv=>whnf
     rw[hs2]
     refine⟨⟨w1.piece (lab l),mk ls',m2⟩,[0,3,4],⟨hpo,hfull2,⟨ls',hls',rfl,by show(mk ls').length<=m2;omega⟩,by show(mk ls').length<=255;omega,hgo2⟩,by show m2<m2+1;omega,?_⟩
     conv=>whnf
     repeat'(first|exact ⟨⟩|exact rfl|exact fun _=>Iff.rfl|exact fun _ _=>rfl|exact yg _ _|exact(List.length_append ..).symm|exact yh _ _|apply And.intro)
 ·have k1':n1.length=1:=by
   have:¬ (n1.length:Int) > 1:=of_decide_eq_false k1
   have:=uo ls
   rw [<-hsn] at this
   omega
  conv=>whnf
  refine .rel _ (piece_x w1 hw n1 (by omega)) (fun r ks' hR=>?_)
  obtain⟨rfl,rfl⟩:=hR
  have hfin:w1.piece n1=w.name n p:=by
   rw[<-hgo]
   cases m1 with
   |zero=>rfl
   |succ m=>rw[Wr.nameGo,if_neg (by omega)]
  conv=>whnf
  refine⟨[0,3,4],.tup [],(w1.piece n1).fl,rfl,rfl,rfl,?_,_,rfl,rfl,hfin⟩
  repeat'(first|exact ⟨⟩|exact rfl|exact fun _=>Iff.rfl|exact fun _ _=>rfl|exact yg _ _|exact(List.length_append ..).symm|exact yh _ _|apply And.intro)
theorem wlen_ok(w:Wr):COk Tryz.prog 150 [.ptr 0 0] [pk w.fl] (fun r k=>∃ w1,k=[pk (Wr.fl w1)]/\(r = .d (.int .i64 w.buf.length)/\w1=w)):=by
 refine COk.toThing Wr.fl (qb9 (TT:=TT) (IN:=qd []) qf qe mixed 1000 Tryz.func150 rfl (qc Tryz.func150 (by kernel_rfl) rfl) 9 (by kernel_rfl) rfl ?_ ?_)
 ·rintro r l ⟨w1,_,rfl,_⟩
  rfl
 conv=>whnf
 refine⟨[0,1,2],.d (.int .i64 w.buf.length),w.fl,rfl,rfl,rfl,?_,_,rfl,rfl,rfl⟩
 repeat'(first|exact ⟨⟩|exact rfl|exact fun _=>Iff.rfl|exact fun _ _=>rfl|exact yg _ _|exact(List.length_append ..).symm|exact yh _ _|apply And.intro)
theorem out_ok(w:Wr):COk Tryz.prog 86 [.ptr 0 0] [pk w.fl] (fun r k=>∃ w1,k=[pk (Wr.fl w1)]/\(r=(if w.full then .tup [.d (.str []),.d (.int .i64 7)] else .tup [.d (.str w.buf),.d (.int .i64 0)])/\w1=w)):=by
 refine COk.toThing Wr.fl (qb9 (TT:=TT) (IN:=qd []) qf qe mixed 1000 Tryz.func86 rfl (qc Tryz.func86 (by kernel_rfl) rfl) 14 (by kernel_rfl) rfl ?_ ?_)
 ·rintro r l ⟨w1,_,rfl,_⟩
  split <;> rfl
 conv=>whnf
 refine⟨fun h1=>?_,fun h1=>?_⟩
 ·conv=>whnf
  rw[h1]
  refine⟨[0,1,2],.tup [.d (.str []),.d (.int .i64 7)],w.fl,rfl,rfl,rfl,?_,_,rfl,rfl,rfl⟩
  repeat'(first|exact ⟨⟩|exact rfl|exact fun _=>Iff.rfl|exact fun _ _=>rfl|exact yg _ _|exact(List.length_append ..).symm|exact yh _ _|apply And.intro)
 ·conv=>whnf
  refine⟨fun i _=>⟨_,rfl⟩,?_⟩
  conv=>whnf
  rw[h1,uc]
  refine⟨[0,1,2],.tup [.d (.str w.buf),.d (.int .i64 0)],w.fl,rfl,rfl,rfl,?_,_,rfl,rfl,rfl⟩
  repeat'(first|exact ⟨⟩|exact rfl|exact fun _=>Iff.rfl|exact fun _ _=>rfl|exact yg _ _|exact(List.length_append ..).symm|exact yh _ _|apply And.intro)
theorem wnew_ok(limit:Int):COk Tryz.prog 83 [.d (.int .i64 limit)] [] (fun r k=>r = .ptr 0 0/\k=[pk (Wr.fl ⟨[],limit,false,[]⟩)]):=by
 have h:COk Tryz.prog 83 [.d (.int .i64 limit)] [] (fun r k=>r = .ptr 0 0/\k=[.cells 288 [nilS,.d (.int .i64 limit),.d (.bool false),.map 1],.map [EK.str] false false []]):=by
  refine ji (TT:=TT) (IN:=qd []) qf qe mixed 1000 Tryz.func83 rfl (qc Tryz.func83 (by kernel_rfl) rfl) 6 (by kernel_rfl) ?_
  conv=>whnf
  refine⟨[1,0],.ptr 0 0,_,rfl,rfl,rfl,?_,rfl,rfl⟩
  repeat'(first|exact ⟨⟩|exact rfl|exact fun _=>Iff.rfl|exact fun _ _=>rfl|exact renM_ent rfl _|apply And.intro)
 refine((h.nilCell (R':=fun r k=>r = .ptr 0 0/\k=Wr.fl ⟨[],limit,false,[]⟩) 5 1 (fun s k hh=>by obtain⟨rfl,rfl⟩:=hh;exact .inr ⟨0,0,_,_,_,_,yn [],rfl,rfl,rfl,rfl⟩)).packNew (fun s k ⟨h1,_⟩=>by rw[h1];rfl)).imp (fun s k ⟨k1,h1,h2,h3⟩=>⟨h2,by rw[h1,h3]⟩)
theorem u8_byte(n:Int):((UInt8.ofNat (IntKind.u8.wrap n).toNat).toNat:Int)=IntKind.u8.wrap n:=by
 have h:0<=IntKind.u8.wrap n/\IntKind.u8.wrap n<256:=by rw[IntKind.wrap_u8];omega
 rw[qd4 (by omega)]
 omega
def two(s:List UInt8)(k:Nat)(a b:UInt8):List UInt8:=s.take k++(a :: b :: s.drop (k+2))
theorem two_len(s:List UInt8)(k:Nat)(a b:UInt8)(h:k+2<=s.length):(two s k a b).length=s.length:=by
 simp[two];omega
theorem two_row(s:List UInt8)(k:Nat)(x y:Int)(h:k+2<=s.length)(i:Nat)(hi:i<s.length) :
 midF k 2 (yn s) (qz [.int .u8 (IntKind.u8.wrap x),.int .u8 (IntKind.u8.wrap y)] 1) i=yn (two s k (UInt8.ofNat (IntKind.u8.wrap x).toNat) (UInt8.ofNat (IntKind.u8.wrap y).toNat)) i:=by
 have hk:(s.take k).length=k:=by simp;omega
 unfold midF
 split
 ·rename_i hc
  have:i=k\/i=k+1:=by omega
  rcases this with rfl|rfl
  ·rw[Nat.sub_self]
   show[DV.int .u8 (IntKind.u8.wrap x)]=_
   unfold yn jc two
   rw[Int.toNat_natCast,List.getElem?_append_right (by omega),hk,Nat.sub_self]
   simp only[List.getElem?_cons_zero,Option.getD_some]
   rw[u8_byte]
  ·rw[show k+1 - k=1 by omega]
   show[DV.int .u8 (IntKind.u8.wrap y)]=_
   unfold yn jc two
   rw[Int.toNat_natCast,List.getElem?_append_right (by omega),hk,show k+1 - k=1 by omega]
   simp only[List.getElem?_cons_succ,List.getElem?_cons_zero,Option.getD_some]
   rw[u8_byte]
 ·rename_i hc
  unfold yn jc two
  rw[Int.toNat_natCast]
  congr 3
  by_cases hik:i<k
  ·rw[List.getElem?_append_left (by omega),List.getElem?_take,if_pos hik]
  ·rw[List.getElem?_append_right (by omega),hk]
   obtain⟨j,rfl⟩:∃ j,i=k+2+j:=⟨i - (k+2),by omega⟩
   rw[show k+2+j - k=j+1+1 by omega]
   simp only[List.getElem?_cons_succ,List.getElem?_drop]
def Wr.set(w:Wr)(at_ n:Int):Wr:=if at_<0\/at_ > w.buf.length - 2 then w else { w with buf:=two w.buf at_.toNat (UInt8.ofNat (IntKind.u8.wrap (n.fdiv 256)).toNat) (UInt8.ofNat (IntKind.u8.wrap n).toNat) }
theorem wset_ok(w:Wr)(hw:w.Ok)(at_ n:Int):COk Tryz.prog 152 [.ptr 0 0,.d (.int .i64 at_),.d (.int .u16 n)] [pk w.fl] (fun r k=>∃ w1,k=[pk (Wr.fl w1)]/\(r = .tup []/\w1=w.set at_ n)):=by
 refine COk.toThing Wr.fl (qb9 (TT:=TT) (IN:=qd []) qf qe mixed 1000 Tryz.func152 rfl (qc Tryz.func152 (by kernel_rfl) rfl) 34 (by kernel_rfl) rfl ?_ ?_)
 ·rintro r l ⟨w1,_,rfl,_⟩
  rfl
 conv=>whnf
 refine⟨fun h1=>?_,fun h1=>?_⟩
 ·conv=>whnf
  have h1':at_<0:=of_decide_eq_true h1
  refine⟨[0,1,2],.tup [],w.fl,rfl,rfl,rfl,?_,_,rfl,rfl,by unfold Wr.set;rw[if_pos (.inl h1')]⟩
  repeat'(first|exact ⟨⟩|exact rfl|exact fun _=>Iff.rfl|exact fun _ _=>rfl|exact yg _ _|exact(List.length_append ..).symm|exact yh _ _|apply And.intro)
 have h1':¬ at_<0:=of_decide_eq_false h1
 have hlen:=hw.len
 have hhi:=hw.hi
 have hwr:IntKind.i64.wrap ((w.buf.length:Int) - 2)=w.buf.length - 2:=qg _ (by omega)
 conv=>whnf
 rw[hwr]
 refine⟨fun h2=>?_,fun h2=>?_⟩
 ·have h2':at_ > w.buf.length - 2:=of_decide_eq_true h2
  conv=>whnf
  refine⟨[0,1,2],.tup [],w.fl,rfl,rfl,rfl,?_,_,rfl,rfl,by unfold Wr.set;rw[if_pos (.inr h2')]⟩
  repeat'(first|exact ⟨⟩|exact rfl|exact fun _=>Iff.rfl|exact fun _ _=>rfl|exact yg _ _|exact(List.length_append ..).symm|exact yh _ _|apply And.intro)
 ·have h2':¬ at_ > w.buf.length - 2:=of_decide_eq_false h2
  conv=>whnf
  refine⟨by decide,?_⟩
  conv=>whnf
  refine⟨by omega,?_⟩
  conv=>whnf
  refine⟨by decide,?_⟩
  conv=>whnf
  refine⟨⟨by show 2<=_;omega,by omega⟩,?_⟩
  have h3:at_.toNat+2<=w.buf.length:=by omega
  conv=>whnf
  refine⟨[0,1,2],.tup [],(w.set at_ n).fl,rfl,rfl,rfl,?_,_,rfl,rfl,rfl⟩
  unfold Wr.set
  rw[if_neg (by omega)]
  repeat'(first|exact ⟨⟩|exact rfl|exact yg _ _|exact(two_len _ _ _ _ h3).symm|exact two_row _ _ _ _ h3|apply And.intro)
structure Rdr where
 s:List UInt8
 p:Nat
 bad:Bool
def Rdr.kb(r:Rdr):KB:=.cells 252 [.d (.str r.s),.d (.int .i64 r.p),.d (.bool r.bad)]
structure Rdr.Ok(r:Rdr):Prop where
 len:r.s.length<=9223372036854775807
 p:r.p<=r.s.length
def Rdr.raw(r:Rdr)(n:Int):Rdr × List UInt8:=if r.bad then (r,[]) else if n<0\/n > r.s.length - r.p then ({ r with bad:=true },[]) else ({ r with p:=r.p+n.toNat },(r.s.drop r.p).take n.toNat)
theorem Rdr.Ok.raw{r:Rdr}(h:r.Ok)(n:Int):(r.raw n).1.Ok:=by
 unfold Rdr.raw
 split
 ·exact h
 ·split
  ·exact⟨h.len,h.p⟩
  ·refine⟨h.len,?_⟩
   show r.p+n.toNat<=r.s.length
   omega
theorem open_ok(s:List UInt8):COk Tryz.prog 57 [.d (.str s)] [] (fun r k=>r = .ptr 0 0/\k=[Rdr.kb ⟨s,0,false⟩]):=by
 refine ji (TT:=TT) (IN:=qd []) qf qe mixed 1000 Tryz.func57 rfl (qc Tryz.func57 (by kernel_rfl) rfl) 5 (by kernel_rfl) ?_
 conv=>whnf
 refine⟨[0],.ptr 0 0,_,rfl,rfl,rfl,?_,rfl,rfl⟩
 repeat'(first|exact ⟨⟩|exact rfl|exact fun _=>Iff.rfl|exact fun _ _=>rfl|exact renM_ent rfl _|apply And.intro)
theorem um(r:Rdr)(hr:r.Ok)(n:Int)(hn : -9223372036854775808<=n/\n<=9223372036854775807):COk Tryz.prog 122 [.ptr 0 0,.d (.int .i64 n)] [r.kb] (fun s k=>∃ r1,k=[Rdr.kb r1]/\(s = .d (.str (r.raw n).2)/\r1=(r.raw n).1)):=by
 refine ji (TT:=TT) (IN:=qd [(67,Tryz.f67,1),(121,Tryz.f121,1)]) qf (qv (qv qe Tryz.func121 (by kernel_rfl) (by kernel_rfl)) Tryz.func67 (by kernel_rfl) (by kernel_rfl)) mixed 1000 Tryz.func122 rfl (qc Tryz.func122 (by kernel_rfl) rfl) 46 (by kernel_rfl) ?_
 have hlen:=hr.len
 have hp:=hr.p
 have hwr:IntKind.i64.wrap ((r.s.length:Int) - r.p)=(r.s.length:Int) - r.p:=qg _ (by omega)
 conv=>whnf
 refine⟨fun h1=>?_,fun h1=>?_⟩
 ·have e:r.raw n=(r,[]):=by unfold Rdr.raw;rw[if_pos h1]
  rw[e]
  conv=>whnf
  refine⟨[0],.d (.str []),[r.kb],rfl,rfl,rfl,?_,_,rfl,rfl,rfl⟩
  repeat'(first|exact ⟨⟩|exact rfl|exact fun _=>Iff.rfl|exact fun _ _=>rfl|exact renM_ent rfl _|apply And.intro)
 conv=>whnf
 refine⟨fun h2=>?_,fun h2=>?_⟩
 ·have h2':n<0:=of_decide_eq_true h2
  have e:r.raw n=({ r with bad:=true },[]):=by unfold Rdr.raw;rw[if_neg (by simp[h1]),if_pos (.inl h2')]
  rw[e]
  conv=>whnf
  repeat(first|(refine brT rfl ?_;conv=>whnf)|(refine brF rfl ?_;conv=>whnf)|(refine .once ?_;conv=>whnf)|(refine⟨by decide,?_⟩;conv=>whnf)|(refine And.intro (Nat.le_of_ble_eq_true rfl) ?_;conv=>whnf))
  refine⟨[0],.d (.str []),[Rdr.kb { r with bad:=true }],rfl,rfl,rfl,?_,_,rfl,rfl,rfl⟩
  repeat'(first|exact ⟨⟩|exact rfl|exact fun _=>Iff.rfl|exact fun _ _=>rfl|exact renM_ent rfl _|apply And.intro)
 have h2':¬ n<0:=of_decide_eq_false h2
 conv=>whnf
 rw[hwr]
 refine⟨fun h3=>?_,fun h3=>?_⟩
 ·have h3':n > (r.s.length:Int) - r.p:=of_decide_eq_true h3
  have e:r.raw n=({ r with bad:=true },[]):=by unfold Rdr.raw;rw[if_neg (by simp[h1]),if_pos (.inr h3')]
  rw[e]
  conv=>whnf
  repeat(first|(refine brT rfl ?_;conv=>whnf)|(refine brF rfl ?_;conv=>whnf)|(refine .once ?_;conv=>whnf)|(refine⟨by decide,?_⟩;conv=>whnf)|(refine And.intro (Nat.le_of_ble_eq_true rfl) ?_;conv=>whnf))
  refine⟨[0],.d (.str []),[Rdr.kb { r with bad:=true }],rfl,rfl,rfl,?_,_,rfl,rfl,rfl⟩
  repeat'(first|exact ⟨⟩|exact rfl|exact fun _=>Iff.rfl|exact fun _ _=>rfl|exact renM_ent rfl _|apply And.intro)
 ·have h3':¬ n > (r.s.length:Int) - r.p:=of_decide_eq_false h3
  have e:r.raw n=({ r with p:=r.p+n.toNat },(r.s.drop r.p).take n.toNat):=by unfold Rdr.raw;rw[if_neg (by simp[h1]),if_neg (by omega)]
  have e1:IntKind.i64.wrap ((r.p:Int)+n)=((r.p+n.toNat:Nat):Int):=by rw[qg _ (by omega)];omega
  have e2:IntKind.i64.wrap (((r.p+n.toNat:Nat):Int) - n)=(r.p:Int):=by rw[qg _ (by omega)];omega
  have e3:sub r.s (r.p:Int) ((r.p+n.toNat:Nat):Int)=(r.s.drop r.p).take n.toNat:=by
   unfold sub
   rw[Int.toNat_natCast,Int.toNat_natCast,show r.p+n.toNat - r.p=n.toNat by omega]
  rw[e]
  conv=>whnf
  rw[e1,e2]
  refine⟨by omega,?_⟩
  rw[e3]
  conv=>whnf
  refine⟨[0],.d (.str ((r.s.drop r.p).take n.toNat)),[Rdr.kb { r with p:=r.p+n.toNat }],rfl,rfl,rfl,?_,_,rfl,rfl,rfl⟩
  repeat'(first|exact ⟨⟩|exact rfl|exact fun _=>Iff.rfl|exact fun _ _=>rfl|exact renM_ent rfl _|apply And.intro)
theorem jk{P:Program}{f:FuncId}{al al':List SV}{a:Rdr}{Q:SV->Rdr->Prop}(h:COk P f al [a.kb] (fun s k=>∃ a1,k=[Rdr.kb a1]/\Q s a1))(pre rest:List KB)(σ:Nat->Nat)(hσ:σ=sig (List.range' pre.length 1) (pre.length+(1+rest.length)))(ha:mapL σ al=al') :
 COk P f al' (pre++(a.kb :: rest)) (fun s k=>∃ s0 a1,Q s0 a1/\s=mapV σ s0/\k=pre++(Rdr.kb a1 :: rest)) :=
 COk.fam (fun a _=>[Rdr.kb a]) 1 (fun _ _=>rfl) (fun _ _ _ _=>rfl) h pre rest σ hσ ha
theorem Rdr.raw_len{r:Rdr}(n:Nat)(h:(r.raw n).1.bad=false):(r.raw n).2.length=n:=by
 unfold Rdr.raw at h ⊢
 split
 ·rename_i hb;rw [if_pos hb] at h;rw [hb] at h;cases h
 ·rename_i hb
  rw [if_neg hb] at h
  split
  ·rename_i hc;rw [if_pos hc] at h;cases h
  ·simp
   omega
theorem acc1(x y:Nat)(hx:x<72057594037927936)(hy:y<256):bits .or .u64 (IntKind.u64.wrap ((x:Int) * 2 ^ 8)) (IntKind.u64.wrap (y:Int))=((x * 256+y:Nat):Int):=by
 have e1:IntKind.u64.wrap ((x:Int) * 2 ^ 8)=((x * 256:Nat):Int):=by rw[IntKind.wrap_u64];omega
 have e2:IntKind.u64.wrap (y:Int)=(y:Int):=by rw[IntKind.wrap_u64];omega
 rw[e1,e2,u64_or_nat _ _ (by omega) (by omega)]
 have:=Nat.two_pow_add_eq_or_of_lt (i:=8) (show y<2 ^ 8 by omega) x
 rw[show x * 256=2 ^ 8 * x by omega,<-this]
theorem acc8(y0 y1 y2 y3 y4 y5 y6 y7:Nat)(h0:y0<256)(h1:y1<256)(h2:y2<256)(h3:y3<256)(h4:y4<256)(h5:y5<256)(h6:y6<256)(h7:y7<256) :
 bits .or .u64 (IntKind.u64.wrap (bits .or .u64 (IntKind.u64.wrap (bits .or .u64 (IntKind.u64.wrap (bits .or .u64 (IntKind.u64.wrap (bits .or .u64 (IntKind.u64.wrap (bits .or .u64 (IntKind.u64.wrap (bits .or .u64 (IntKind.u64.wrap (bits .or .u64 (IntKind.u64.wrap (0 * 2 ^ 8)) (IntKind.u64.wrap (y0:Int)) * 2 ^ 8)) (IntKind.u64.wrap (y1:Int)) * 2 ^ 8)) (IntKind.u64.wrap (y2:Int)) * 2 ^ 8)) (IntKind.u64.wrap (y3:Int)) * 2 ^ 8)) (IntKind.u64.wrap (y4:Int)) * 2 ^ 8)) (IntKind.u64.wrap (y5:Int)) * 2 ^ 8)) (IntKind.u64.wrap (y6:Int)) * 2 ^ 8)) (IntKind.u64.wrap (y7:Int)) =
 ((((((((((0 * 256+y0) * 256+y1) * 256+y2) * 256+y3) * 256+y4) * 256+y5) * 256+y6) * 256+y7:Nat)):Int):=by
 have e0:=acc1 0 y0 (by omega) h0
 rw [show ((0:Nat):Int)=0 from rfl] at e0
 rw[e0,acc1 _ y1 (by omega) h1,acc1 _ y2 (by omega) h2,acc1 _ y3 (by omega) h3,acc1 _ y4 (by omega) h4,acc1 _ y5 (by omega) h5,acc1 _ y6 (by omega) h6,acc1 _ y7 (by omega) h7]
theorem xn{α:Type}{l:List α}{n:Nat}(h:l.length=n+1):∃ a t,l=a :: t/\t.length=n:=by
 cases l with
 |nil=>simp at h
 |cons a t=>exact⟨a,t,rfl,by simpa using h⟩
def yt(s:List UInt8):Nat:=s.foldl (fun n b=>n * 256+b.toNat) 0
def wideN(n:Nat):Prop:=n=1\/n=2\/n=4\/n=8
def Rdr.num(r:Rdr)(width:Nat):Rdr × Nat:=((r.raw width).1,if (r.raw width).1.bad then 0 else yt (r.raw width).2)
theorem zn(r:Rdr)(hr:r.Ok)(width:Nat)(hw:wideN width):COk Tryz.prog 58 [.ptr 0 0,.d (.int .i64 width)] [r.kb] (fun s k=>∃ r1,k=[Rdr.kb r1]/\(s = .d (.int .u64 (r.num width).2)/\r1=(r.num width).1)):=by
 refine ji (TT:=TT) (IN:=qd [(120,Tryz.f120,1),(67,Tryz.f67,1)]) qf (qv (qv qe Tryz.func67 (by kernel_rfl) (by kernel_rfl)) Tryz.func120 (by kernel_rfl) (by kernel_rfl)) mixed 1000 Tryz.func58 rfl (qc Tryz.func58 (by kernel_rfl) rfl) 34 (by kernel_rfl) ?_
 rcases hw with rfl|rfl|rfl|rfl
 ·conv=>whnf
  repeat(first|(refine brT rfl ?_;conv=>whnf)|(refine brF rfl ?_;conv=>whnf)|(refine .once ?_;conv=>whnf)|(refine⟨by decide,?_⟩;conv=>whnf)|(refine And.intro (Nat.le_of_ble_eq_true rfl) ?_;conv=>whnf))
  refine .rel _ (jk (um r hr 1 (by omega)) [] [] _ rfl rfl) (fun x ks' hR=>?_)
  obtain⟨_,r1,⟨rfl,rfl⟩,rfl,rfl⟩:=hR
  conv=>whnf
  refine⟨fun h1=>?_,fun h1=>?_⟩
  ·have e:r.num 1=((r.raw 1).1,0):=by unfold Rdr.num;rw[if_pos (show(r.raw ((1:Nat):Int)).1.bad=true from h1)];rfl
   rw[e]
   conv=>whnf
   refine⟨[0],.d (.int .u64 0),[(r.raw 1).1.kb],rfl,rfl,rfl,?_,_,rfl,rfl,rfl⟩
   repeat'(first|exact ⟨⟩|exact rfl|exact fun _=>Iff.rfl|exact fun _ _=>rfl|exact renM_ent rfl _|apply And.intro)
  ·have hrl:(r.raw ((1:Nat):Int)).2.length=1:=Rdr.raw_len 1 h1
   have e:r.num 1=((r.raw 1).1,yt (r.raw ((1:Nat):Int)).2):=by unfold Rdr.num;rw[if_neg (by rw[show(r.raw ((1:Nat):Int)).1.bad=false from h1];simp)];rfl
   rw[e]
   obtain⟨b0,t0,e0,l0⟩:=xn hrl
   have e9:=List.length_eq_zero_iff.1 l0
   subst e9
   rw[e0]
   rw[show(r.raw 1).2=[b0] from e0]
   conv=>whnf
   repeat(first|(refine brT rfl ?_;conv=>whnf)|(refine brF rfl ?_;conv=>whnf)|(refine .once ?_;conv=>whnf)|(refine⟨by decide,?_⟩;conv=>whnf)|(refine And.intro (Nat.le_of_ble_eq_true rfl) ?_;conv=>whnf))
   refine⟨[0],.d (.int .u64 (yt [b0])),[(r.raw 1).1.kb],rfl,rfl,?_,?_,_,rfl,rfl,rfl⟩
   ·exact congrArg (fun z=>SV.d (DV.int .u64 z)) (acc8 (0) (0) (0) (0) (0) (0) (0) (b0.toNat) (by omega) (by omega) (by omega) (by omega) (by omega) (by omega) (by omega) (UInt8.toNat_lt _))
   ·repeat'(first|exact ⟨⟩|exact rfl|exact fun _=>Iff.rfl|exact fun _ _=>rfl|exact renM_ent rfl _|apply And.intro)
 ·conv=>whnf
  repeat(first|(refine brT rfl ?_;conv=>whnf)|(refine brF rfl ?_;conv=>whnf)|(refine .once ?_;conv=>whnf)|(refine⟨by decide,?_⟩;conv=>whnf)|(refine And.intro (Nat.le_of_ble_eq_true rfl) ?_;conv=>whnf))
  refine .rel _ (jk (um r hr 2 (by omega)) [] [] _ rfl rfl) (fun x ks' hR=>?_)
  obtain⟨_,r1,⟨rfl,rfl⟩,rfl,rfl⟩:=hR
  conv=>whnf
  refine⟨fun h1=>?_,fun h1=>?_⟩
  ·have e:r.num 2=((r.raw 2).1,0):=by unfold Rdr.num;rw[if_pos (show(r.raw ((2:Nat):Int)).1.bad=true from h1)];rfl
   rw[e]
   conv=>whnf
   refine⟨[0],.d (.int .u64 0),[(r.raw 2).1.kb],rfl,rfl,rfl,?_,_,rfl,rfl,rfl⟩
   repeat'(first|exact ⟨⟩|exact rfl|exact fun _=>Iff.rfl|exact fun _ _=>rfl|exact renM_ent rfl _|apply And.intro)
  ·have hrl:(r.raw ((2:Nat):Int)).2.length=2:=Rdr.raw_len 2 h1
   have e:r.num 2=((r.raw 2).1,yt (r.raw ((2:Nat):Int)).2):=by unfold Rdr.num;rw[if_neg (by rw[show(r.raw ((2:Nat):Int)).1.bad=false from h1];simp)];rfl
   rw[e]
   obtain⟨b0,t0,e0,l0⟩:=xn hrl
   obtain⟨b1,t1,e1,l1⟩:=xn l0
   subst e1
   have e9:=List.length_eq_zero_iff.1 l1
   subst e9
   rw[e0]
   rw[show(r.raw 2).2=[b0,b1] from e0]
   conv=>whnf
   repeat(first|(refine brT rfl ?_;conv=>whnf)|(refine brF rfl ?_;conv=>whnf)|(refine .once ?_;conv=>whnf)|(refine⟨by decide,?_⟩;conv=>whnf)|(refine And.intro (Nat.le_of_ble_eq_true rfl) ?_;conv=>whnf))
   refine⟨[0],.d (.int .u64 (yt [b0,b1])),[(r.raw 2).1.kb],rfl,rfl,?_,?_,_,rfl,rfl,rfl⟩
   ·exact congrArg (fun z=>SV.d (DV.int .u64 z)) (acc8 (0) (0) (0) (0) (0) (0) (b0.toNat) (b1.toNat) (by omega) (by omega) (by omega) (by omega) (by omega) (by omega) (UInt8.toNat_lt _) (UInt8.toNat_lt _))
   ·repeat'(first|exact ⟨⟩|exact rfl|exact fun _=>Iff.rfl|exact fun _ _=>rfl|exact renM_ent rfl _|apply And.intro)
 ·conv=>whnf
  repeat(first|(refine brT rfl ?_;conv=>whnf)|(refine brF rfl ?_;conv=>whnf)|(refine .once ?_;conv=>whnf)|(refine⟨by decide,?_⟩;conv=>whnf)|(refine And.intro (Nat.le_of_ble_eq_true rfl) ?_;conv=>whnf))
  refine .rel _ (jk (um r hr 4 (by omega)) [] [] _ rfl rfl) (fun x ks' hR=>?_)
  obtain⟨_,r1,⟨rfl,rfl⟩,rfl,rfl⟩:=hR
  conv=>whnf
  refine⟨fun h1=>?_,fun h1=>?_⟩
  ·have e:r.num 4=((r.raw 4).1,0):=by unfold Rdr.num;rw[if_pos (show(r.raw ((4:Nat):Int)).1.bad=true from h1)];rfl
   rw[e]
   conv=>whnf
   refine⟨[0],.d (.int .u64 0),[(r.raw 4).1.kb],rfl,rfl,rfl,?_,_,rfl,rfl,rfl⟩
   repeat'(first|exact ⟨⟩|exact rfl|exact fun _=>Iff.rfl|exact fun _ _=>rfl|exact renM_ent rfl _|apply And.intro)
  ·have hrl:(r.raw ((4:Nat):Int)).2.length=4:=Rdr.raw_len 4 h1
   have e:r.num 4=((r.raw 4).1,yt (r.raw ((4:Nat):Int)).2):=by unfold Rdr.num;rw[if_neg (by rw[show(r.raw ((4:Nat):Int)).1.bad=false from h1];simp)];rfl
   rw[e]
   obtain⟨b0,t0,e0,l0⟩:=xn hrl
   obtain⟨b1,t1,e1,l1⟩:=xn l0
   obtain⟨b2,t2,e2,l2⟩:=xn l1
   obtain⟨b3,t3,e3,l3⟩:=xn l2
   subst e1
   subst e2
   subst e3
   have e9:=List.length_eq_zero_iff.1 l3
   subst e9
   rw[e0]
   rw[show(r.raw 4).2=[b0,b1,b2,b3] from e0]
   conv=>whnf
   repeat(first|(refine brT rfl ?_;conv=>whnf)|(refine brF rfl ?_;conv=>whnf)|(refine .once ?_;conv=>whnf)|(refine⟨by decide,?_⟩;conv=>whnf)|(refine And.intro (Nat.le_of_ble_eq_true rfl) ?_;conv=>whnf))
   refine⟨[0],.d (.int .u64 (yt [b0,b1,b2,b3])),[(r.raw 4).1.kb],rfl,rfl,?_,?_,_,rfl,rfl,rfl⟩
   ·exact congrArg (fun z=>SV.d (DV.int .u64 z)) (acc8 (0) (0) (0) (0) (b0.toNat) (b1.toNat) (b2.toNat) (b3.toNat) (by omega) (by omega) (by omega) (by omega) (UInt8.toNat_lt _) (UInt8.toNat_lt _) (UInt8.toNat_lt _) (UInt8.toNat_lt _))
   ·repeat'(first|exact ⟨⟩|exact rfl|exact fun _=>Iff.rfl|exact fun _ _=>rfl|exact renM_ent rfl _|apply And.intro)
 ·conv=>whnf
  repeat(first|(refine brT rfl ?_;conv=>whnf)|(refine brF rfl ?_;conv=>whnf)|(refine .once ?_;conv=>whnf)|(refine⟨by decide,?_⟩;conv=>whnf)|(refine And.intro (Nat.le_of_ble_eq_true rfl) ?_;conv=>whnf))
  refine .rel _ (jk (um r hr 8 (by omega)) [] [] _ rfl rfl) (fun x ks' hR=>?_)
  obtain⟨_,r1,⟨rfl,rfl⟩,rfl,rfl⟩:=hR
  conv=>whnf
  refine⟨fun h1=>?_,fun h1=>?_⟩
  ·have e:r.num 8=((r.raw 8).1,0):=by unfold Rdr.num;rw[if_pos (show(r.raw ((8:Nat):Int)).1.bad=true from h1)];rfl
   rw[e]
   conv=>whnf
   refine⟨[0],.d (.int .u64 0),[(r.raw 8).1.kb],rfl,rfl,rfl,?_,_,rfl,rfl,rfl⟩
   repeat'(first|exact ⟨⟩|exact rfl|exact fun _=>Iff.rfl|exact fun _ _=>rfl|exact renM_ent rfl _|apply And.intro)
  ·have hrl:(r.raw ((8:Nat):Int)).2.length=8:=Rdr.raw_len 8 h1
   have e:r.num 8=((r.raw 8).1,yt (r.raw ((8:Nat):Int)).2):=by unfold Rdr.num;rw[if_neg (by rw[show(r.raw ((8:Nat):Int)).1.bad=false from h1];simp)];rfl
   rw[e]
   obtain⟨b0,t0,e0,l0⟩:=xn hrl
   obtain⟨b1,t1,e1,l1⟩:=xn l0
   obtain⟨b2,t2,e2,l2⟩:=xn l1
   obtain⟨b3,t3,e3,l3⟩:=xn l2
   obtain⟨b4,t4,e4,l4⟩:=xn l3
   obtain⟨b5,t5,e5,l5⟩:=xn l4
   obtain⟨b6,t6,e6,l6⟩:=xn l5
   obtain⟨b7,t7,e7,l7⟩:=xn l6
   subst e1
   subst e2
   subst e3
   subst e4
   subst e5
   subst e6
   subst e7
   have e9:=List.length_eq_zero_iff.1 l7
   subst e9
   rw[e0]
   rw[show(r.raw 8).2=[b0,b1,b2,b3,b4,b5,b6,b7] from e0]
   conv=>whnf
   repeat(first|(refine brT rfl ?_;conv=>whnf)|(refine brF rfl ?_;conv=>whnf)|(refine .once ?_;conv=>whnf)|(refine⟨by decide,?_⟩;conv=>whnf)|(refine And.intro (Nat.le_of_ble_eq_true rfl) ?_;conv=>whnf))
   refine⟨[0],.d (.int .u64 (yt [b0,b1,b2,b3,b4,b5,b6,b7])),[(r.raw 8).1.kb],rfl,rfl,?_,?_,_,rfl,rfl,rfl⟩
   ·exact congrArg (fun z=>SV.d (DV.int .u64 z)) (acc8 (b0.toNat) (b1.toNat) (b2.toNat) (b3.toNat) (b4.toNat) (b5.toNat) (b6.toNat) (b7.toNat) (UInt8.toNat_lt _) (UInt8.toNat_lt _) (UInt8.toNat_lt _) (UInt8.toNat_lt _) (UInt8.toNat_lt _) (UInt8.toNat_lt _) (UInt8.toNat_lt _) (UInt8.toNat_lt _))
   ·repeat'(first|exact ⟨⟩|exact rfl|exact fun _=>Iff.rfl|exact fun _ _=>rfl|exact renM_ent rfl _|apply And.intro)
def labs:List (List UInt8)->List UInt8
 |[]=>[]
 |l :: ls=>lab l++labs ls
theorem je2(a b:List (List UInt8)):labs (a++b)=labs a++labs b:=by
 induction a with
 |nil=>rfl
 |cons l a ih=>simp[labs,ih]
theorem labs_no(a:List (List UInt8))(ha:∀ l ∈ a,okL l):∀ b,(∀ l ∈ b,okL l)->labs a≠mk b:=by
 induction a with
 |nil =>
  intro b _ h
  have:=uo b
  rw [<-h] at this
  simp [labs] at this
 |cons l a ih =>
  intro b hb h
  have hl:=ha l (List.mem_cons_self ..)
  have h1:bt (labs (l :: a)) 0=l.length:=x7 l (labs a) hl
  cases b with
  |nil =>
   rw [h] at h1
   have h2:=hl.1
   have:(0:Nat)=l.length:=h1
   omega
  |cons k b =>
   have hk:=hb k (List.mem_cons_self ..)
   have h2:bt (mk (k :: b)) 0=k.length:=x7 k (mk b) hk
   rw [h] at h1
   have hlen:l.length=k.length:=by rw[<-h1,h2]
   have:=congrArg (List.drop (1+l.length)) h
   rw [show labs (l :: a)=lab l++labs a from rfl,u7,hlen,show mk (k :: b)=lab k++mk b from rfl,u7] at this
   exact ih (fun x hx=>ha x (List.mem_cons_of_mem _ hx)) b (fun x hx=>hb x (List.mem_cons_of_mem _ hx)) this
theorem labs_notName(a:List (List UInt8))(ha:∀ l ∈ a,okL l):¬ qh (labs a):=fun h=>by
 obtain⟨_,ls,h1,h2⟩:=(qe0 _).1 h
 exact labs_no a ha ls h1 h2
theorem labs_snoc(ls:List (List UInt8))(l:List UInt8):labs (ls++[l])=labs ls++lab l:=by
 rw[je2]
 simp[labs]
theorem firstF_name(s:List UInt8):∀ m k,wu s m k≠0->qh (s.take (wu s m k)):=by
 intro m
 induction m with
 |zero=>intro k h;exact absurd rfl h
 |succ m ih =>
  intro k h
  simp only [wu] at h ⊢
  split at h
  ·rename_i h1
   rw[if_pos h1]
   split at h
   ·rename_i h2
    rw[if_pos h2]
    split at h
    ·rename_i h3
     rw[if_pos h3]
     exact h3
    ·exact absurd rfl h
   ·rename_i h2
    rw[if_neg h2]
    exact ih _ h
  ·exact absurd rfl h
def rnGo(s:List UInt8):Nat->Nat->Nat->Option Nat->List UInt8->List UInt8 × Option Nat
 |0,_,_,bh,nm=>(nm,bh)
 |f+1,begin,at_,bh,nm =>
  if at_<s.length/\nm.length<255 then
   if bt s at_=0 then (nm++[0],some (bh.getD (at_+1)))
   else if bt s at_<=63/\bt s at_<s.length - at_ then rnGo s f begin (at_+1+bt s at_) bh (nm++(s.drop at_).take (1+bt s at_))
   else if 192<=bt s at_/\at_+1<s.length then
    if (bt s at_ - 192) * 256+bt s (at_+1) >= begin then (nm,some (bh.getD (at_+2)))
    else rnGo s f ((bt s at_ - 192) * 256+bt s (at_+1)) ((bt s at_ - 192) * 256+bt s (at_+1)) (some (bh.getD (at_+2))) nm
   else (nm,bh)
  else (nm,bh)
def uk(s:List UInt8)(begin:Nat)(nm:List UInt8):Nat:=(400 - nm.length) * (s.length+1)+begin
def y8(s:List UInt8)(p:Nat):List UInt8 × Option Nat:=rnGo s (uk s p []+1) p p none []
def Rdr.name(r:Rdr):Rdr × List UInt8:=if r.bad then (r,[]) else
 if qh (y8 r.s r.p).1 then ({ r with p:=(y8 r.s r.p).2.getD 0 },(y8 r.s r.p).1) else ({ r with bad:=true },[])
theorem Rdr.name_bad{r:Rdr}(h1:r.bad=false){nm:List UInt8}(h:(y8 r.s r.p).1=nm)(hn:¬ qh nm):r.name=({ r with bad:=true },[]):=by
 unfold Rdr.name
 rw[if_neg (by simp[h1]),h,if_neg hn]
theorem Rdr.name_ok{r:Rdr}(h1:r.bad=false){nm:List UInt8}{k:Nat}(h:y8 r.s r.p=(nm,some k))(hn:qh nm):r.name=({ r with p:=k },nm):=by
 unfold Rdr.name
 rw[if_neg (by simp[h1]),h,if_pos hn]
 rfl
theorem bytesOf_cat(a b:List UInt8)(f:Nat->List DV)(hf:∀ i,i<a.length+b.length->f i=yn (a++b) i):ju (a.length+b.length) f=a++b:=by
 have:=uc (a++b)
 rw [List.length_append] at this
 rw[<-this]
 unfold ju
 apply List.map_congr_left
 intro i hi
 rw[hf i (List.mem_range.1 hi)]
theorem ql8(nm:List UInt8)(i:Nat)(h:i<nm.length+1):catF nm.length (yn nm) (qz [.int .u8 0] 1) i=yn (nm++[0]) i:=by
 unfold catF
 split
 ·rename_i hl
  unfold yn jc
  rw[Int.toNat_natCast,List.getElem?_append_left hl]
 ·rename_i hl
  have:i=nm.length:=by omega
  subst this
  rw[Nat.sub_self]
  unfold yn jc
  rw[Int.toNat_natCast,List.getElem?_append_right (Nat.le_refl _),Nat.sub_self]
  rfl
theorem or_i64(a b:Nat)(ha:a<4611686018427387904)(hb:b<4611686018427387904)(hab:a ||| b<9223372036854775808):bits .or .i64 (a:Int) (b:Int)=((a ||| b:Nat):Int):=by
 have h:=u64_or_nat a b (by omega) (by omega)
 unfold bits at h ⊢
 have e:((BitVec.ofInt IntKind.i64.bits (a:Int) ||| BitVec.ofInt IntKind.i64.bits (b:Int)).toNat:Int)=((BitVec.ofInt IntKind.u64.bits (a:Int) ||| BitVec.ofInt IntKind.u64.bits (b:Int)).toNat:Int):=rfl
 show IntKind.i64.wrap ((BitVec.ofInt IntKind.i64.bits (a:Int) ||| BitVec.ofInt IntKind.i64.bits (b:Int)).toNat:Int)=_
 have h:IntKind.u64.wrap ((BitVec.ofInt IntKind.u64.bits (a:Int) ||| BitVec.ofInt IntKind.u64.bits (b:Int)).toNat:Int)=((a ||| b:Nat):Int):=h
 have hlt:=(BitVec.ofInt IntKind.u64.bits (a:Int) ||| BitVec.ofInt IntKind.u64.bits (b:Int)).isLt
 rw [IntKind.wrap_u64] at h
 rw[e]
 generalize (BitVec.ofInt IntKind.u64.bits (a:Int) ||| BitVec.ofInt IntKind.u64.bits (b:Int)).toNat=X at h hlt
 have hlt:X<18446744073709551616:=hlt
 rw[qg _ (by omega)]
 omega
def bhI:Option Nat->Int
 |none=>-1
 |some k=>k
structure RnSt where
 b:Nat
 p:Nat
 bh:Option Nat
 nm:List UInt8
 f:Nat
theorem qx6(r:Rdr)(hr:r.Ok):COk Tryz.prog 66 [.ptr 0 0] [r.kb] (fun s k=>∃ r1,k=[Rdr.kb r1]/\(s = .d (.str r.name.2)/\r1=r.name.1)):=by
 refine ji (TT:=TT) (IN:=qd [(67,Tryz.f67,1),(121,Tryz.f121,1)]) qf (qv (qv qe Tryz.func121 (by kernel_rfl) (by kernel_rfl)) Tryz.func67 (by kernel_rfl) (by kernel_rfl)) mixed 1000 Tryz.func66 rfl (qc Tryz.func66 (by kernel_rfl) rfl) 123 (by kernel_rfl) ?_
 have hlen:=hr.len
 have hp:=hr.p
 conv=>whnf
 refine⟨fun h1=>?_,fun h1=>?_⟩
 ·have e:r.name=(r,[]):=by unfold Rdr.name;rw[if_pos h1]
  rw[e]
  conv=>whnf
  refine⟨[0],.d (.str []),[r.kb],rfl,rfl,rfl,?_,_,rfl,rfl,rfl⟩
  repeat'(first|exact ⟨⟩|exact rfl|exact fun _=>Iff.rfl|exact fun _ _=>rfl|exact renM_ent rfl _|apply And.intro)
 conv=>whnf
 refine .nilT 3 5 1 (yn []) 0 (fun _=>[]) rfl ?_
 conv=>whnf
 refine .inv RnSt (fun s=>s.p<=r.s.length/\s.b<=r.s.length/\(∀ k,s.bh=some k->k<=r.s.length)/\(∃ ls,(∀ l ∈ ls,okL l)/\s.nm=labs ls)/\s.nm.length<=318/\uk r.s s.b s.nm<s.f/\rnGo r.s s.f s.b s.p s.bh s.nm=y8 r.s r.p) (fun s=>[(3,.all 1),(4,.d (.int .i64 s.b)),(5,.d (.int .i64 s.p)),(6,.d (.int .i64 (bhI s.bh)))]) (fun s=>[(1,.row 5 1 s.nm.length .iff (yn s.nm))]) (fun s=>s.f) ⟨⟨r.p,r.p,none,[],uk r.s r.p []+1⟩,[0,1],?_,?_⟩ ?_
 ·exact⟨hp,hp,(fun k h=>by cases h),⟨[],(fun l h=>by cases h),rfl⟩,by show 0<=318;omega,Nat.lt_succ_self _,rfl⟩
 ·conv=>whnf
  repeat'(first|exact ⟨⟩|exact rfl|exact fun _=>Iff.rfl|exact fun _ _=>rfl|exact renM_ent rfl _|apply And.intro)
 intro s hs
 obtain⟨hp1,hb1,hbh,⟨ls,hls,hnm⟩,hnl,hf,hgo⟩:=hs
 conv=>whnf
 generalize s.p=p at hp1 hgo ⊢
 generalize s.b=b at hb1 hf hgo ⊢
 generalize s.bh=bh at hbh hgo ⊢
 generalize s.nm=nm at hnm hnl hf hgo ⊢
 generalize s.f=f at hf hgo ⊢
 obtain⟨f',rfl⟩:∃ f',f=f'+1:=⟨f - 1,by omega⟩
 rw [rnGo] at hgo
 have hnn:¬ qh nm:=by rw[hnm];exact labs_notName ls hls
 have hbhI:bhI bh = -1\/∃ k:Nat,bh=some k/\bhI bh=(k:Int)/\k<=r.s.length:=by
  cases hb:bh with
  |none=>exact .inl rfl
  |some k=>exact .inr ⟨k,rfl,rfl,hbh k hb⟩
 have hbt:bt r.s p<256:=bt_lt _ _
 refine⟨fun c1=>?_,fun c1=>?_⟩
 rotate_left
 ·have c1':¬ p<r.s.length:=by
   have:¬ (p:Int)<r.s.length:=of_decide_eq_false c1
   omega
  rw [if_neg (by omega)] at hgo
  conv=>whnf
  ·have hfin:r.name=({ r with bad:=true },[]):=Rdr.name_bad h1 (show(y8 r.s r.p).1=nm by rw[<-hgo]) hnn
   rw[hfin]
   conv=>whnf
   refine⟨fun i hi=>⟨_,rfl⟩,?_⟩
   conv=>whnf
   rw[uc]
   refine oD (j5 nm) rfl rfl ?_
   rw[if_neg hnn]
   conv=>whnf
   repeat(first|(refine brT rfl ?_;conv=>whnf)|(refine brF rfl ?_;conv=>whnf)|(refine .once ?_;conv=>whnf)|(refine⟨by decide,?_⟩;conv=>whnf)|(refine And.intro (Nat.le_of_ble_eq_true rfl) ?_;conv=>whnf))
   refine⟨[0],.d (.str []),[Rdr.kb { r with bad:=true }],rfl,rfl,rfl,?_,_,rfl,rfl,rfl⟩
   repeat'(first|exact ⟨⟩|exact rfl|exact fun _=>Iff.rfl|exact fun _ _=>rfl|exact renM_ent rfl _|apply And.intro)
 have c1':p<r.s.length:=by
  have:(p:Int)<r.s.length:=of_decide_eq_true c1
  omega
 conv=>whnf
 refine⟨fun c2=>?_,fun c2=>?_⟩
 rotate_left
 ·have c2':¬ nm.length<255:=by
   have:¬ (nm.length:Int)<255:=of_decide_eq_false c2
   omega
  rw [if_neg (by omega)] at hgo
  conv=>whnf
  ·have hfin:r.name=({ r with bad:=true },[]):=Rdr.name_bad h1 (show(y8 r.s r.p).1=nm by rw[<-hgo]) hnn
   rw[hfin]
   conv=>whnf
   refine⟨fun i hi=>⟨_,rfl⟩,?_⟩
   conv=>whnf
   rw[uc]
   refine oD (j5 nm) rfl rfl ?_
   rw[if_neg hnn]
   conv=>whnf
   repeat(first|(refine brT rfl ?_;conv=>whnf)|(refine brF rfl ?_;conv=>whnf)|(refine .once ?_;conv=>whnf)|(refine⟨by decide,?_⟩;conv=>whnf)|(refine And.intro (Nat.le_of_ble_eq_true rfl) ?_;conv=>whnf))
   refine⟨[0],.d (.str []),[Rdr.kb { r with bad:=true }],rfl,rfl,rfl,?_,_,rfl,rfl,rfl⟩
   repeat'(first|exact ⟨⟩|exact rfl|exact fun _=>Iff.rfl|exact fun _ _=>rfl|exact renM_ent rfl _|apply And.intro)
 have c2':nm.length<255:=by
  have:(nm.length:Int)<255:=of_decide_eq_true c2
  omega
 rw [if_pos ⟨c1',c2'⟩] at hgo
 have hby:jc r.s (p:Int)=(bt r.s p:Int):=zl _ _
 have hwb:IntKind.i64.wrap (jc r.s (p:Int))=(bt r.s p:Int):=by rw[hby,qg _ (by omega)]
 conv=>whnf
 refine⟨by omega,?_⟩
 conv=>whnf
 rw[hwb]
 refine⟨fun c3=>?_,fun c3=>?_⟩
 ·have c3':bt r.s p=0:=by
   have:(bt r.s p:Int)=0:=by simpa using c3
   omega
  rw [if_pos c3'] at hgo
  have hz:ju (nm.length+1) (catF nm.length (yn nm) (qz [.int .u8 0] 1))=nm++[0]:=bytesOf_cat nm [0] _ (fun i hi=>ql8 nm i hi)
  have hw1:=w64s p (by omega)
  conv=>whnf
  refine⟨by omega,?_⟩
  rcases bh with _|k
  ·conv=>whnf
   refine brT rfl ?_
   conv=>whnf
   rw[hw1]
   refine⟨fun i hi=>⟨_,ql8 nm i hi⟩,?_⟩
   rw[hz]
   refine oD (j5 (nm++[0])) rfl rfl ?_
   by_cases hn:qh (nm++[0])
   ·have hfin:r.name=({ r with p:=p+1 },nm++[0]):=Rdr.name_ok h1 hgo.symm hn
    rw[if_pos hn,hfin]
    conv=>whnf
    refine brF rfl ?_
    conv=>whnf
    refine⟨fun i hi=>⟨_,ql8 nm i hi⟩,?_⟩
    rw[hz]
    conv=>whnf
    refine⟨[0],.d (.str (nm++[0])),[Rdr.kb { r with p:=p+1 }],rfl,rfl,rfl,?_,_,rfl,rfl,rfl⟩
    repeat'(first|exact ⟨⟩|exact rfl|exact fun _=>Iff.rfl|exact fun _ _=>rfl|exact renM_ent rfl _|apply And.intro)
   ·have hfin:r.name=({ r with bad:=true },[]):=Rdr.name_bad h1 (show(y8 r.s r.p).1=nm++[0] by rw[<-hgo]) hn
    rw[if_neg hn,hfin]
    conv=>whnf
    repeat(first|(refine brT rfl ?_;conv=>whnf)|(refine brF rfl ?_;conv=>whnf)|(refine .once ?_;conv=>whnf)|(refine⟨by decide,?_⟩;conv=>whnf)|(refine And.intro (Nat.le_of_ble_eq_true rfl) ?_;conv=>whnf))
    refine⟨[0],.d (.str []),[Rdr.kb { r with bad:=true }],rfl,rfl,rfl,?_,_,rfl,rfl,rfl⟩
    repeat'(first|exact ⟨⟩|exact rfl|exact fun _=>Iff.rfl|exact fun _ _=>rfl|exact renM_ent rfl _|apply And.intro)
  ·conv=>whnf
   refine brF (decide_eq_false (by show ¬ ((k:Nat):Int)<0;omega)) ?_
   conv=>whnf
   refine⟨fun i hi=>⟨_,ql8 nm i hi⟩,?_⟩
   rw[hz]
   refine oD (j5 (nm++[0])) rfl rfl ?_
   by_cases hn:qh (nm++[0])
   ·have hfin:r.name=({ r with p:=k },nm++[0]):=Rdr.name_ok h1 hgo.symm hn
    rw[if_pos hn,hfin]
    conv=>whnf
    refine brF rfl ?_
    conv=>whnf
    refine⟨fun i hi=>⟨_,ql8 nm i hi⟩,?_⟩
    rw[hz]
    conv=>whnf
    refine⟨[0],.d (.str (nm++[0])),[Rdr.kb { r with p:=k }],rfl,rfl,rfl,?_,_,rfl,rfl,rfl⟩
    repeat'(first|exact ⟨⟩|exact rfl|exact fun _=>Iff.rfl|exact fun _ _=>rfl|exact renM_ent rfl _|apply And.intro)
   ·have hfin:r.name=({ r with bad:=true },[]):=Rdr.name_bad h1 (show(y8 r.s r.p).1=nm++[0] by rw[<-hgo]) hn
    rw[if_neg hn,hfin]
    conv=>whnf
    repeat(first|(refine brT rfl ?_;conv=>whnf)|(refine brF rfl ?_;conv=>whnf)|(refine .once ?_;conv=>whnf)|(refine⟨by decide,?_⟩;conv=>whnf)|(refine And.intro (Nat.le_of_ble_eq_true rfl) ?_;conv=>whnf))
    refine⟨[0],.d (.str []),[Rdr.kb { r with bad:=true }],rfl,rfl,rfl,?_,_,rfl,rfl,rfl⟩
    repeat'(first|exact ⟨⟩|exact rfl|exact fun _=>Iff.rfl|exact fun _ _=>rfl|exact renM_ent rfl _|apply And.intro)
 have c3':¬ bt r.s p=0:=by
  have:¬ (bt r.s p:Int)=0:=by simpa using c3
  omega
 rw [if_neg c3'] at hgo
 have hwl:IntKind.i64.wrap ((r.s.length:Int) - p)=(r.s.length:Int) - p:=qg _ (by omega)
 conv=>whnf
 refine⟨fun c4=>?_,fun c4=>?_⟩
 ·have c4':bt r.s p<=63:=by
   have:(bt r.s p:Int)<=63:=of_decide_eq_true c4
   omega
  conv=>whnf
  rw[hwl]
  refine⟨fun c5=>?_,fun c5=>?_⟩
  ·have c5':bt r.s p<r.s.length - p:=by
    have:(bt r.s p:Int)<(r.s.length:Int) - p:=of_decide_eq_true c5
    omega
   rw [if_pos ⟨c4',c5'⟩] at hgo
   have hw2:IntKind.i64.wrap (IntKind.i64.wrap ((p:Int)+1)+(bt r.s p:Int))=((p+1+bt r.s p:Nat):Int):=by rw[qg ((p:Int)+1) (by omega),qg _ (by omega)];omega
   have hw3:IntKind.i64.wrap ((p:Int)+IntKind.i64.wrap (1+(bt r.s p:Int)))=((p+1+bt r.s p:Nat):Int):=by rw[qg (1+(bt r.s p:Int)) (by omega),qg _ (by omega)];omega
   have hsub:sub r.s (p:Int) ((p+1+bt r.s p:Nat):Int)=(r.s.drop p).take (1+bt r.s p):=by
    unfold sub
    rw[Int.toNat_natCast,Int.toNat_natCast,show p+1+bt r.s p - p=1+bt r.s p by omega]
   have hl1:((r.s.drop p).take (1+bt r.s p)).length=1+bt r.s p:=by simp;omega
   have hlab:(r.s.drop p).take (1+bt r.s p)=lab ((r.s.drop (p+1)).take (bt r.s p)):=by
    have h2:((r.s.drop (p+1)).take (bt r.s p)).length=bt r.s p:=by simp;omega
    unfold lab
    rw[h2]
    have h3:r.s.drop p=r.s[p] :: r.s.drop (p+1):=List.drop_eq_getElem_cons c1'
    rw[h3,show 1+bt r.s p=bt r.s p+1 by omega,List.take_succ_cons]
    congr 1
    have:bt r.s p=r.s[p].toNat:=by simp[bt,c1']
    rw[this]
    simp
   conv=>whnf
   rw[hw2]
   refine⟨by omega,?_⟩
   conv=>whnf
   rw[hsub,hl1]
   refine⟨by omega,?_⟩
   conv=>whnf
   rw[hw3]
   refine⟨⟨b,p+1+bt r.s p,bh,nm++(r.s.drop p).take (1+bt r.s p),f'⟩,[0,2],⟨by show p+1+bt r.s p<=r.s.length;omega,hb1,hbh,⟨ls++[(r.s.drop (p+1)).take (bt r.s p)],fun l hl=>?_,by show nm++_=_;rw[labs_snoc,hlab,hnm]⟩,by show(nm++_).length<=318;rw[List.length_append,hl1];omega,?_,hgo⟩,by show f'<f'+1;omega,?_⟩
   ·rcases List.mem_append.1 hl with hl|hl
    ·exact hls l hl
    ·rw[List.mem_singleton.1 hl]
     have h2:((r.s.drop (p+1)).take (bt r.s p)).length=bt r.s p:=by simp;omega
     unfold okL
     omega
   ·show uk r.s b (nm++(r.s.drop p).take (1+bt r.s p))<f'
    unfold uk at hf ⊢
    rw[List.length_append,hl1]
    have:(400 - (nm.length+(1+bt r.s p)))+1<=400 - nm.length:=by omega
    have:=Nat.mul_le_mul_right (r.s.length+1) this
    rw [Nat.add_mul,Nat.one_mul] at this
    omega
   ·conv=>whnf
    repeat'(first|exact ⟨⟩|exact rfl|exact fun _ _=>rfl|exact(show nm.length+(1+bt r.s p)=(nm++(r.s.drop p).take (1+bt r.s p)).length by rw[List.length_append,hl1])|exact(fun i hi=>yh _ _ i (by rw[hl1];exact hi))|apply And.intro)
  ·have c5':¬ bt r.s p<r.s.length - p:=by
    have:¬ (bt r.s p:Int)<(r.s.length:Int) - p:=of_decide_eq_false c5
    omega
   rw [if_neg (by omega),if_neg (by omega)] at hgo
   conv=>whnf
   refine brF (decide_eq_false (by omega)) ?_
   conv=>whnf
   ·have hfin:r.name=({ r with bad:=true },[]):=Rdr.name_bad h1 (show(y8 r.s r.p).1=nm by rw[<-hgo]) hnn
    rw[hfin]
    conv=>whnf
    refine⟨fun i hi=>⟨_,rfl⟩,?_⟩
    conv=>whnf
    rw[uc]
    refine oD (j5 nm) rfl rfl ?_
    rw[if_neg hnn]
    conv=>whnf
    repeat(first|(refine brT rfl ?_;conv=>whnf)|(refine brF rfl ?_;conv=>whnf)|(refine .once ?_;conv=>whnf)|(refine⟨by decide,?_⟩;conv=>whnf)|(refine And.intro (Nat.le_of_ble_eq_true rfl) ?_;conv=>whnf))
    refine⟨[0],.d (.str []),[Rdr.kb { r with bad:=true }],rfl,rfl,rfl,?_,_,rfl,rfl,rfl⟩
    repeat'(first|exact ⟨⟩|exact rfl|exact fun _=>Iff.rfl|exact fun _ _=>rfl|exact renM_ent rfl _|apply And.intro)
 ·have c4':¬ bt r.s p<=63:=by
   have:¬ (bt r.s p:Int)<=63:=of_decide_eq_false c4
   omega
  rw [if_neg (by omega)] at hgo
  conv=>whnf
  refine⟨fun c6=>?_,fun c6=>?_⟩
  rotate_left
  ·have c6':¬ 192<=bt r.s p:=by
    have:¬ (bt r.s p:Int) >= 192:=of_decide_eq_false c6
    omega
   rw [if_neg (by omega)] at hgo
   conv=>whnf
   ·have hfin:r.name=({ r with bad:=true },[]):=Rdr.name_bad h1 (show(y8 r.s r.p).1=nm by rw[<-hgo]) hnn
    rw[hfin]
    conv=>whnf
    refine⟨fun i hi=>⟨_,rfl⟩,?_⟩
    conv=>whnf
    rw[uc]
    refine oD (j5 nm) rfl rfl ?_
    rw[if_neg hnn]
    conv=>whnf
    repeat(first|(refine brT rfl ?_;conv=>whnf)|(refine brF rfl ?_;conv=>whnf)|(refine .once ?_;conv=>whnf)|(refine⟨by decide,?_⟩;conv=>whnf)|(refine And.intro (Nat.le_of_ble_eq_true rfl) ?_;conv=>whnf))
    refine⟨[0],.d (.str []),[Rdr.kb { r with bad:=true }],rfl,rfl,rfl,?_,_,rfl,rfl,rfl⟩
    repeat'(first|exact ⟨⟩|exact rfl|exact fun _=>Iff.rfl|exact fun _ _=>rfl|exact renM_ent rfl _|apply And.intro)
  have c6':192<=bt r.s p:=by
   have:(bt r.s p:Int) >= 192:=of_decide_eq_true c6
   omega
  have hw1:=w64s p (by omega)
  conv=>whnf
  rw[hw1]
  refine⟨fun c7=>?_,fun c7=>?_⟩
  rotate_left
  ·have c7':¬ p+1<r.s.length:=by
    have:¬ ((p+1:Nat):Int)<(r.s.length:Int):=of_decide_eq_false c7
    omega
   rw [if_neg (by omega)] at hgo
   conv=>whnf
   ·have hfin:r.name=({ r with bad:=true },[]):=Rdr.name_bad h1 (show(y8 r.s r.p).1=nm by rw[<-hgo]) hnn
    rw[hfin]
    conv=>whnf
    refine⟨fun i hi=>⟨_,rfl⟩,?_⟩
    conv=>whnf
    rw[uc]
    refine oD (j5 nm) rfl rfl ?_
    rw[if_neg hnn]
    conv=>whnf
    repeat(first|(refine brT rfl ?_;conv=>whnf)|(refine brF rfl ?_;conv=>whnf)|(refine .once ?_;conv=>whnf)|(refine⟨by decide,?_⟩;conv=>whnf)|(refine And.intro (Nat.le_of_ble_eq_true rfl) ?_;conv=>whnf))
    refine⟨[0],.d (.str []),[Rdr.kb { r with bad:=true }],rfl,rfl,rfl,?_,_,rfl,rfl,rfl⟩
    repeat'(first|exact ⟨⟩|exact rfl|exact fun _=>Iff.rfl|exact fun _ _=>rfl|exact renM_ent rfl _|apply And.intro)
  have c7':p+1<r.s.length:=by
   have:((p+1:Nat):Int)<(r.s.length:Int):=of_decide_eq_true c7
   omega
  have hw2:IntKind.i64.wrap ((p:Int)+2)=((p+2:Nat):Int):=by rw[qg _ (by omega)];omega
  rw [if_pos ⟨c6',c7'⟩] at hgo
  have hb2:=bt_lt r.s (p+1)
  have hor:IntKind.i64.wrap (bits .or .i64 (IntKind.i64.wrap ((bt r.s p:Int) * 2 ^ 8)) (IntKind.i64.wrap (jc r.s ((p+1:Nat):Int))) - 49152)=(((bt r.s p - 192) * 256+bt r.s (p+1):Nat):Int):=by
   have e1:IntKind.i64.wrap ((bt r.s p:Int) * 2 ^ 8)=((bt r.s p * 256:Nat):Int):=by rw[qg _ (by omega)];omega
   have e2:IntKind.i64.wrap (jc r.s ((p+1:Nat):Int))=(bt r.s (p+1):Int):=by rw[zl,qg _ (by omega)]
   have e3:bt r.s p * 256 ||| bt r.s (p+1)=bt r.s p * 256+bt r.s (p+1):=by
    have:=Nat.two_pow_add_eq_or_of_lt (i:=8) (show bt r.s (p+1)<2 ^ 8 by omega) (bt r.s p)
    rw[show bt r.s p * 256=2 ^ 8 * bt r.s p by omega,<-this]
   rw[e1,e2,or_i64 _ _ (by omega) (by omega) (by rw[e3];omega),e3,qg _ (by omega)]
   omega
  obtain⟨to,hto⟩:∃ to,to=(bt r.s p - 192) * 256+bt r.s (p+1):=⟨_,rfl⟩
  rw [<-hto] at hor hgo
  conv=>whnf
  refine⟨by decide,?_⟩
  conv=>whnf
  rw[hw1]
  refine⟨by omega,?_⟩
  conv=>whnf
  rw[show IntKind.i64.wrap (bits .or .i64 (IntKind.i64.wrap ((bt r.s p:Int) * 2 ^ (min (Int.toNat 8) IntKind.i64.bits))) (IntKind.i64.wrap (jc r.s ((p+1:Nat):Int))) - 49152)=(to:Int) from hor]
  rcases bh with _|k
  ·conv=>whnf
   refine brT rfl ?_
   conv=>whnf
   rw[hw2]
   refine⟨fun c8=>?_,fun c8=>?_⟩
   ·have c8':to >= b:=by
     have:(to:Int) >= (b:Int):=of_decide_eq_true c8
     omega
    rw [if_pos c8'] at hgo
    conv=>whnf
    have hfin:r.name=({ r with bad:=true },[]):=Rdr.name_bad h1 (show(y8 r.s r.p).1=nm by rw[<-hgo]) hnn
    rw[hfin]
    conv=>whnf
    refine⟨fun i hi=>⟨_,rfl⟩,?_⟩
    conv=>whnf
    rw[uc]
    refine oD (j5 nm) rfl rfl ?_
    rw[if_neg hnn]
    conv=>whnf
    repeat(first|(refine brT rfl ?_;conv=>whnf)|(refine brF rfl ?_;conv=>whnf)|(refine .once ?_;conv=>whnf)|(refine⟨by decide,?_⟩;conv=>whnf)|(refine And.intro (Nat.le_of_ble_eq_true rfl) ?_;conv=>whnf))
    refine⟨[0],.d (.str []),[Rdr.kb { r with bad:=true }],rfl,rfl,rfl,?_,_,rfl,rfl,rfl⟩
    repeat'(first|exact ⟨⟩|exact rfl|exact fun _=>Iff.rfl|exact fun _ _=>rfl|exact renM_ent rfl _|apply And.intro)
   ·have c8':¬ to >= b:=by
     have:¬ (to:Int) >= (b:Int):=of_decide_eq_false c8
     omega
    rw [if_neg c8'] at hgo
    conv=>whnf
    refine⟨⟨to,to,some (p+2),nm,f'⟩,[0,1],⟨by show to<=r.s.length;omega,by show to<=r.s.length;omega,fun k hk=>by cases hk;omega,⟨ls,hls,hnm⟩,hnl,?_,hgo⟩,by show f'<f'+1;omega,?_⟩
    ·show uk r.s to nm<f'
     unfold uk at hf ⊢
     omega
    ·conv=>whnf
     repeat'(first|exact ⟨⟩|exact rfl|exact fun _=>Iff.rfl|exact fun _ _=>rfl|exact renM_ent rfl _|apply And.intro)
  ·conv=>whnf
   refine brF (decide_eq_false (by show ¬ ((k:Nat):Int)<0;omega)) ?_
   conv=>whnf
   refine⟨fun c8=>?_,fun c8=>?_⟩
   ·have c8':to >= b:=by
     have:(to:Int) >= (b:Int):=of_decide_eq_true c8
     omega
    rw [if_pos c8'] at hgo
    conv=>whnf
    have hfin:r.name=({ r with bad:=true },[]):=Rdr.name_bad h1 (show(y8 r.s r.p).1=nm by rw[<-hgo]) hnn
    rw[hfin]
    conv=>whnf
    refine⟨fun i hi=>⟨_,rfl⟩,?_⟩
    conv=>whnf
    rw[uc]
    refine oD (j5 nm) rfl rfl ?_
    rw[if_neg hnn]
    conv=>whnf
    repeat(first|(refine brT rfl ?_;conv=>whnf)|(refine brF rfl ?_;conv=>whnf)|(refine .once ?_;conv=>whnf)|(refine⟨by decide,?_⟩;conv=>whnf)|(refine And.intro (Nat.le_of_ble_eq_true rfl) ?_;conv=>whnf))
    refine⟨[0],.d (.str []),[Rdr.kb { r with bad:=true }],rfl,rfl,rfl,?_,_,rfl,rfl,rfl⟩
    repeat'(first|exact ⟨⟩|exact rfl|exact fun _=>Iff.rfl|exact fun _ _=>rfl|exact renM_ent rfl _|apply And.intro)
   ·have c8':¬ to >= b:=by
     have:¬ (to:Int) >= (b:Int):=of_decide_eq_false c8
     omega
    rw [if_neg c8'] at hgo
    have hk2:=hbh k rfl
    conv=>whnf
    refine⟨⟨to,to,some k,nm,f'⟩,[0,1],⟨by show to<=r.s.length;omega,by show to<=r.s.length;omega,fun k hk=>by cases hk;omega,⟨ls,hls,hnm⟩,hnl,?_,hgo⟩,by show f'<f'+1;omega,?_⟩
    ·show uk r.s to nm<f'
     unfold uk at hf ⊢
     omega
    ·conv=>whnf
     repeat'(first|exact ⟨⟩|exact rfl|exact fun _=>Iff.rfl|exact fun _ _=>rfl|exact renM_ent rfl _|apply And.intro)
def Rdr.part(r:Rdr)(n:Int):Rdr × Rdr:=((r.raw n).1,if (r.raw n).1.bad then ⟨[],0,true⟩ else ⟨r.s.take (r.raw n).1.p,if r.bad then 0 else r.p,false⟩)
theorem part_ok(r:Rdr)(hr:r.Ok)(n:Int)(hn : -9223372036854775808<=n/\n<=9223372036854775807):COk Tryz.prog 178 [.ptr 0 0,.d (.int .i64 n)] [r.kb] (fun s k=>s = .ptr 1 0/\k=[(r.part n).1.kb,(r.part n).2.kb]):=by
 refine ji (TT:=TT) (IN:=qd [(195,Tryz.f195,1),(67,Tryz.f67,1)]) qf (qv (qv qe Tryz.func67 (by kernel_rfl) (by kernel_rfl)) Tryz.func195 (by kernel_rfl) (by kernel_rfl)) mixed 1000 Tryz.func178 rfl (qc Tryz.func178 (by kernel_rfl) rfl) 25 (by kernel_rfl) ?_
 have hro:=hr.raw n
 conv=>whnf
 refine⟨fun h1=>?_,fun h1=>?_⟩
 ·have e:r.raw n=(r,[]):=by unfold Rdr.raw;rw[if_pos h1]
  have e2:r.part n=(r,⟨[],0,true⟩):=by unfold Rdr.part;rw[e,if_pos h1]
  rw[e2]
  conv=>whnf
  refine .rel _ (jk (um r hr n hn) [] [] _ rfl rfl) (fun x ks' hR=>?_)
  obtain⟨_,r1,⟨rfl,rfl⟩,rfl,rfl⟩:=hR
  rw[e]
  conv=>whnf
  refine brT h1 ?_
  conv=>whnf
  refine⟨[0,1],.ptr 1 0,_,rfl,rfl,rfl,?_,rfl,rfl⟩
  repeat'(first|exact ⟨⟩|exact rfl|exact fun _=>Iff.rfl|exact fun _ _=>rfl|exact renM_ent rfl _|apply And.intro)
 ·conv=>whnf
  refine .rel _ (jk (um r hr n hn) [] [] _ rfl rfl) (fun x ks' hR=>?_)
  obtain⟨_,r1,⟨rfl,rfl⟩,rfl,rfl⟩:=hR
  conv=>whnf
  refine⟨fun h2=>?_,fun h2=>?_⟩
  ·have e2:r.part n=((r.raw n).1,⟨[],0,true⟩):=by unfold Rdr.part;rw[if_pos h2]
   rw[e2]
   conv=>whnf
   refine⟨[0,1],.ptr 1 0,_,rfl,rfl,rfl,?_,rfl,rfl⟩
   repeat'(first|exact ⟨⟩|exact rfl|exact fun _=>Iff.rfl|exact fun _ _=>rfl|exact renM_ent rfl _|apply And.intro)
  ·have e2:r.part n=((r.raw n).1,⟨r.s.take (r.raw n).1.p,r.p,false⟩):=by unfold Rdr.part;rw[if_neg (by simp[h2]),if_neg (by simp[h1])]
   have hs:(r.raw n).1.s=r.s:=by unfold Rdr.raw;split <;> (try rfl);split <;> rfl
   have hp:=hro.p
   have hsub:sub (r.raw n).1.s 0 ((r.raw n).1.p:Int)=r.s.take (r.raw n).1.p:=by
    unfold sub
    rw[hs]
    simp
   rw[e2]
   conv=>whnf
   refine⟨by omega,?_⟩
   conv=>whnf
   rw[hsub]
   conv=>whnf
   refine⟨[0,1],.ptr 1 0,_,rfl,rfl,rfl,?_,rfl,rfl⟩
   repeat'(first|exact ⟨⟩|exact rfl|exact fun _=>Iff.rfl|exact fun _ _=>rfl|exact renM_ent rfl _|apply And.intro)
def Wr.copies(width:Nat):Nat->Wr->Rdr->Wr × Rdr
 |0,w,r=>(w,r)
 |m+1,w,r=>Wr.copies width m (w.num width (r.num width).2) (r.num width).1
theorem Rdr.Ok.num{r:Rdr}(h:r.Ok)(width:Nat):(r.num width).1.Ok:=h.raw width
theorem Wr.Ok.num{w:Wr}(h:w.Ok)(width:Nat)(n:Int):(w.num width n).Ok:=h.piece _
structure CpSt where
 w:Wr
 r:Rdr
 i:Nat
theorem copies_ok(w:Wr)(hw:w.Ok)(width:Nat)(hd:wideN width)(many:Nat)(hm:many<=1000)(s:List UInt8)(hs:s.length<4611686018427387904) :
 COk Tryz.prog 198 [.ptr 0 0,.d (.int .i64 width),.d (.int .i64 many),.d (.str s)] [pk w.fl] (fun r k=>∃ w1,k=[pk (Wr.fl w1)]/\(r = .tup []/\w1=(w.copies width many ⟨s,0,false⟩).1)):=by
 refine ji (TT:=TT) (IN:=qd [(57,Tryz.f57,1)]) qf (qv qe Tryz.func57 (by kernel_rfl) (by kernel_rfl)) mixed 1000 Tryz.func198 rfl (qc Tryz.func198 (by kernel_rfl) rfl) 17 (by kernel_rfl) ?_
 conv=>whnf
 refine .inv CpSt (fun s'=>s'.w.Ok/\s'.r.Ok/\s'.i<=many/\(s'.w.copies width (many - s'.i) s'.r).1=(w.copies width many ⟨s,0,false⟩).1) (fun s'=>[(12,.d (.int .i64 s'.i))]) (fun s'=>[(0,pk s'.w.fl),(1,s'.r.kb)]) (fun s'=>many - s'.i) ⟨⟨w,⟨s,0,false⟩,0⟩,[0,1],⟨hw,⟨by show s.length<=_;omega,Nat.zero_le _⟩,Nat.zero_le _,rfl⟩,?_⟩ ?_
 ·conv=>whnf
  repeat'(first|exact ⟨⟩|exact rfl|exact(fun _ _ _ _ h=>⟨jn _,h⟩)|apply And.intro)
 intro s' hs'
 obtain⟨hw1,hr1,hi,hgo⟩:=hs'
 conv=>whnf
 generalize s'.w=w1 at hw1 hgo ⊢
 generalize s'.r=r1 at hr1 hgo ⊢
 generalize s'.i=i at hi hgo ⊢
 refine⟨fun c1=>?_,fun c1=>?_⟩
 ·have c1':i<many:=by
   have:(i:Int)<many:=of_decide_eq_true c1
   omega
  obtain⟨m,hm1⟩:∃ m,many - i=m+1:=⟨many - i - 1,by omega⟩
  have hi1:=w64s i (by omega)
  conv=>whnf
  refine .rel _ (jk (zn r1 hr1 width hd) [_] [] _ rfl rfl) (fun x ks' hR=>?_)
  obtain⟨_,r2,⟨rfl,rfl⟩,rfl,rfl⟩:=hR
  conv=>whnf
  refine .rel _ (COk.thing Wr.fl (z7 w1 hw1 width hd (r1.num width).2) [] [_] _ rfl rfl) (fun x ks' hR=>?_)
  obtain⟨_,w2,⟨rfl,rfl⟩,rfl,rfl⟩:=hR
  conv=>whnf
  refine⟨⟨w1.num width (r1.num width).2,(r1.num width).1,i+1⟩,[0,1],⟨hw1.num _ _,hr1.num _,by show i+1<=many;omega,?_⟩,by show many - (i+1)<many - i;omega,?_⟩
  ·rw[<-hgo,hm1,show many - (i+1)=m by omega]
   rfl
  ·conv=>whnf
   rw[hi1]
   repeat'(first|exact ⟨⟩|exact rfl|exact(fun _ _ _ _ h=>⟨jn _,h⟩)|apply And.intro)
 ·have c1':¬ i<many:=by
   have:¬ (i:Int)<many:=of_decide_eq_false c1
   omega
  rw [show many - i=0 by omega] at hgo
  conv=>whnf
  refine⟨[0],.tup [],[pk w1.fl],rfl,rfl,rfl,⟨fun _ _ _ _ h=>⟨jn _,h⟩,True.intro⟩,_,rfl,rfl,hgo⟩
theorem lays240:Go.Proofs.Lays.n240 Tryz.prog Try.lays156_ren:=by
 have L:=Try.lays156
 exact { mixed:=L.mixed,f240:=L.f240,f276:=L.f276,t0:=L.t0,a0:=L.a0,z0:=L.z0,v0:=L.v0,t4:=L.t4,a4:=L.a4,z4:=L.z4,v4:=L.v4,t9:=L.t9,a9:=L.a9,z9:=L.z9,v9:=L.v9,t20:=L.t20,a20:=L.a20,z20:=L.z20,v20:=L.v20,t70:=L.t70,a70:=L.a70,z70:=L.z70,v70:=L.v70,t72:=L.t72,a72:=L.a72,z72:=L.z72,v72:=L.v72,t164:=L.t164,a164:=L.a164,z164:=L.z164,v164:=L.v164 }
theorem setCell_eq{w:World}{b:Nat}{vs:Array Value}{e:TypeId}{fz:Nat × Nat}(h:w.heap[b]? = some (.cells vs e fz))(off:Nat)(v:Value) :
 w.setCell ⟨b,off,none⟩ v=World.setBlock w b (.cells (vs.setIfInBounds off v) e fz):=by
 unfold World.setCell World.setBlock
 congr 1
 apply Array.ext_getElem?
 intro j
 have hb:b<w.heap.size:=jt h
 rw[Array.getElem?_modify,Array.getElem?_setIfInBounds]
 by_cases e1:b=j
 ·subst e1
  rw[if_pos rfl,if_pos rfl,if_pos hb,h]
  rfl
 ·rw[if_neg e1,if_neg e1]
theorem chk_fresh(s:SV):COk Tryz.prog 222 [.ptr 0 0] [.cells 342 [.v (.pointer none),s]] (fun r k=>r = .tup []/\k=[.cells 342 [.ptr 0 0,s]]):=by
 refine⟨qc Tryz.func222 (by kernel_rfl) rfl,fun X w β fp vs hM hl hd=>?_⟩
 match vs,hl with
 |[v0],_ =>
  have h0:=hd 0 _ v0 rfl rfl
  cases h0 with
  |ptr _ _ L hL =>
   have hb:=hM.at (i:=0) rfl (by simp) hL
   cases hb with
   |cells _ _ us hfp hblk hlen hden h1 =>
    have hsz:us.size=2:=by simpa using hlen.symm
    have hu0:us[0]? = some (.pointer none):=by
     have hlt:0<us.size:=by omega
     have hx:=hden 0 _ us[0] rfl (by simp[hlt])
     have hy:us[0] = .pointer none:=by
      generalize us[0]=x at hx
      cases hx
      rfl
     rw[Array.getElem?_eq_getElem hlt,hy]
    have hc0:w.cell? ⟨L.b,0,none⟩=some (.pointer none):=by simp[World.cell?,hblk,hu0]
    have hsh:w.shape? L.b=some (342,2):=by simp[World.shape?,hblk,hsz]
    have hfz:w.frozen? ⟨L.b,0,none⟩=false:=by simp[World.frozen?,hblk]
    refine(Any.Builder_copyCheck_fresh lays240 Try.Builder_Extra_156.toX72 L.b w hc0 hsh hfz).mono ?_
    rintro e w' ⟨rfl,rfl⟩
    have hset:w.setCell ⟨L.b,0,none⟩ (.pointer (some ⟨L.b,0,none⟩))=World.setBlock w L.b (.cells (us.setIfInBounds 0 (.pointer (some ⟨L.b,0,none⟩))) 342 (0,0)):=setCell_eq hblk _ _
    rw[hset]
    have W:=hM.store (i:=0) (l':=[.ptr 0 0,s]) (vs':=us.setIfInBounds 0 (.pointer (some ⟨L.b,0,none⟩))) rfl hL hfp hblk (by simpa using hlen) (fun j s' u hj hu=>by
     rw [Array.getElem?_setIfInBounds] at hu
     match j with
     |0 =>
      injection hj with hj
      subst hj
      rw [if_pos rfl] at hu
      split at hu
      ·injection hu with hu
       subst hu
       exact .ptr 0 0 L hL
      ·cases hu
     |j+1 =>
      rw [if_neg (by omega)] at hu
      exact hden (j+1) s' u hj hu) (fun j u hu=>by
     rw [Array.getElem?_setIfInBounds] at hu
     split at hu
     ·split at hu
      ·injection hu with hu
       subst hu
       rfl
      ·cases hu
     ·exact h1 j u hu)
    exact ⟨_,.tup [],_,_,_,rfl,⟨rfl,rfl⟩,W,.tup _ _ rfl (fun j s' u hj _=>by simp at hj)⟩
theorem chk_used(s:SV)(rest:List KB):COk Tryz.prog 222 [.ptr 0 0] (.cells 342 [.ptr 0 0,s] :: rest) (fun r k=>r = .tup []/\k = .cells 342 [.ptr 0 0,s] :: rest):=by
 refine⟨qc Tryz.func222 (by kernel_rfl) rfl,fun X w β fp vs hM hl hd=>?_⟩
 match vs,hl with
 |[v0],_ =>
  have h0:=hd 0 _ v0 rfl rfl
  cases h0 with
  |ptr _ _ L hL =>
   have hb:=hM.at (i:=0) rfl (by simp) hL
   cases hb with
   |cells _ _ us hfp hblk hlen hden h1 =>
    have hsz:us.size=2:=by simpa using hlen.symm
    have hu0:us[0]? = some (.pointer (some ⟨L.b,0,none⟩)):=by
     have hlt:0<us.size:=by omega
     have hx:=hden 0 _ us[0] rfl (by simp[hlt])
     have hy:us[0] = .pointer (some ⟨L.b,0,none⟩):=by
      generalize us[0]=x at hx
      cases hx with
      |ptr _ _ L' hL' =>
       rw [hL] at hL'
       cases hL'
       rfl
     rw[Array.getElem?_eq_getElem hlt,hy]
    have hc0:w.cell? ⟨L.b,0,none⟩=some (.pointer (some ⟨L.b,0,none⟩)):=by simp[World.cell?,hblk,hu0]
    refine(Any.Builder_copyCheck_used lays240 Try.Builder_Extra_156.toX72 L.b w hc0).mono ?_
    rintro e w' ⟨rfl,rfl⟩
    exact ⟨_,.tup [],_,_,_,rfl,⟨rfl,rfl⟩,Went.refl hM,.tup _ _ rfl (fun j s' u hj _=>by simp at hj)⟩
theorem pk1{X:Nat->Prop}{w:World}{β:Env}{fp:Nat->Nat->Prop}{k:KB}(h:Mem X w β fp [k]):Mem X w β fp [pk [k]]:=by
 have h0:∀ i b,fp i b->i=0:=fun i b hb=>by
  obtain⟨L,hL⟩:=h.kn i b hb
  cases i with
  |zero=>rfl
  |succ i=>rw [h.kl (i+1) (by simp)] at hL;cases hL
 refine⟨⟨h.xa,h.xb,h.dis,h.kw,h.kn,fun i L k' hk hne hL=>?_⟩,h.kl,fun i t dom cols hi=>?_,h.vo.sub (fun i b hb=>⟨i,hb⟩)⟩
 ·cases i with
  |succ i=>simp at hk
  |zero =>
   simp only [List.getElem?_cons_zero,Option.some.injEq] at hk
   subst hk
   exact .obj _ (jn [k]) ⟨β,fp,hL,h.kl,fun x=>⟨fun e=>⟨0,e⟩,fun ⟨j,e⟩=>by rw [h0 j x e] at e;exact e⟩,h.dis,h.kn,h.ka,fun i L k hk hne hL=>h.kb i L k hk hne hL⟩
 ·cases i with
  |zero=>simp [pk] at hi
  |succ i=>simp at hi
theorem packIn{P:Program}{f:FuncId}{al:List SV}{k:KB}{R:SV->List KB->Prop}(h:COk P f al [pk [k]] R):COk P f al [k] R :=
 ⟨h.1,fun X w β fp vs hM hl hd=>h.2 X w β fp vs (pk1 hM) hl hd⟩
inductive Bst where
 |fresh
 |live (s:List UInt8)
 |dead
def Bst.fl:Bst->List KB
 | .fresh=>[.cells 342 [.v (.pointer none),nilS]]
 | .live s=>[.cells 342 [.ptr 0 0,.all 1],.row 5 1 s.length .iff (fun j=>[.int .u8 (jc s j)])]
 | .dead=>[.cells 342 [.ptr 0 0,.any]]
set_option maxRecDepth 100000 in
theorem bw0_ok(s:List UInt8)(hs:s.length<=70368744177664):COk Tryz.prog 180 [.ptr 0 0,.d (.str s)] [pk (Bst.fl .fresh)] (fun r k=>∃ b1,k=[pk (Bst.fl b1)]/\(r = .tup [.d (.int .i64 s.length),.v .nilIface]/\b1 = .live s)):=by
 refine COk.toThing Bst.fl (qb9 (TT:=TT) (IN:=qd []) qf qe mixed 1000 Tryz.func180 rfl (qc Tryz.func180 (by kernel_rfl) rfl) 17 (by kernel_rfl) rfl ?_ ?_)
 ·rintro r l ⟨w1,_,rfl,_⟩
  rfl
 conv=>whnf
 refine .rel _ (chk_fresh _) (fun x ks' hR=>?_)
 obtain⟨rfl,rfl⟩:=hR
 conv=>whnf
 refine⟨by omega,?_⟩
 conv=>whnf
 refine⟨[0,1],.tup [.d (.int .i64 s.length),.v .nilIface],Bst.fl (.live s),rfl,rfl,rfl,?_,_,rfl,rfl,rfl⟩
 repeat'(first|exact ⟨⟩|exact rfl|exact fun _=>Iff.rfl|exact fun _ _=>rfl|exact yg _ _|exact(List.length_append ..).symm|exact yh _ _|apply And.intro)
set_option maxRecDepth 100000 in
theorem bw1_ok(b s:List UInt8)(hs:b.length+s.length<=70368744177664):COk Tryz.prog 180 [.ptr 0 0,.d (.str s)] [pk (Bst.fl (.live b))] (fun r k=>∃ b1,k=[pk (Bst.fl b1)]/\(r = .tup [.d (.int .i64 s.length),.v .nilIface]/\b1 = .live (b++s))):=by
 refine COk.toThing Bst.fl (qb9 (TT:=TT) (IN:=qd []) qf qe mixed 1000 Tryz.func180 rfl (qc Tryz.func180 (by kernel_rfl) rfl) 17 (by kernel_rfl) rfl ?_ ?_)
 ·rintro r l ⟨w1,_,rfl,_⟩
  rfl
 conv=>whnf
 refine .rel _ (chk_used _ _) (fun x ks' hR=>?_)
 obtain⟨rfl,rfl⟩:=hR
 conv=>whnf
 refine⟨by omega,?_⟩
 conv=>whnf
 refine⟨[0,2],.tup [.d (.int .i64 s.length),.v .nilIface],Bst.fl (.live (b++s)),rfl,rfl,rfl,?_,_,rfl,rfl,rfl⟩
 repeat'(first|exact ⟨⟩|exact rfl|exact fun _=>Iff.rfl|exact fun _ _=>rfl|exact yg _ _|exact(List.length_append ..).symm|exact yh _ _|apply And.intro)
set_option maxRecDepth 100000 in
theorem bs_ok(s:List UInt8)(hs:s.length<=70368744177664):COk Tryz.prog 181 [.ptr 0 0] [pk (Bst.fl (.live s))] (fun r k=>∃ b1,k=[pk (Bst.fl b1)]/\(r = .d (.str s)/\b1 = .dead)):=by
 refine COk.toThing Bst.fl (qb9 (TT:=TT) (IN:=qd []) qf qe mixed 1000 Tryz.func181 rfl (qc Tryz.func181 (by kernel_rfl) rfl) 13 (by kernel_rfl) rfl ?_ ?_)
 ·rintro r l ⟨w1,_,rfl,_⟩
  rfl
 cases s with
 |nil =>
  conv=>whnf
  refine⟨rfl,?_⟩
  conv=>whnf
  refine⟨[0],.d (.str []),Bst.fl .dead,rfl,rfl,rfl,?_,_,rfl,rfl,rfl⟩
  repeat'(first|exact ⟨⟩|exact rfl|exact fun _=>Iff.rfl|exact fun _ _=>rfl|exact yg _ _|exact(List.length_append ..).symm|exact yh _ _|apply And.intro)
 |cons a s =>
  conv=>whnf
  refine⟨Nat.succ_le_succ (Nat.zero_le _),?_⟩
  conv=>whnf
  have hb:ju (a :: s).length (fun j=>[.int .u8 (jc (a :: s) j)])=a :: s:=uc (a :: s)
  refine⟨⟨rfl,by omega,fun i _=>⟨((a :: s)[i]?).getD 0,rfl⟩⟩,?_⟩
  rw[hb]
  conv=>whnf
  refine⟨[0],.d (.str (a :: s)),Bst.fl .dead,rfl,rfl,rfl,?_,_,rfl,rfl,rfl⟩
  repeat'(first|exact ⟨⟩|exact rfl|exact fun _=>Iff.rfl|exact fun _ _=>rfl|exact yg _ _|exact(List.length_append ..).symm|exact yh _ _|apply And.intro)
theorem rnGo_end(s:List UInt8):∀ f begin at_ bh nm,(∀ b,bh=some b->b<=s.length)->∀ e,(rnGo s f begin at_ bh nm).2=some e->e<=s.length:=by
 intro f
 induction f with
 |zero=>intro begin at_ bh nm hb e he;exact hb e he
 |succ f ih =>
  intro begin at_ bh nm hb e he
  have hg:∀ k,k<=s.length->∀ e,some (bh.getD k)=some e->e<=s.length:=fun k hk e he=>by
   cases bh with
   |none=>cases he;exact hk
   |some b=>cases he;exact hb b rfl
  unfold rnGo at he
  split at he
  ·rename_i h1
   split at he
   ·exact hg _ (by omega) e he
   ·split at he
    ·exact ih _ _ _ _ hb e he
    ·split at he
     ·rename_i h2
      split at he
      ·exact hg _ (by omega) e he
      ·exact ih _ _ _ _ (fun b hb=>hg _ (by omega) b hb) e he
     ·exact hb e he
  ·exact hb e he
theorem Rdr.Ok.name{r:Rdr}(h:r.Ok):r.name.1.Ok:=by
 unfold Rdr.name
 split
 ·exact h
 ·split
  ·refine⟨h.len,?_⟩
   show(y8 r.s r.p).2.getD 0<=r.s.length
   cases he:(y8 r.s r.p).2 with
   |none=>exact Nat.zero_le _
   |some e=>exact rnGo_end r.s _ _ _ _ _ (fun b hb=>by cases hb) e he
  ·exact⟨h.len,h.p⟩
theorem Rdr.name_s(r:Rdr):r.name.1.s=r.s:=by
 unfold Rdr.name
 repeat' split
 all_goals rfl
theorem Rdr.raw_s(r:Rdr)(n:Int):(r.raw n).1.s=r.s:=by
 unfold Rdr.raw
 repeat' split
 all_goals rfl
theorem Rdr.name_le(r:Rdr):r.name.2.length<=255:=by
 unfold Rdr.name
 split
 ·exact Nat.zero_le _
 ·split
  ·rename_i h;exact h.2.1
  ·exact Nat.zero_le _
theorem Rdr.raw_few(r:Rdr)(n:Int):(r.raw n).2.length<=n.toNat:=by
 unfold Rdr.raw
 split
 ·exact Nat.zero_le _
 ·split
  ·exact Nat.zero_le _
  ·show((r.s.drop r.p).take n.toNat).length<=_
   rw[List.length_take]
   omega
theorem Rdr.raw_p(r:Rdr)(n:Int):r.p<=(r.raw n).1.p:=by
 unfold Rdr.raw
 repeat' split
 ·exact Nat.le_refl _
 ·exact Nat.le_refl _
 ·exact Nat.le_add_right _ _
theorem Rdr.Ok.part{r:Rdr}(h:r.Ok)(n:Int):(r.part n).2.Ok:=by
 have h1:=h.raw n
 have h2:=h1.p
 rw [Rdr.raw_s] at h2
 have h3:=r.raw_p n
 have h4:=h.len
 unfold Rdr.part
 split
 ·exact⟨by simp,Nat.le_refl _⟩
 ·refine⟨by simp;omega,?_⟩
  show(if r.bad then 0 else r.p)<=(r.s.take (r.raw n).1.p).length
  simp
  split <;> omega
theorem Rdr.part_s(r:Rdr)(n:Int):(r.part n).2.s.length<=r.s.length:=by
 unfold Rdr.part
 split
 ·exact Nat.zero_le _
 ·simp
  omega
def Rdr.names:Nat->Rdr->List UInt8->Rdr × List UInt8
 |0,r,b=>(r,b)
 |k+1,r,b=>Rdr.names k r.name.1 (b++r.name.2)
def Rdr.body(r:Rdr)(t:Int)(width:Int):Rdr × List UInt8:=match ya t with
 |none=>r.raw width
 |some f =>
  let a:=r.raw (2 * f.1)
  let b:=Rdr.names f.2.1 a.1 a.2
  let c:=b.1.raw (4 * f.2.2)
  (c.1,b.2++c.2)
def Rdr.rdata(r:Rdr)(t:Int)(width:Int):List UInt8 × Int :=
 if (r.part width).2.bad then ([],5) else
 let q:=(r.part width).2.body t width
 if q.1.bad || decide (0<q.1.s.length - q.1.p) || !yb t q.2 then ([],6) else (q.2,0)
theorem bw0_among(pre:List KB)(s:List UInt8)(hs:s.length<=70368744177664):COk Tryz.prog 180 [.ptr pre.length 0,.d (.str s)] (pre++[.cells 342 [.v (.pointer none),nilS]]) (fun r k=>r = .tup [.d (.int .i64 s.length),.v .nilIface]/\k=pre++[pk (Bst.fl (.live s))]):=by
 have:=(packIn (bw0_ok s hs)).among pre [] (fun s k ⟨b1,hk,_⟩=>by rw[hk];exact Nat.le_refl _) rfl
 refine COk.imp (this:COk _ _ [.ptr pre.length 0,.d (.str s)] (pre++[.cells 342 [.v (.pointer none),nilS]]) _) fun s k ⟨s0,k1,⟨b1,hk1,hr,hb1⟩,hs,hk⟩=>?_
 subst hr hk1 hb1
 exact⟨by rw[hs];rfl,by rw[hk];rfl⟩
structure RdSt where
 p:Rdr
 b:List UInt8
 i:Nat
set_option maxRecDepth 100000 in
theorem rrdata_ok(r:Rdr)(hr:r.Ok)(t:Int)(width:Int)(hn : -9223372036854775808<=width/\width<=9223372036854775807) :
 COk Tryz.prog 134 [.ptr 0 0,.d (.int .u16 t),.d (.int .i64 width)] [r.kb] (fun s k=>∃ r1,k=[Rdr.kb r1]/\(s = .tup [.d (.str (r.rdata t width).1),.d (.int .i64 (r.rdata t width).2)]/\r1=(r.part width).1)):=by
 refine ji (TT:=TT) (IN:=qd [(67,Tryz.f67,1),(70,Tryz.f70,1)]) qf (qv (qv qe Tryz.func70 (by kernel_rfl) (by kernel_rfl)) Tryz.func67 (by kernel_rfl) (by kernel_rfl)) mixed 1000 Tryz.func134 rfl (qc Tryz.func134 (by kernel_rfl) rfl) 59 (by kernel_rfl) ?_
 conv=>whnf
 refine .rel _ (part_ok r hr width hn) (fun x ks' hR=>?_)
 obtain⟨rfl,rfl⟩:=hR
 have hp:=hr.part width
 have hps:=r.part_s width
 conv=>whnf
 refine⟨fun h1=>?_,fun h1=>?_⟩
 ·have e:r.rdata t width=([],5):=by unfold Rdr.rdata;rw[if_pos h1]
  conv=>whnf
  refine⟨[0],.tup [.d (.str []),.d (.int .i64 5)],[(r.part width).1.kb],rfl,rfl,rfl,?_,_,rfl,by rw[e],rfl⟩
  repeat'(first|exact ⟨⟩|exact rfl|exact fun _=>Iff.rfl|exact fun _ _=>rfl|exact renM_ent rfl _|apply And.intro)
 have e:r.rdata t width=(let q:=(r.part width).2.body t width;if q.1.bad || decide (0<q.1.s.length - q.1.p) || !yb t q.2 then ([],6) else (q.2,0)):=by unfold Rdr.rdata;rw[if_neg (by simp[h1])]
 rw[e]
 clear e
 generalize (r.part width).2=p at hp hps h1 ⊢
 generalize (r.part width).1=r1
 conv=>whnf
 have hfo:=qw1 t
 cases hf:ya t with
 |none =>
  rw [hf] at hfo
  refine oD hfo rfl rfl ?_
  conv=>whnf
  refine .rel _ (jk (um p hp width hn) [_] [_] _ rfl rfl) (fun x ks' hR=>?_)
  obtain⟨_,q,⟨rfl,rfl⟩,rfl,rfl⟩:=hR
  have hb:p.body t width=p.raw width:=by unfold Rdr.body;rw[hf]
  rw[hb]
  have hq:=hp.raw width
  generalize p.raw width=q at hq ⊢
  conv=>whnf
  have hql:=hq.len
  have hqp:=hq.p
  have hsub:IntKind.i64.wrap ((q.1.s.length:Int) - q.1.p)=(q.1.s.length:Int) - q.1.p:=qg _ (by omega)
  refine⟨fun h2=>?_,fun h2=>?_⟩
  ·conv=>whnf
   refine⟨[0],.tup [.d (.str []),.d (.int .i64 6)],[r1.kb],rfl,rfl,rfl,?_,_,rfl,by simp[h2],rfl⟩
   repeat'(first|exact ⟨⟩|exact rfl|exact fun _=>Iff.rfl|exact fun _ _=>rfl|exact renM_ent rfl _|apply And.intro)
  conv=>whnf
  refine brF h2 ?_
  conv=>whnf
  rw[hsub]
  refine⟨fun h3=>?_,fun h3=>?_⟩
  ·have h3':0<q.1.s.length - q.1.p:=by
    have h:((q.1.s.length:Int) - q.1.p) > 0:=of_decide_eq_true h3
    omega
   conv=>whnf
   refine⟨[0],.tup [.d (.str []),.d (.int .i64 6)],[r1.kb],rfl,rfl,rfl,?_,_,rfl,by simp[h3'],rfl⟩
   repeat'(first|exact ⟨⟩|exact rfl|exact fun _=>Iff.rfl|exact fun _ _=>rfl|exact renM_ent rfl _|apply And.intro)
  have h3':¬ 0<q.1.s.length - q.1.p:=by
   have h:¬ ((q.1.s.length:Int) - q.1.p) > 0:=of_decide_eq_false h3
   omega
  conv=>whnf
  refine oD (ql3 t q.2) rfl rfl ?_
  cases hc:yb t q.2
  ·conv=>whnf
   refine brT rfl ?_
   conv=>whnf
   refine⟨[0],.tup [.d (.str []),.d (.int .i64 6)],[r1.kb],rfl,rfl,rfl,?_,_,rfl,by simp[hc],rfl⟩
   repeat'(first|exact ⟨⟩|exact rfl|exact fun _=>Iff.rfl|exact fun _ _=>rfl|exact renM_ent rfl _|apply And.intro)
  ·conv=>whnf
   refine brF rfl ?_
   conv=>whnf
   refine⟨[0],.tup [.d (.str q.2),.d (.int .i64 0)],[r1.kb],rfl,rfl,rfl,?_,_,rfl,by simp[hc,h2,h3'],rfl⟩
   repeat'(first|exact ⟨⟩|exact rfl|exact fun _=>Iff.rfl|exact fun _ _=>rfl|exact renM_ent rfl _|apply And.intro)
 |some f =>
  have hfl:=qg5 hf
  rw [hf] at hfo
  refine oD hfo rfl rfl ?_
  conv=>whnf
  have hw2:IntKind.i64.wrap (2 * (f.1:Int))=2 * (f.1:Int):=qg _ (by omega)
  have hw4:IntKind.i64.wrap (4 * (f.2.2:Int))=4 * (f.2.2:Int):=qg _ (by omega)
  rw[hw2]
  refine .rel _ (jk (um p hp (2 * f.1) (by omega)) [_] [_,_] _ rfl rfl) (fun x ks' hR=>?_)
  obtain⟨_,q,⟨rfl,rfl⟩,rfl,rfl⟩:=hR
  conv=>whnf
  refine .rel _ (bw0_among [_,_,_] (p.raw (2 * f.1)).2 (by have:=p.raw_few (2 * f.1);omega)) (fun x ks' hR=>?_)
  obtain⟨rfl,rfl⟩:=hR
  have hb:p.body t width=(((Rdr.names f.2.1 (p.raw (2 * f.1)).1 (p.raw (2 * f.1)).2).1.raw (4 * f.2.2)).1,(Rdr.names f.2.1 (p.raw (2 * f.1)).1 (p.raw (2 * f.1)).2).2++((Rdr.names f.2.1 (p.raw (2 * f.1)).1 (p.raw (2 * f.1)).2).1.raw (4 * f.2.2)).2):=by unfold Rdr.body;rw[hf]
  rw[hb]
  clear hb
  have hq:=hp.raw (2 * f.1)
  have hqs:=p.raw_s (2 * f.1)
  have hql:=p.raw_few (2 * f.1)
  generalize p.raw (2 * f.1)=a at hq hqs hql ⊢
  obtain⟨p0,b0⟩:=a
  simp only at hq hqs hql
  have hb0:b0.length<1099511627776:=by omega
  clear hqs hql
  conv=>whnf
  refine .inv RdSt (fun s=>s.p.Ok/\s.i<=f.2.1/\s.b.length<1099511627776+s.i * 1000/\Rdr.names (f.2.1 - s.i) s.p s.b=Rdr.names f.2.1 p0 b0) (fun s=>[(32,.d (.int .i64 s.i))]) (fun s=>[(1,s.p.kb),(3,pk (Bst.fl (.live s.b)))]) (fun s=>f.2.1 - s.i) ⟨⟨p0,b0,0⟩,[0,1,2,3],⟨hq,Nat.zero_le _,by simpa using hb0,rfl⟩,?_⟩ ?_
  ·conv=>whnf
   repeat'(first|exact ⟨⟩|exact rfl|exact(fun _ _ _ _ h=>⟨jn _,h⟩)|exact fun _=>Iff.rfl|exact fun _ _=>rfl|apply And.intro)
  clear hq hb0
  intro s hs
  obtain⟨hq,hi,hb0,hrest⟩:=hs
  conv=>whnf
  generalize s.p=pc at hq hrest ⊢
  generalize s.b=bc at hb0 hrest ⊢
  generalize s.i=i at hi hb0 hrest ⊢
  refine⟨fun c5=>?_,fun c5=>?_⟩
  ·have c5':i<f.2.1:=(by have h:(i:Int)<f.2.1:=of_decide_eq_true c5;omega)
   conv=>whnf
   refine .rel _ (jk (qx6 pc hq) [_] [_,_] _ rfl rfl) (fun x ks' hR=>?_)
   obtain⟨_,q,⟨rfl,rfl⟩,rfl,rfl⟩:=hR
   have hnl:=pc.name_le
   conv=>whnf
   refine .rel _ (COk.thing Bst.fl (bw1_ok bc pc.name.2 (by omega)) [_,_,_] [] _ rfl rfl) (fun x ks' hR=>?_)
   obtain⟨_,q,⟨rfl,rfl⟩,rfl,rfl⟩:=hR
   conv=>whnf
   have hw1:=w64s i (by omega)
   refine⟨⟨pc.name.1,bc++pc.name.2,i+1⟩,[0,1,2,3],⟨hq.name,c5',by show(bc++pc.name.2).length<1099511627776+(i+1) * 1000;rw[List.length_append];omega,?_⟩,by show f.2.1 - (i+1)<f.2.1 - i;omega,?_⟩
   ·rw[<-hrest]
    have:f.2.1 - i=(f.2.1 - (i+1))+1:=by omega
    rw[this]
    rfl
   conv=>whnf
   rw[hw1]
   repeat'(first|exact ⟨⟩|exact rfl|exact(fun _ _ _ _ h=>⟨jn _,h⟩)|exact fun _=>Iff.rfl|exact fun _ _=>rfl|apply And.intro)
  have hia:i=f.2.1:=(by have h:¬ (i:Int)<f.2.1:=of_decide_eq_false c5;omega)
  rw [hia,Nat.sub_self] at hrest
  have hz:Rdr.names 0 pc bc=(pc,bc):=rfl
  have hrest':Rdr.names f.2.1 ((p0,b0):Rdr × List UInt8).1 ((p0,b0):Rdr × List UInt8).2=(pc,bc):=by rw[<-hz];exact hrest.symm
  rw[hrest']
  have hrl:=pc.raw_few (4 * f.2.2)
  have hrq:=hq.raw (4 * f.2.2)
  conv=>whnf
  rw[hw4]
  refine .rel _ (jk (um pc hq (4 * f.2.2) (by omega)) [_] [_,_] _ rfl rfl) (fun x ks' hR=>?_)
  obtain⟨_,q,⟨rfl,rfl⟩,rfl,rfl⟩:=hR
  conv=>whnf
  refine .rel _ (COk.thing Bst.fl (bw1_ok bc (pc.raw (4 * f.2.2)).2 (by omega)) [_,_,_] [] _ rfl rfl) (fun x ks' hR=>?_)
  obtain⟨_,q,⟨rfl,rfl⟩,rfl,rfl⟩:=hR
  conv=>whnf
  refine .rel _ (COk.thing Bst.fl (bs_ok (bc++(pc.raw (4 * f.2.2)).2) (by rw[List.length_append];omega)) [_,_,_] [] _ rfl rfl) (fun x ks' hR=>?_)
  obtain⟨_,q,⟨rfl,rfl⟩,rfl,rfl⟩:=hR
  generalize hqq:(((pc.raw (4 * f.2.2)).1,bc++(pc.raw (4 * f.2.2)).2):Rdr × List UInt8)=q
  have e1:(pc.raw (4 * f.2.2)).1=q.1:=by rw[<-hqq]
  have e2:bc++(pc.raw (4 * f.2.2)).2=q.2:=by rw[<-hqq]
  rw [e1] at hrq ⊢
  rw[e2]
  have hq:=hrq
  conv=>whnf
  have hql:=hq.len
  have hqp:=hq.p
  have hsub:IntKind.i64.wrap ((q.1.s.length:Int) - q.1.p)=(q.1.s.length:Int) - q.1.p:=qg _ (by omega)
  refine⟨fun h2=>?_,fun h2=>?_⟩
  ·conv=>whnf
   refine⟨[0],.tup [.d (.str []),.d (.int .i64 6)],[r1.kb],rfl,rfl,rfl,?_,_,rfl,by simp[h2],rfl⟩
   repeat'(first|exact ⟨⟩|exact rfl|exact fun _=>Iff.rfl|exact fun _ _=>rfl|exact renM_ent rfl _|apply And.intro)
  conv=>whnf
  refine brF h2 ?_
  conv=>whnf
  rw[hsub]
  refine⟨fun h3=>?_,fun h3=>?_⟩
  ·have h3':0<q.1.s.length - q.1.p:=by
    have h:((q.1.s.length:Int) - q.1.p) > 0:=of_decide_eq_true h3
    omega
   conv=>whnf
   refine⟨[0],.tup [.d (.str []),.d (.int .i64 6)],[r1.kb],rfl,rfl,rfl,?_,_,rfl,by simp[h3'],rfl⟩
   repeat'(first|exact ⟨⟩|exact rfl|exact fun _=>Iff.rfl|exact fun _ _=>rfl|exact renM_ent rfl _|apply And.intro)
  have h3':¬ 0<q.1.s.length - q.1.p:=by
   have h:¬ ((q.1.s.length:Int) - q.1.p) > 0:=of_decide_eq_false h3
   omega
  conv=>whnf
  refine oD (ql3 t q.2) rfl rfl ?_
  cases hc:yb t q.2
  ·conv=>whnf
   refine brT rfl ?_
   conv=>whnf
   refine⟨[0],.tup [.d (.str []),.d (.int .i64 6)],[r1.kb],rfl,rfl,rfl,?_,_,rfl,by simp[hc],rfl⟩
   repeat'(first|exact ⟨⟩|exact rfl|exact fun _=>Iff.rfl|exact fun _ _=>rfl|exact renM_ent rfl _|apply And.intro)
  ·conv=>whnf
   refine brF rfl ?_
   conv=>whnf
   refine⟨[0],.tup [.d (.str q.2),.d (.int .i64 0)],[r1.kb],rfl,rfl,rfl,?_,_,rfl,by simp[hc,h2,h3'],rfl⟩
   repeat'(first|exact ⟨⟩|exact rfl|exact fun _=>Iff.rfl|exact fun _ _=>rfl|exact renM_ent rfl _|apply And.intro)
theorem Wr.Ok.nameGo{p:Bool}:∀ (m:Nat) {w:Wr} (_:w.Ok) (n:List UInt8),(Wr.nameGo p m w n).Ok
 |0,w,h,n=>h.piece n
 |m+1,w,h,n=>by
  unfold Wr.nameGo
  have hp:=h.piece (n.take (1+bt n 0))
  split
  ·split
   ·split
    ·exact h.piece _
    ·split
     ·exact Wr.Ok.nameGo m hp _
     ·exact hp
   ·split
    ·refine Wr.Ok.nameGo m ?_ _
     split
     ·rename_i hl
      refine⟨hp.lo,hp.hi,hp.len,fun e he=>?_⟩
      rcases List.mem_append.1 he with he|he
      ·exact h.pl e he
      ·rw[List.mem_singleton.1 he]
       show 0<=(w.buf.length:Int)/\(w.buf.length:Int)<16384
       omega
     ·exact hp
    ·exact hp
  ·exact h.piece n
theorem Wr.Ok.name{w:Wr}(h:w.Ok)(n:List UInt8)(p:Bool):(w.name n p).Ok:=by
 unfold Wr.name
 split
 ·exact h
 ·exact Wr.Ok.nameGo _ h n
theorem Wr.Ok.copies{width:Nat}:∀ (m:Nat) {w:Wr} (_:w.Ok) (r:Rdr),(w.copies width m r).1.Ok
 |0,_,h,_=>h
 |m+1,_,h,r=>Wr.Ok.copies m (h.num width _) _
def Wr.names(w:Wr)(p:Bool)(l:List (List UInt8)):Wr:=l.foldl (fun w n=>w.name n p) w
theorem Wr.Ok.names{w:Wr}(h:w.Ok)(p:Bool)(l:List (List UInt8)):(w.names p l).Ok:=by
 induction l generalizing w with
 |nil=>exact h
 |cons a l ih=>exact ih (h.name a p)
def Wr.rdata(w:Wr)(t:Int)(s:List UInt8):Wr × Bool:=if yb t s then
 (match yf t s with
 |none=>w.piece s
 |some (p,x,l,r)=>(((w.copies 2 p.1 ⟨x,0,false⟩).1.names (t != 33) l).copies 4 p.2.2 ⟨r,0,false⟩).1,true)
 else (w,false)
theorem wraw_ok(w:Wr)(hw:w.Ok)(s:List UInt8)(hs:s.length<4611686018427387904):COk Tryz.prog 85 [.ptr 0 0,.d (.str s)] [pk w.fl] (fun r k=>∃ w1,k=[pk (Wr.fl w1)]/\(r = .tup []/\w1=w.piece s)):=by
 refine ji (TT:=TT) (IN:=qd []) qf qe mixed 1000 Tryz.func85 rfl (qc Tryz.func85 (by kernel_rfl) rfl) 5 (by kernel_rfl) ?_
 conv=>whnf
 refine .rel _ (COk.thing Wr.fl (qh2 w hw s hs) [] [] _ rfl rfl) (fun x ks' hR=>?_)
 obtain⟨_,w2,⟨rfl,rfl⟩,rfl,rfl⟩:=hR
 conv=>whnf
 refine⟨[0],.tup [],[pk (w.piece s).fl],rfl,rfl,rfl,⟨fun _ _ _ _ h=>⟨jn _,h⟩,True.intro⟩,_,rfl,rfl,rfl⟩
theorem qx0(w:Wr)(hw:w.Ok)(n:List UInt8):COk Tryz.prog 98 [.ptr 0 0,.d (.str n)] [pk w.fl] (fun r k=>∃ w1,k=[pk (Wr.fl w1)]/\(r = .tup []/\w1=w.name n true)):=by
 refine ji (TT:=TT) (IN:=qd []) qf qe mixed 1000 Tryz.func98 rfl (qc Tryz.func98 (by kernel_rfl) rfl) 5 (by kernel_rfl) ?_
 conv=>whnf
 refine .rel _ (COk.thing Wr.fl ((name_ok w hw n true).convA (args':=[.ptr 0 0,.d (.str n),.d .tt]) ⟨.refl _,.refl _,.d .tb,True.intro⟩) [] [] _ rfl rfl) (fun x ks' hR=>?_)
 obtain⟨_,w2,⟨rfl,rfl⟩,rfl,rfl⟩:=hR
 conv=>whnf
 refine⟨[0],.tup [],[pk (w.name n true).fl],rfl,rfl,rfl,⟨fun _ _ _ _ h=>⟨jn _,h⟩,True.intro⟩,_,rfl,rfl,rfl⟩
theorem wfull_ok(w:Wr)(hw:w.Ok)(n:List UInt8):COk Tryz.prog 199 [.ptr 0 0,.d (.str n)] [pk w.fl] (fun r k=>∃ w1,k=[pk (Wr.fl w1)]/\(r = .tup []/\w1=w.name n false)):=by
 refine ji (TT:=TT) (IN:=qd []) qf qe mixed 1000 Tryz.func199 rfl (qc Tryz.func199 (by kernel_rfl) rfl) 5 (by kernel_rfl) ?_
 conv=>whnf
 refine .rel _ (COk.thing Wr.fl ((name_ok w hw n false).convA (args':=[.ptr 0 0,.d (.str n),.d .ff]) ⟨.refl _,.refl _,.d .fb,True.intro⟩) [] [] _ rfl rfl) (fun x ks' hR=>?_)
 obtain⟨_,w2,⟨rfl,rfl⟩,rfl,rfl⟩:=hR
 conv=>whnf
 refine⟨[0],.tup [],[pk (w.name n false).fl],rfl,rfl,rfl,⟨fun _ _ _ _ h=>⟨jn _,h⟩,True.intro⟩,_,rfl,rfl,rfl⟩
theorem lookF_le{t:Int}{s:List UInt8}{p:Nat × Nat × Nat}{x r:List UInt8}{l:List (List UInt8)}(h:yf t s=some (p,x,l,r)) :
 s.length<=4096/\ya t=some p/\x=s.take (2 * p.1)/\2 * p.1<=s.length/\z8 p.2.1 (s.drop (2 * p.1))=some (l,r)/\r.length=4 * p.2.2:=by
 unfold yf at h
 split at h
 ·rename_i hs
  obtain⟨q,hq,h2⟩:=Option.bind_eq_some_iff.1 h
  obtain⟨z,hz,h3⟩:=Option.map_eq_some_iff.1 h2
  obtain⟨rfl,rfl⟩:=Prod.mk.inj h3
  unfold cutF at hz
  split at hz
  ·cases hz
  ·rename_i hl
   obtain⟨y,hy,h4⟩:=Option.bind_eq_some_iff.1 hz
   split at h4
   ·rename_i h5
    cases h4
    exact⟨hs,hq,rfl,by omega,hy,h5⟩
   ·cases h4
 ·cases h
structure WnSt where
 w:Wr
 i:Nat
theorem wrdata_ok(w:Wr)(hw:w.Ok)(t:Int)(s:List UInt8):COk Tryz.prog 151 [.ptr 0 0,.d (.int .u16 t),.d (.str s)] [pk w.fl] (fun r k=>∃ w1,k=[pk (Wr.fl w1)]/\(r = .d (.int .i64 (errno (w.rdata t s).2))/\w1=(w.rdata t s).1)):=by
 refine ji (TT:=TT) (IN:=qd []) qf qe mixed 1000 Tryz.func151 rfl (qc Tryz.func151 (by kernel_rfl) rfl) 53 (by kernel_rfl) ?_
 conv=>whnf
 refine oD (ql3 t s) rfl rfl ?_
 cases hc:yb t s
 ·have e:w.rdata t s=(w,false):=by unfold Wr.rdata;rw[if_neg (by simp[hc])]
  rw[e]
  conv=>whnf
  refine brT rfl ?_
  conv=>whnf
  refine⟨[0],.d (.int .i64 2),[pk w.fl],rfl,rfl,rfl,⟨fun _ _ _ _ h=>⟨jn _,h⟩,True.intro⟩,_,rfl,rfl,rfl⟩
 have hlen:s.length<=4096:=by
  simp only [yb,Bool.and_eq_true,decide_eq_true_eq] at hc
  exact hc.1
 conv=>whnf
 refine brF rfl ?_
 conv=>whnf
 refine .one (.data _ (look_ok t s) rfl ?_ ?_)
 ·cases yf t s <;> rfl
 rcases hl:yf t s with _|⟨p,x,l,r⟩
 ·have e:w.rdata t s=(w.piece s,true):=by unfold Wr.rdata;rw[if_pos hc,hl]
  rw[e]
  conv=>whnf
  repeat(first|(refine brT rfl ?_;conv=>whnf)|(refine brF rfl ?_;conv=>whnf)|(refine .once ?_;conv=>whnf)|(refine⟨by decide,?_⟩;conv=>whnf)|(refine And.intro (Nat.le_of_ble_eq_true rfl) ?_;conv=>whnf))
  refine .rel _ (COk.thing Wr.fl (wraw_ok w hw s (by omega)) [] [_,_] _ rfl rfl) (fun x ks' hR=>?_)
  obtain⟨_,w2,⟨rfl,rfl⟩,rfl,rfl⟩:=hR
  conv=>whnf
  refine⟨[0],.d (.int .i64 0),[pk (w.piece s).fl],rfl,rfl,rfl,⟨fun _ _ _ _ h=>⟨jn _,h⟩,True.intro⟩,_,rfl,rfl,rfl⟩
 ·have e:w.rdata t s=((((w.copies 2 p.1 ⟨x,0,false⟩).1.names (t != 33) l).copies 4 p.2.2 ⟨r,0,false⟩).1,true):=by unfold Wr.rdata;rw[if_pos hc,hl]
  obtain⟨_,hf,hx,hp1,hnm,hr⟩:=lookF_le hl
  obtain⟨hp2,_,hp3⟩:=qg5 hf
  have hll:=(jh2 _ _ _ _ hnm).1
  have hln:l.length<=100:=by have:=(qg5 hf).2.1;omega
  have hxl:x.length<4611686018427387904:=by rw[hx,List.length_take];omega
  rw[e]
  conv=>whnf
  repeat(first|(refine brT rfl ?_;conv=>whnf)|(refine brF rfl ?_;conv=>whnf)|(refine .once ?_;conv=>whnf)|(refine⟨by decide,?_⟩;conv=>whnf)|(refine And.intro (Nat.le_of_ble_eq_true rfl) ?_;conv=>whnf))
  refine .rel _ (COk.thing Wr.fl (copies_ok w hw 2 (.inr (.inl rfl)) p.1 (by omega) x hxl) [] [_,_] _ rfl rfl) (fun x ks' hR=>?_)
  obtain⟨_,w2,⟨rfl,rfl⟩,rfl,rfl⟩:=hR
  have hw2:(w.copies 2 p.1 ⟨x,0,false⟩).1.Ok:=hw.copies _ _
  generalize (w.copies 2 p.1 ⟨x,0,false⟩).1=w2 at hw2 ⊢
  conv=>whnf
  refine .inv WnSt (fun s'=>s'.w.Ok/\s'.i<=l.length/\s'.w.names (t != 33) (l.drop s'.i)=w2.names (t != 33) l) (fun s'=>[(37,.d (.int .i64 s'.i))]) (fun s'=>[(0,pk s'.w.fl)]) (fun s'=>l.length - s'.i) ⟨⟨w2,0⟩,[0,1,2],⟨hw2,Nat.zero_le _,rfl⟩,?_⟩ ?_
  ·conv=>whnf
   repeat'(first|exact ⟨⟩|exact rfl|exact(fun _ _ _ _ h=>⟨jn _,h⟩)|apply And.intro)
  intro s' hs'
  obtain⟨hw1,hi,hgo⟩:=hs'
  conv=>whnf
  generalize s'.w=w1 at hw1 hgo ⊢
  generalize s'.i=i at hi hgo ⊢
  refine⟨fun c1=>?_,fun c1=>?_⟩
  ·have c1':i<l.length:=by
    have:(i:Int)<l.length:=of_decide_eq_true c1
    omega
   obtain⟨n,hn⟩:∃ n,l[i]?.getD []=n:=⟨_,rfl⟩
   have hdr:l.drop i=n :: l.drop (i+1):=by rw[<-hn,List.drop_eq_getElem_cons c1',List.getElem?_eq_getElem c1'];rfl
   have hi1:=w64s i (by omega)
   rw [hdr] at hgo
   conv=>whnf
   refine⟨by omega,?_⟩
   conv=>whnf
   rw[Int.toNat_natCast,hn]
   refine⟨fun c2=>?_,fun c2=>?_⟩
   ·have ht:(t != 33)=false:=by
     have:t=33:=by simpa using c2
     simp[this]
    rw [ht] at hgo ⊢
    conv=>whnf
    refine .rel _ (COk.thing Wr.fl (wfull_ok w1 hw1 n) [] [_,_] _ rfl rfl) (fun x ks' hR=>?_)
    obtain⟨_,w3,⟨rfl,rfl⟩,rfl,rfl⟩:=hR
    conv=>whnf
    refine⟨⟨w1.name n false,i+1⟩,[0,1,2],⟨hw1.name _ _,by show i+1<=l.length;omega,hgo⟩,by show l.length - (i+1)<l.length - i;omega,?_⟩
    conv=>whnf
    rw[hi1]
    repeat'(first|exact ⟨⟩|exact rfl|exact(fun _ _ _ _ h=>⟨jn _,h⟩)|apply And.intro)
   ·have ht:(t != 33)=true:=by
     have:¬ t=33:=by simpa using c2
     simp[this]
    rw [ht] at hgo ⊢
    conv=>whnf
    refine .rel _ (COk.thing Wr.fl (qx0 w1 hw1 n) [] [_,_] _ rfl rfl) (fun x ks' hR=>?_)
    obtain⟨_,w3,⟨rfl,rfl⟩,rfl,rfl⟩:=hR
    conv=>whnf
    refine⟨⟨w1.name n true,i+1⟩,[0,1,2],⟨hw1.name _ _,by show i+1<=l.length;omega,hgo⟩,by show l.length - (i+1)<l.length - i;omega,?_⟩
    conv=>whnf
    rw[hi1]
    repeat'(first|exact ⟨⟩|exact rfl|exact(fun _ _ _ _ h=>⟨jn _,h⟩)|apply And.intro)
  ·have c1':¬ i<l.length:=by
    have:¬ (i:Int)<l.length:=of_decide_eq_false c1
    omega
   rw [List.drop_of_length_le (by omega)] at hgo
   have hgo:w1=w2.names (t != 33) l:=hgo
   rw[<-hgo]
   conv=>whnf
   refine .rel _ (COk.thing Wr.fl (copies_ok w1 hw1 4 (.inr (.inr (.inl rfl))) p.2.2 (by omega) r (by omega)) [] [_,_] _ rfl rfl) (fun x ks' hR=>?_)
   obtain⟨_,w3,⟨rfl,rfl⟩,rfl,rfl⟩:=hR
   conv=>whnf
   refine⟨[0],.d (.int .i64 0),[pk (w1.copies 4 p.2.2 ⟨r,0,false⟩).1.fl],rfl,rfl,rfl,⟨fun _ _ _ _ h=>⟨jn _,h⟩,True.intro⟩,_,rfl,rfl,rfl⟩
theorem Wr.Ok.rdata{w:Wr}(h:w.Ok)(t:Int)(s:List UInt8):(w.rdata t s).1.Ok:=by
 unfold Wr.rdata
 split
 ·show(match yf t s with
   |none=>w.piece s
   |some (p,x,l,r)=>(((w.copies 2 p.1 ⟨x,0,false⟩).1.names (t != 33) l).copies 4 p.2.2 ⟨r,0,false⟩).1).Ok
  split
  ·exact h.piece s
  ·exact Wr.Ok.copies _ ((h.copies _ _).names _ _) _
 ·exact h
theorem Wr.Ok.set{w:Wr}(h:w.Ok)(a n:Int):(w.set a n).Ok:=by
 unfold Wr.set
 split
 ·exact h
 ·rename_i hc
  refine⟨h.lo,h.hi,?_,h.pl⟩
  show(two w.buf a.toNat _ _).length=0\/((two w.buf a.toNat _ _).length:Int)<=w.limit
  rw[two_len _ _ _ _ (by omega)]
  exact h.len
def Wr.record(w:Wr)(r:RR):Wr × Bool:=if r.check then
 (
  let w1:=(((w.name r.nm true).num 2 r.ty).num 2 r.cl).num 4 r.ttl
  let w2:=w1.num 2 0
  let w3:=w2.rdata r.ty r.d
  (w3.1.set w1.buf.length (IntKind.u16.wrap ((w3.1.buf.length:Int) - w2.buf.length)),w3.2))
 else (w,false)
theorem wrec_ok(w:Wr)(hw:w.Ok)(r:RR)(h1:0<=r.ty/\r.ty<=65535)(h2:0<=r.cl/\r.cl<=65535)(h3:0<=r.ttl/\r.ttl<=4294967295):COk Tryz.prog 99 [.ptr 0 0,r.V] [pk w.fl] (fun s k=>∃ w1,k=[pk (Wr.fl w1)]/\(s = .d (.int .i64 (errno (w.record r).2))/\w1=(w.record r).1)):=by
 refine ji (TT:=TT) (IN:=qd []) qf qe mixed 1000 Tryz.func99 rfl (qc Tryz.func99 (by kernel_rfl) rfl) 49 (by kernel_rfl) ?_
 conv=>whnf
 refine oD (qg0 r) rfl rfl ?_
 cases hc:r.check
 ·have e:w.record r=(w,false):=by unfold Wr.record;rw[if_neg (by simp[hc])]
  rw[e]
  conv=>whnf
  refine brT rfl ?_
  conv=>whnf
  refine⟨[0],.d (.int .i64 2),[pk w.fl],rfl,rfl,rfl,⟨fun _ _ _ _ h=>⟨jn _,h⟩,True.intro⟩,_,rfl,rfl,rfl⟩
 conv=>whnf
 refine brF rfl ?_
 conv=>whnf
 have hu:∀ x:Int,0<=x/\x<18446744073709551616->IntKind.u64.wrap x=x:=fun x hx=>by rw[IntKind.wrap_u64];omega
 refine .rel _ (COk.thing Wr.fl (qx0 w hw r.nm) [] [_] _ rfl rfl) (fun x ks' hR=>?_)
 obtain⟨_,wq,⟨rfl,rfl⟩,rfl,rfl⟩:=hR
 have ha:=hw.name r.nm true
 generalize hwa:w.name r.nm true=wa at ha ⊢
 conv=>whnf
 rw[hu r.ty (by omega)]
 refine .rel _ (COk.thing Wr.fl (z7 wa ha 2 (.inr (.inl rfl)) r.ty) [] [_] _ rfl rfl) (fun x ks' hR=>?_)
 obtain⟨_,wq,⟨rfl,rfl⟩,rfl,rfl⟩:=hR
 have hb:=ha.num 2 r.ty
 generalize hwb:wa.num 2 r.ty=wb at hb ⊢
 conv=>whnf
 rw[hu r.cl (by omega)]
 refine .rel _ (COk.thing Wr.fl (z7 wb hb 2 (.inr (.inl rfl)) r.cl) [] [_] _ rfl rfl) (fun x ks' hR=>?_)
 obtain⟨_,wq,⟨rfl,rfl⟩,rfl,rfl⟩:=hR
 have hcc:=hb.num 2 r.cl
 generalize hwc:wb.num 2 r.cl=wc at hcc ⊢
 conv=>whnf
 rw[hu r.ttl (by omega)]
 refine .rel _ (COk.thing Wr.fl (z7 wc hcc 4 (.inr (.inr (.inl rfl))) r.ttl) [] [_] _ rfl rfl) (fun x ks' hR=>?_)
 obtain⟨_,wq,⟨rfl,rfl⟩,rfl,rfl⟩:=hR
 have hd:=hcc.num 4 r.ttl
 generalize hwd:wc.num 4 r.ttl=wd at hd ⊢
 conv=>whnf
 refine .rel _ (COk.thing Wr.fl (wlen_ok wd) [] [_] _ rfl rfl) (fun x ks' hR=>?_)
 obtain⟨_,wq,⟨rfl,hq⟩,rfl,rfl⟩:=hR
 rw[hq]
 clear hq
 conv=>whnf
 refine .rel _ (COk.thing Wr.fl (z7 wd hd 2 (.inr (.inl rfl)) 0) [] [_] _ rfl rfl) (fun x ks' hR=>?_)
 obtain⟨_,wq,⟨rfl,rfl⟩,rfl,rfl⟩:=hR
 have he:=hd.num 2 0
 generalize hwe:wd.num 2 0=we at he ⊢
 conv=>whnf
 refine .rel _ (COk.thing Wr.fl (wlen_ok we) [] [_] _ rfl rfl) (fun x ks' hR=>?_)
 obtain⟨_,wq,⟨rfl,hq⟩,rfl,rfl⟩:=hR
 rw[hq]
 clear hq
 conv=>whnf
 refine .rel _ (COk.thing Wr.fl (wrdata_ok we he r.ty r.d) [] [_] _ rfl rfl) (fun x ks' hR=>?_)
 obtain⟨_,wq,⟨rfl,rfl⟩,rfl,rfl⟩:=hR
 have hf:=he.rdata r.ty r.d
 generalize hwf:we.rdata r.ty r.d=wf at hf ⊢
 conv=>whnf
 refine .rel _ (COk.thing Wr.fl (wlen_ok wf.1) [] [_] _ rfl rfl) (fun x ks' hR=>?_)
 obtain⟨_,wq,⟨rfl,hq⟩,rfl,rfl⟩:=hR
 rw[hq]
 clear hq
 have hsub:IntKind.i64.wrap ((wf.1.buf.length:Int) - we.buf.length)=(wf.1.buf.length:Int) - we.buf.length:=by
  have h1:=hf.len
  have h2:=hf.hi
  have h3:=he.len
  have h4:=he.hi
  exact qg _ (by omega)
 conv=>whnf
 rw[hsub]
 refine .rel _ (COk.thing Wr.fl (wset_ok wf.1 hf wd.buf.length (IntKind.u16.wrap ((wf.1.buf.length:Int) - we.buf.length))) [] [_] _ rfl rfl) (fun x ks' hR=>?_)
 obtain⟨_,wq,⟨rfl,rfl⟩,rfl,rfl⟩:=hR
 have e:w.record r=(wf.1.set wd.buf.length (IntKind.u16.wrap ((wf.1.buf.length:Int) - we.buf.length)),wf.2):=by
  unfold Wr.record
  rw[if_pos hc]
  simp only[hwa,hwb,hwc,hwd,hwe,hwf]
 rw[e]
 conv=>whnf
 refine⟨[0],.d (.int .i64 (errno wf.2)),[pk (wf.1.set wd.buf.length (IntKind.u16.wrap ((wf.1.buf.length:Int) - we.buf.length))).fl],rfl,rfl,rfl,⟨fun _ _ _ _ h=>⟨jn _,h⟩,True.intro⟩,_,rfl,rfl,rfl⟩
theorem Wr.Ok.record{w:Wr}(h:w.Ok)(r:RR):(w.record r).1.Ok:=by
 unfold Wr.record
 split
 ·exact Wr.Ok.set (Wr.Ok.rdata (((((h.name _ _).num _ _).num _ _).num _ _).num _ _) _ _) _ _
 ·exact h
theorem qx9{w:Wr}{r:RR}(h:r.check=true):(w.record r).2=true:=by
 unfold Wr.record
 rw[if_pos h]
 show((((((w.name r.nm true).num 2 r.ty).num 2 r.cl).num 4 r.ttl).num 2 0).rdata r.ty r.d).2=true
 unfold Wr.rdata
 simp only [RR.check,Bool.and_eq_true] at h
 rw[if_pos h.1.2]
def rr0:RR:=⟨[],0,0,0,[]⟩
def Rdr.recd(r:Rdr):Rdr × RR × Int :=
 let a:=r.name
 let b:=a.1.num 2
 let c:=b.1.num 2
 let d:=c.1.num 4
 let e:=d.1.num 2
 if e.1.bad then (e.1,rr0,5) else
 let x:=e.1.rdata (IntKind.u16.wrap b.2) (IntKind.i64.wrap e.2)
 if x.2≠0 then ((e.1.part (IntKind.i64.wrap e.2)).1,rr0,x.2) else
 ((e.1.part (IntKind.i64.wrap e.2)).1,⟨a.2,IntKind.u16.wrap b.2,IntKind.u16.wrap c.2,if IntKind.u32.wrap d.2 > 2147483647/\IntKind.u16.wrap b.2≠41 then 0 else IntKind.u32.wrap d.2,x.1⟩,0)
theorem Rdr.num_s(r:Rdr)(n:Nat):(r.num n).1.s=r.s:=r.raw_s n
set_option maxRecDepth 100000 in
theorem rrec_ok(r:Rdr)(hr:r.Ok) :
 COk Tryz.prog 69 [.ptr 0 0] [r.kb] (fun s k=>∃ r1,k=[Rdr.kb r1]/\(s = .tup [r.recd.2.1.V,.d (.int .i64 r.recd.2.2)]/\r1=r.recd.1)):=by
 refine ji (TT:=TT) (IN:=qd [(67,Tryz.f67,1)]) qf (qv qe Tryz.func67 (by kernel_rfl) (by kernel_rfl)) mixed 1000 Tryz.func69 rfl (qc Tryz.func69 (by kernel_rfl) rfl) 52 (by kernel_rfl) ?_
 have hrec:r.recd=r.recd:=rfl
 conv at hrec=>rhs;unfold Rdr.recd
 dsimp only at hrec
 conv=>whnf
 refine .rel _ (jk (qx6 r hr) [] [_,_] _ rfl rfl) (fun x ks' hR=>?_)
 obtain⟨_,q,⟨rfl,rfl⟩,rfl,rfl⟩:=hR
 have ha:=hr.name
 have hsa:=r.name_s
 generalize r.name=a at ha hsa hrec ⊢
 conv=>whnf
 refine .rel _ (jk (zn a.1 ha 2 (.inr (.inl rfl))) [] [_,_] _ rfl rfl) (fun x ks' hR=>?_)
 obtain⟨_,q,⟨rfl,rfl⟩,rfl,rfl⟩:=hR
 have hb:=ha.num 2
 have hsb:=a.1.num_s 2
 generalize a.1.num 2=b at hb hsb hrec ⊢
 conv=>whnf
 refine .rel _ (jk (zn b.1 hb 2 (.inr (.inl rfl))) [] [_,_] _ rfl rfl) (fun x ks' hR=>?_)
 obtain⟨_,q,⟨rfl,rfl⟩,rfl,rfl⟩:=hR
 have hc:=hb.num 2
 have hsc:=b.1.num_s 2
 generalize b.1.num 2=c at hc hsc hrec ⊢
 conv=>whnf
 refine .rel _ (jk (zn c.1 hc 4 (.inr (.inr (.inl rfl)))) [] [_,_] _ rfl rfl) (fun x ks' hR=>?_)
 obtain⟨_,q,⟨rfl,rfl⟩,rfl,rfl⟩:=hR
 have hd:=hc.num 4
 have hsd:=c.1.num_s 4
 generalize c.1.num 4=d at hd hsd hrec ⊢
 conv=>whnf
 refine .rel _ (jk (zn d.1 hd 2 (.inr (.inl rfl))) [] [_,_] _ rfl rfl) (fun x ks' hR=>?_)
 obtain⟨_,q,⟨rfl,rfl⟩,rfl,rfl⟩:=hR
 have he:=hd.num 2
 have hse:=d.1.num_s 2
 generalize d.1.num 2=e at he hse hrec ⊢
 conv=>whnf
 refine⟨fun h1=>?_,fun h1=>?_⟩
 ·rw [if_pos h1] at hrec
  conv=>whnf
  refine⟨[0],.tup [rr0.V,.d (.int .i64 5)],[e.1.kb],rfl,rfl,rfl,?_,_,rfl,by rw[hrec],by rw[hrec]⟩
  repeat'(first|exact ⟨⟩|exact rfl|exact fun _=>Iff.rfl|exact fun _ _=>rfl|exact renM_ent rfl _|apply And.intro)
 rw [if_neg (by simp [h1])] at hrec
 have hwr:=IntKind.wrap_i64 (e.2:Int)
 have hwb : -9223372036854775808<=IntKind.i64.wrap (e.2:Int)/\IntKind.i64.wrap (e.2:Int)<=9223372036854775807:=by rw[hwr];omega
 conv=>whnf
 refine .rel _ (jk (rrdata_ok e.1 he (IntKind.u16.wrap b.2) (IntKind.i64.wrap e.2) hwb) [] [_,_] _ rfl rfl) (fun x ks' hR=>?_)
 obtain⟨_,q,⟨rfl,rfl⟩,rfl,rfl⟩:=hR
 generalize e.1.rdata (IntKind.u16.wrap b.2) (IntKind.i64.wrap e.2)=x at hrec ⊢
 generalize (e.1.part (IntKind.i64.wrap e.2)).1=r1 at hrec ⊢
 conv=>whnf
 refine⟨fun h2=>?_,fun h2=>?_⟩
 ·have h2':x.2≠0:=by simpa using h2
  rw [if_pos h2'] at hrec
  conv=>whnf
  refine⟨[0],.tup [rr0.V,.d (.int .i64 x.2)],[r1.kb],rfl,rfl,rfl,?_,_,rfl,by rw[hrec],by rw[hrec]⟩
  repeat'(first|exact ⟨⟩|exact rfl|exact fun _=>Iff.rfl|exact fun _ _=>rfl|exact renM_ent rfl _|apply And.intro)
 have h2':¬ x.2≠0:=by simpa using h2
 rw [if_neg h2'] at hrec
 conv=>whnf
 refine⟨fun h3=>?_,fun h3=>?_⟩
 ·have h3':IntKind.u32.wrap (d.2:Int) > 2147483647:=of_decide_eq_true h3
  conv=>whnf
  refine⟨fun h4=>?_,fun h4=>?_⟩
  ·have h4':IntKind.u16.wrap (b.2:Int)≠41:=by simpa using h4
   rw [if_pos ⟨h3',h4'⟩] at hrec
   conv=>whnf
   refine⟨[0],.tup [(RR.V ⟨a.2,IntKind.u16.wrap b.2,IntKind.u16.wrap c.2,0,x.1⟩),.d (.int .i64 0)],[r1.kb],rfl,rfl,rfl,?_,_,rfl,by rw[hrec],by rw[hrec]⟩
   repeat'(first|exact ⟨⟩|exact rfl|exact fun _=>Iff.rfl|exact fun _ _=>rfl|exact renM_ent rfl _|apply And.intro)
  ·have h4':¬ IntKind.u16.wrap (b.2:Int)≠41:=by simpa using h4
   rw [if_neg (fun h=>h4' h.2)] at hrec
   conv=>whnf
   refine⟨[0],.tup [(RR.V ⟨a.2,IntKind.u16.wrap b.2,IntKind.u16.wrap c.2,IntKind.u32.wrap d.2,x.1⟩),.d (.int .i64 0)],[r1.kb],rfl,rfl,rfl,?_,_,rfl,by rw[hrec],by rw[hrec]⟩
   repeat'(first|exact ⟨⟩|exact rfl|exact fun _=>Iff.rfl|exact fun _ _=>rfl|exact renM_ent rfl _|apply And.intro)
 ·have h3':¬ IntKind.u32.wrap (d.2:Int) > 2147483647:=of_decide_eq_false h3
  rw [if_neg (fun h=>h3' h.1)] at hrec
  conv=>whnf
  refine⟨[0],.tup [(RR.V ⟨a.2,IntKind.u16.wrap b.2,IntKind.u16.wrap c.2,IntKind.u32.wrap d.2,x.1⟩),.d (.int .i64 0)],[r1.kb],rfl,rfl,rfl,?_,_,rfl,by rw[hrec],by rw[hrec]⟩
  repeat'(first|exact ⟨⟩|exact rfl|exact fun _=>Iff.rfl|exact fun _ _=>rfl|exact renM_ent rfl _|apply And.intro)
theorem Rdr.Ok.recd{r:Rdr}(h:r.Ok):r.recd.1.Ok:=by
 have h1:=((((h.name.num 2).num 2).num 4).num 2)
 unfold Rdr.recd
 dsimp only
 split
 ·exact h1
 ·split
  ·exact h1.raw _
  ·exact h1.raw _
theorem Rdr.recd_s(r:Rdr):r.recd.1.s=r.s:=by
 have h1:(((((r.name.1.num 2).1.num 2).1.num 4).1.num 2).1).s=r.s:=by rw[Rdr.num_s,Rdr.num_s,Rdr.num_s,Rdr.num_s,Rdr.name_s]
 unfold Rdr.recd
 dsimp only
 split
 ·exact h1
 ·split
  ·exact(Rdr.raw_s _ _).trans h1
  ·exact(Rdr.raw_s _ _).trans h1
theorem ql5{P:Program}{f:FuncId}{al:List SV}{K:KB}(hK:∀ σ,mapK σ K=K)(h:COk P f al [] (fun r k=>r = .ptr 0 0/\k=[K]))(pre:List KB)(ha:∀ σ,mapL σ al=al):COk P f al pre (fun r k=>r = .ptr pre.length 0/\k=pre++[K]):=by
 have:=h.among pre [] (fun s k _=>Nat.zero_le _) rfl
 rw [ha] at this
 have e:pre++(mapB (sig (List.range' pre.length ([]:List KB).length) (pre.length+(([]:List KB).length+([]:List KB).length))) []++[])=pre:=by simp[mapB]
 rw [e] at this
 refine this.imp fun s k ⟨s0,k1,⟨hr,hk1⟩,hs,hk⟩=>?_
 subst hr hk1
 refine⟨by rw[hs];rfl,?_⟩
 rw[hk]
 show pre++([]++([]++[mapK _ K]))=_
 rw[hK]
 rfl
structure Q where
 nm:List UInt8
 ty:Int
 cl:Int
deriving Inhabited
def Q.enc(q:Q):List DV:=[.str q.nm,.int .u16 q.ty,.int .u16 q.cl]
structure Msg where
 id:Int
 bits:Int
 za:Bool
 asks:List Q
 zs:Bool
 says:List RR
 zh:Bool
 heads:List RR
 ze:Bool
 extra:List RR
def qsD(z:Bool)(l:List Q):DV:=.sl z l.length 3 (fun i=>(l.getD i default).enc)
def Msg.cells(m:Msg):List SV:=[.d (.int .u16 m.id),.d (.int .u16 m.bits),.d (qsD m.za m.asks),.d (rrsD m.zs m.says),.d (rrsD m.zh m.heads),.d (rrsD m.ze m.extra)]
def Msg.check(m:Msg):Bool:=decide (m.asks.length<=4096) && decide (m.says.length<=4096) && decide (m.heads.length<=4096) && decide (m.extra.length<=4096) && m.asks.all (fun q=>decide (qh q.nm)) && m.says.all RR.check && m.heads.all RR.check && m.extra.all RR.check
theorem mcheck_ok(m:Msg)(hl:m.asks.length<4611686018427387904):FnOk Tryz.prog 97 [.agg m.cells] (.d (.int .i64 (errno m.check))):=by
 refine qn (TT:=TT) (IN:=qd [(68,Tryz.f68,1),(133,Tryz.f133,2)]) qf (qv (qv qe Tryz.func133 (by kernel_rfl) (by kernel_rfl)) Tryz.func68 (by kernel_rfl) (by kernel_rfl)) mixed 1000 Tryz.func97 rfl (qc Tryz.func97 (by kernel_rfl) rfl) rfl 45 (by kernel_rfl) ?_
 conv=>whnf
 refine⟨fun c1=>?_,fun c1=>?_⟩
 ·have e:m.check=false:=by
   have:¬ m.asks.length<=4096:=(by have h:(m.asks.length:Int) > 4096:=of_decide_eq_true c1;omega)
   simp[Msg.check,this]
  rw[e]
  conv=>whnf
  exact rfl
 have c1':m.asks.length<=4096:=(by have h:¬ (m.asks.length:Int) > 4096:=of_decide_eq_false c1;omega)
 conv=>whnf
 refine⟨fun c2=>?_,fun c2=>?_⟩
 ·have e:m.check=false:=by
   have:¬ m.says.length<=4096:=(by have h:(m.says.length:Int) > 4096:=of_decide_eq_true c2;omega)
   simp[Msg.check,this]
  rw[e]
  conv=>whnf
  exact rfl
 have c2':m.says.length<=4096:=(by have h:¬ (m.says.length:Int) > 4096:=of_decide_eq_false c2;omega)
 conv=>whnf
 refine⟨fun c3=>?_,fun c3=>?_⟩
 ·have e:m.check=false:=by
   have:¬ m.heads.length<=4096:=(by have h:(m.heads.length:Int) > 4096:=of_decide_eq_true c3;omega)
   simp[Msg.check,this]
  rw[e]
  conv=>whnf
  exact rfl
 have c3':m.heads.length<=4096:=(by have h:¬ (m.heads.length:Int) > 4096:=of_decide_eq_false c3;omega)
 conv=>whnf
 refine⟨fun c4=>?_,fun c4=>?_⟩
 ·have e:m.check=false:=by
   have:¬ m.extra.length<=4096:=(by have h:(m.extra.length:Int) > 4096:=of_decide_eq_true c4;omega)
   simp[Msg.check,this]
  rw[e]
  conv=>whnf
  exact rfl
 have c4':m.extra.length<=4096:=(by have h:¬ (m.extra.length:Int) > 4096:=of_decide_eq_false c4;omega)
 conv=>whnf
 have hw1:∀ (i n:Nat),i<n->n<=4096->IntKind.i64.wrap ((i:Int)+1)=((i+1:Nat):Int):=fun i n h1 h2=>by rw[qg _ (by omega)];omega
 refine .inv Nat (fun i=>i<=m.asks.length/\(m.asks.take i).all (fun q=>decide (qh q.nm))=true) (fun i=>[(23,.d (.int .i64 i))]) (fun _=>[]) (fun i=>m.asks.length - i) ⟨0,[0,1,2,3],⟨Nat.zero_le _,rfl⟩,?_⟩ ?_
 ·conv=>whnf
  repeat'(first|exact ⟨⟩|exact rfl|exact fun _=>Iff.rfl|exact fun _ _=>rfl|exact renM_ent rfl _|apply And.intro)
 rintro i ⟨hi,hall⟩
 conv=>whnf
 refine⟨fun c5=>?_,fun c5=>?_⟩
 ·have c5':i<m.asks.length:=(by have h:(i:Int)<m.asks.length:=of_decide_eq_true c5;omega)
  obtain⟨q,hq⟩:∃ q,m.asks.getD i default=q:=⟨_,rfl⟩
  have hq2:m.asks[i]? = some q:=by rw[<-hq,List.getD,List.getElem?_eq_getElem c5'];rfl
  have htk:m.asks.take (i+1)=m.asks.take i++[q]:=by rw[List.take_add_one,hq2];rfl
  conv=>whnf
  refine⟨by omega,?_⟩
  conv=>whnf
  rw[Int.toNat_natCast,hq]
  refine oD (j5 q.nm) rfl rfl ?_
  by_cases hn:qh q.nm
  ·rw[if_pos hn]
   conv=>whnf
   refine brF rfl ?_
   conv=>whnf
   refine⟨i+1,[0,1,2,3],⟨c5',by rw[htk,List.all_append,hall];simp[hn]⟩,by omega,?_⟩
   conv=>whnf
   rw[hw1 i _ c5' c1']
   repeat'(first|exact ⟨⟩|exact rfl|exact fun _=>Iff.rfl|exact fun _ _=>rfl|exact renM_ent rfl _|apply And.intro)
  ·have e:m.check=false:=by
    have:m.asks.all (fun q=>decide (qh q.nm))=false:=by
     rw[List.all_eq_false]
     exact⟨q,List.mem_of_getElem? hq2,by simp[hn]⟩
    simp only[Msg.check,this,Bool.and_false,Bool.false_and]
   rw[if_neg hn,e]
   conv=>whnf
   refine brT rfl ?_
   conv=>whnf
   exact rfl
 have hasks:m.asks.all (fun q=>decide (qh q.nm))=true:=by
  have:¬ i<m.asks.length:=(by have h:¬ (i:Int)<m.asks.length:=of_decide_eq_false c5;omega)
  rwa [List.take_of_length_le (by omega)] at hall
 clear hall hi c5
 conv=>whnf
 refine .inv Nat (fun i=>i<=m.says.length/\(m.says.take i).all RR.check=true) (fun i=>[(38,.d (.int .i64 i))]) (fun _=>[]) (fun i=>m.says.length - i) ⟨0,[0,1,2,3,4,5],⟨Nat.zero_le _,rfl⟩,?_⟩ ?_
 ·conv=>whnf
  repeat'(first|exact ⟨⟩|exact rfl|exact fun _=>Iff.rfl|exact fun _ _=>rfl|apply And.intro)
 rintro i ⟨hi,hall⟩
 conv=>whnf
 refine⟨fun c5=>?_,fun c5=>?_⟩
 ·have c5':i<m.says.length:=(by have h:(i:Int)<m.says.length:=of_decide_eq_true c5;omega)
  obtain⟨q,hq⟩:∃ q,m.says.getD i default=q:=⟨_,rfl⟩
  have hq2:m.says[i]? = some q:=by rw[<-hq,List.getD,List.getElem?_eq_getElem c5'];rfl
  have htk:m.says.take (i+1)=m.says.take i++[q]:=by rw[List.take_add_one,hq2];rfl
  conv=>whnf
  refine⟨by omega,?_⟩
  conv=>whnf
  rw[Int.toNat_natCast,hq]
  refine oD (qg0 q) rfl rfl ?_
  cases hn:q.check
  ·have e:m.check=false:=by
    have:m.says.all RR.check=false:=by
     rw[List.all_eq_false]
     exact⟨q,List.mem_of_getElem? hq2,by simp[hn]⟩
    simp only[Msg.check,this,Bool.and_false,Bool.false_and]
   rw[e]
   conv=>whnf
   refine brT rfl ?_
   conv=>whnf
   exact rfl
  ·conv=>whnf
   refine brF rfl ?_
   conv=>whnf
   refine⟨i+1,[0,1,2,3,4,5],⟨c5',by rw[htk,List.all_append,hall];simp[hn]⟩,by omega,?_⟩
   conv=>whnf
   rw[hw1 i _ c5' c2']
   repeat'(first|exact ⟨⟩|exact rfl|exact fun _=>Iff.rfl|exact fun _ _=>rfl|apply And.intro)
 have hsays:m.says.all RR.check=true:=by
  have:¬ i<m.says.length:=(by have h:¬ (i:Int)<m.says.length:=of_decide_eq_false c5;omega)
  rwa [List.take_of_length_le (by omega)] at hall
 clear hall hi c5
 conv=>whnf
 refine .inv Nat (fun i=>i<=m.heads.length/\(m.heads.take i).all RR.check=true) (fun i=>[(38,.d (.int .i64 i))]) (fun _=>[]) (fun i=>m.heads.length - i) ⟨0,[0,1,2,3,4,5],⟨Nat.zero_le _,rfl⟩,?_⟩ ?_
 ·conv=>whnf
  repeat'(first|exact ⟨⟩|exact rfl|exact fun _=>Iff.rfl|exact fun _ _=>rfl|apply And.intro)
 rintro i ⟨hi,hall⟩
 conv=>whnf
 refine⟨fun c5=>?_,fun c5=>?_⟩
 ·have c5':i<m.heads.length:=(by have h:(i:Int)<m.heads.length:=of_decide_eq_true c5;omega)
  obtain⟨q,hq⟩:∃ q,m.heads.getD i default=q:=⟨_,rfl⟩
  have hq2:m.heads[i]? = some q:=by rw[<-hq,List.getD,List.getElem?_eq_getElem c5'];rfl
  have htk:m.heads.take (i+1)=m.heads.take i++[q]:=by rw[List.take_add_one,hq2];rfl
  conv=>whnf
  refine⟨by omega,?_⟩
  conv=>whnf
  rw[Int.toNat_natCast,hq]
  refine oD (qg0 q) rfl rfl ?_
  cases hn:q.check
  ·have e:m.check=false:=by
    have:m.heads.all RR.check=false:=by
     rw[List.all_eq_false]
     exact⟨q,List.mem_of_getElem? hq2,by simp[hn]⟩
    simp only[Msg.check,this,Bool.and_false,Bool.false_and]
   rw[e]
   conv=>whnf
   refine brT rfl ?_
   conv=>whnf
   exact rfl
  ·conv=>whnf
   refine brF rfl ?_
   conv=>whnf
   refine⟨i+1,[0,1,2,3,4,5],⟨c5',by rw[htk,List.all_append,hall];simp[hn]⟩,by omega,?_⟩
   conv=>whnf
   rw[hw1 i _ c5' c3']
   repeat'(first|exact ⟨⟩|exact rfl|exact fun _=>Iff.rfl|exact fun _ _=>rfl|apply And.intro)
 have hheads:m.heads.all RR.check=true:=by
  have:¬ i<m.heads.length:=(by have h:¬ (i:Int)<m.heads.length:=of_decide_eq_false c5;omega)
  rwa [List.take_of_length_le (by omega)] at hall
 clear hall hi c5
 conv=>whnf
 refine .inv Nat (fun i=>i<=m.extra.length/\(m.extra.take i).all RR.check=true) (fun i=>[(38,.d (.int .i64 i))]) (fun _=>[]) (fun i=>m.extra.length - i) ⟨0,[0,1,2,3,4,5],⟨Nat.zero_le _,rfl⟩,?_⟩ ?_
 ·conv=>whnf
  repeat'(first|exact ⟨⟩|exact rfl|exact fun _=>Iff.rfl|exact fun _ _=>rfl|apply And.intro)
 rintro i ⟨hi,hall⟩
 conv=>whnf
 refine⟨fun c5=>?_,fun c5=>?_⟩
 ·have c5':i<m.extra.length:=(by have h:(i:Int)<m.extra.length:=of_decide_eq_true c5;omega)
  obtain⟨q,hq⟩:∃ q,m.extra.getD i default=q:=⟨_,rfl⟩
  have hq2:m.extra[i]? = some q:=by rw[<-hq,List.getD,List.getElem?_eq_getElem c5'];rfl
  have htk:m.extra.take (i+1)=m.extra.take i++[q]:=by rw[List.take_add_one,hq2];rfl
  conv=>whnf
  refine⟨by omega,?_⟩
  conv=>whnf
  rw[Int.toNat_natCast,hq]
  refine oD (qg0 q) rfl rfl ?_
  cases hn:q.check
  ·have e:m.check=false:=by
    have:m.extra.all RR.check=false:=by
     rw[List.all_eq_false]
     exact⟨q,List.mem_of_getElem? hq2,by simp[hn]⟩
    simp only[Msg.check,this,Bool.and_false,Bool.false_and]
   rw[e]
   conv=>whnf
   refine brT rfl ?_
   conv=>whnf
   exact rfl
  ·conv=>whnf
   refine brF rfl ?_
   conv=>whnf
   refine⟨i+1,[0,1,2,3,4,5],⟨c5',by rw[htk,List.all_append,hall];simp[hn]⟩,by omega,?_⟩
   conv=>whnf
   rw[hw1 i _ c5' c4']
   repeat'(first|exact ⟨⟩|exact rfl|exact fun _=>Iff.rfl|exact fun _ _=>rfl|apply And.intro)
 have hextra:m.extra.all RR.check=true:=by
  have:¬ i<m.extra.length:=(by have h:¬ (i:Int)<m.extra.length:=of_decide_eq_false c5;omega)
  rwa [List.take_of_length_le (by omega)] at hall
 clear hall hi c5
 conv=>whnf
 have e:m.check=true:=by simp only[Msg.check,hasks,hsays,hheads,hextra,c1',c2',c3',c4',decide_true,Bool.and_self]
 rw[e]
 exact rfl
def lm(limit:Int):Int:=if 65535<limit then 65535 else limit
def Wr.head(w:Wr)(m:Msg):Wr:=(((((w.num 2 m.id).num 2 m.bits).num 2 m.asks.length).num 2 m.says.length).num 2 m.heads.length).num 2 m.extra.length
def Wr.asks(w:Wr)(l:List Q):Wr:=l.foldl (fun w q=>((w.name q.nm true).num 2 q.ty).num 2 q.cl) w
def Wr.recs(w:Wr)(l:List RR):Wr:=l.foldl (fun w r=>(w.record r).1) w
def Msg.last(m:Msg)(limit:Int):Wr:=(((((Wr.mk [] (lm limit) false []).head m).asks m.asks).recs m.says).recs m.heads).recs m.extra
def Msg.write(m:Msg)(limit:Int):List UInt8 × Int:=if m.check then (if (m.last limit).full then ([],7) else ((m.last limit).buf,0)) else ([],2)
structure Q.Ok(q:Q):Prop where
 ty:0<=q.ty/\q.ty<=65535
 cl:0<=q.cl/\q.cl<=65535
structure Msg.Ok(m:Msg):Prop where
 id:0<=m.id/\m.id<=65535
 bits:0<=m.bits/\m.bits<=65535
 asks:∀ q ∈ m.asks,q.Ok
 says:∀ r ∈ m.says,r.Ok
 heads:∀ r ∈ m.heads,r.Ok
 extra:∀ r ∈ m.extra,r.Ok
 len:m.asks.length<4611686018427387904
structure MwSt where
 w:Wr
 i:Nat
theorem mwrite_ok(m:Msg)(hm:m.Ok)(limit:Int)(hlim : -9223372036854775808<=limit/\limit<=9223372036854775807):FnOk Tryz.prog 38 [.agg m.cells,.d (.int .i64 limit)] (.tup [.d (.str (m.write limit).1),.d (.int .i64 (m.write limit).2)]):=by
 refine qn (TT:=TT) (IN:=qd [(68,Tryz.f68,1),(133,Tryz.f133,2)]) qf (qv (qv qe Tryz.func133 (by kernel_rfl) (by kernel_rfl)) Tryz.func68 (by kernel_rfl) (by kernel_rfl)) mixed 1000 Tryz.func38 rfl (qc Tryz.func38 (by kernel_rfl) rfl) rfl 91 (by kernel_rfl) ?_
 conv=>whnf
 refine oD (mcheck_ok m hm.len) rfl rfl ?_
 cases hc:m.check
 ·have e:m.write limit=([],2):=by unfold Msg.write;rw[hc];rfl
  rw[e]
  conv=>whnf
  refine brT rfl ?_
  conv=>whnf
  exact⟨rfl,rfl,True.intro⟩
 have hcs:=hc
 simp only [Msg.check,Bool.and_eq_true,decide_eq_true_eq] at hcs
 obtain⟨⟨⟨⟨⟨⟨⟨l1,l2⟩,l3⟩,l4⟩,k1⟩,k2⟩,k3⟩,k4⟩:=hcs
 have hid:=hm.id
 have hbits:=hm.bits
 have hw1:∀ (i n:Nat),i<n->n<=4096->IntKind.i64.wrap ((i:Int)+1)=((i+1:Nat):Int):=fun i n h1 h2=>by rw[qg _ (by omega)];omega
 have hu:∀ x:Int,0<=x/\x<18446744073709551616->IntKind.u64.wrap x=x:=fun x hx=>by rw[IntKind.wrap_u64];omega
 conv=>whnf
 refine brF rfl ?_
 conv=>whnf
 refine .rel _ (ql5 (fun _=>rfl) (wnew_ok (lm limit)) [_,_,_] (fun _=>rfl)) (fun r ks' hR=>?_)
 obtain⟨rfl,rfl⟩:=hR
 have hok:(Wr.mk [] (lm limit) false []).Ok:=⟨by show _<=lm limit;unfold lm;split <;> omega,by show lm limit<=_;unfold lm;split <;> omega,.inl rfl,fun e he=>by cases he⟩
 have hwr:m.write limit=if (m.last limit).full then ([],7) else ((m.last limit).buf,0):=by unfold Msg.write;rw[hc];rfl
 have hlast:m.last limit=((((((Wr.mk [] (lm limit) false []).head m).asks m.asks).recs m.says).recs m.heads).recs m.extra):=rfl
 generalize Wr.mk [] (lm limit) false []=w at hok hlast ⊢
 have e0:IntKind.u64.wrap (xh [IntKind.i64.wrap m.id,IntKind.i64.wrap m.bits,(m.asks.length:Int),(m.says.length:Int),(m.heads.length:Int),(m.extra.length:Int)] 0)=m.id:=by
  show IntKind.u64.wrap (IntKind.i64.wrap m.id)=_
  rw[qg _ (by omega),hu _ (by omega)]
 have e1:IntKind.u64.wrap (xh [IntKind.i64.wrap m.id,IntKind.i64.wrap m.bits,(m.asks.length:Int),(m.says.length:Int),(m.heads.length:Int),(m.extra.length:Int)] (IntKind.i64.wrap (0+1)))=m.bits:=by
  show IntKind.u64.wrap (IntKind.i64.wrap m.bits)=_
  rw[qg _ (by omega),hu _ (by omega)]
 have e2:IntKind.u64.wrap (xh [IntKind.i64.wrap m.id,IntKind.i64.wrap m.bits,(m.asks.length:Int),(m.says.length:Int),(m.heads.length:Int),(m.extra.length:Int)] (IntKind.i64.wrap ((IntKind.i64.wrap (0+1))+1)))=(m.asks.length:Int):=by
  show IntKind.u64.wrap (m.asks.length:Int)=_
  exact hu _ (by omega)
 have e3:IntKind.u64.wrap (xh [IntKind.i64.wrap m.id,IntKind.i64.wrap m.bits,(m.asks.length:Int),(m.says.length:Int),(m.heads.length:Int),(m.extra.length:Int)] (IntKind.i64.wrap ((IntKind.i64.wrap ((IntKind.i64.wrap (0+1))+1))+1)))=(m.says.length:Int):=by
  show IntKind.u64.wrap (m.says.length:Int)=_
  exact hu _ (by omega)
 have e4:IntKind.u64.wrap (xh [IntKind.i64.wrap m.id,IntKind.i64.wrap m.bits,(m.asks.length:Int),(m.says.length:Int),(m.heads.length:Int),(m.extra.length:Int)] (IntKind.i64.wrap ((IntKind.i64.wrap ((IntKind.i64.wrap ((IntKind.i64.wrap (0+1))+1))+1))+1)))=(m.heads.length:Int):=by
  show IntKind.u64.wrap (m.heads.length:Int)=_
  exact hu _ (by omega)
 have e5:IntKind.u64.wrap (xh [IntKind.i64.wrap m.id,IntKind.i64.wrap m.bits,(m.asks.length:Int),(m.says.length:Int),(m.heads.length:Int),(m.extra.length:Int)] (IntKind.i64.wrap ((IntKind.i64.wrap ((IntKind.i64.wrap ((IntKind.i64.wrap ((IntKind.i64.wrap (0+1))+1))+1))+1))+1)))=(m.extra.length:Int):=by
  show IntKind.u64.wrap (m.extra.length:Int)=_
  exact hu _ (by omega)
 conv=>whnf
 refine .once ?_
 conv=>whnf
 refine brT rfl ?_
 conv=>whnf
 refine⟨by decide,?_⟩
 conv=>whnf
 rw[e0]
 refine .rel _ (COk.thing Wr.fl (z7 (w) hok 2 (.inr (.inl rfl)) m.id) [_,_,_] [_,_] _ rfl rfl) (fun x ks' hR=>?_)
 obtain⟨_,wq,⟨rfl,rfl⟩,rfl,rfl⟩:=hR
 have hok:=hok.num 2 m.id
 conv=>whnf
 refine .once ?_
 conv=>whnf
 refine brT rfl ?_
 conv=>whnf
 refine⟨by decide,?_⟩
 conv=>whnf
 rw[e1]
 refine .rel _ (COk.thing Wr.fl (z7 ((w).num 2 m.id) hok 2 (.inr (.inl rfl)) m.bits) [_,_,_] [_,_] _ rfl rfl) (fun x ks' hR=>?_)
 obtain⟨_,wq,⟨rfl,rfl⟩,rfl,rfl⟩:=hR
 have hok:=hok.num 2 m.bits
 conv=>whnf
 refine .once ?_
 conv=>whnf
 refine brT rfl ?_
 conv=>whnf
 refine⟨by decide,?_⟩
 conv=>whnf
 rw[e2]
 refine .rel _ (COk.thing Wr.fl (z7 (((w).num 2 m.id).num 2 m.bits) hok 2 (.inr (.inl rfl)) (m.asks.length:Int)) [_,_,_] [_,_] _ rfl rfl) (fun x ks' hR=>?_)
 obtain⟨_,wq,⟨rfl,rfl⟩,rfl,rfl⟩:=hR
 have hok:=hok.num 2 (m.asks.length:Int)
 conv=>whnf
 refine .once ?_
 conv=>whnf
 refine brT rfl ?_
 conv=>whnf
 refine⟨by decide,?_⟩
 conv=>whnf
 rw[e3]
 refine .rel _ (COk.thing Wr.fl (z7 ((((w).num 2 m.id).num 2 m.bits).num 2 (m.asks.length:Int)) hok 2 (.inr (.inl rfl)) (m.says.length:Int)) [_,_,_] [_,_] _ rfl rfl) (fun x ks' hR=>?_)
 obtain⟨_,wq,⟨rfl,rfl⟩,rfl,rfl⟩:=hR
 have hok:=hok.num 2 (m.says.length:Int)
 conv=>whnf
 refine .once ?_
 conv=>whnf
 refine brT rfl ?_
 conv=>whnf
 refine⟨by decide,?_⟩
 conv=>whnf
 rw[e4]
 refine .rel _ (COk.thing Wr.fl (z7 (((((w).num 2 m.id).num 2 m.bits).num 2 (m.asks.length:Int)).num 2 (m.says.length:Int)) hok 2 (.inr (.inl rfl)) (m.heads.length:Int)) [_,_,_] [_,_] _ rfl rfl) (fun x ks' hR=>?_)
 obtain⟨_,wq,⟨rfl,rfl⟩,rfl,rfl⟩:=hR
 have hok:=hok.num 2 (m.heads.length:Int)
 conv=>whnf
 refine .once ?_
 conv=>whnf
 refine brT rfl ?_
 conv=>whnf
 refine⟨by decide,?_⟩
 conv=>whnf
 rw[e5]
 refine .rel _ (COk.thing Wr.fl (z7 ((((((w).num 2 m.id).num 2 m.bits).num 2 (m.asks.length:Int)).num 2 (m.says.length:Int)).num 2 (m.heads.length:Int)) hok 2 (.inr (.inl rfl)) (m.extra.length:Int)) [_,_,_] [_,_] _ rfl rfl) (fun x ks' hR=>?_)
 obtain⟨_,wq,⟨rfl,rfl⟩,rfl,rfl⟩:=hR
 have hok:=hok.num 2 (m.extra.length:Int)
 conv=>whnf
 refine .once ?_
 conv=>whnf
 refine brF rfl ?_
 have hhead:w.head m=((((((w).num 2 m.id).num 2 m.bits).num 2 (m.asks.length:Int)).num 2 (m.says.length:Int)).num 2 (m.heads.length:Int)).num 2 (m.extra.length:Int):=rfl
 rw [hhead] at hlast
 generalize ((((((w).num 2 m.id).num 2 m.bits).num 2 (m.asks.length:Int)).num 2 (m.says.length:Int)).num 2 (m.heads.length:Int)).num 2 (m.extra.length:Int)=w1 at hok hlast ⊢
 conv=>whnf
 clear e0 e1 e2 e3 e4 e5 hhead
 refine .inv MwSt (fun s=>s.w.Ok/\s.i<=m.asks.length/\s.w.asks (m.asks.drop s.i)=w1.asks m.asks) (fun s=>[(53,.d (.int .i64 s.i))]) (fun s=>[(3,pk s.w.fl)]) (fun s=>m.asks.length - s.i) ⟨⟨w1,0⟩,[0,1,2,3,4,5],⟨hok,Nat.zero_le _,rfl⟩,?_⟩ ?_
 ·conv=>whnf
  repeat'(first|exact ⟨⟩|exact rfl|exact(fun _ _ _ _ h=>⟨jn _,h⟩)|exact fun _=>Iff.rfl|exact fun _ _=>rfl|apply And.intro)
 clear hok
 intro s hs
 obtain⟨hok,hi,hrest⟩:=hs
 conv=>whnf
 generalize s.w=wc at hok hrest ⊢
 generalize s.i=i at hi hrest ⊢
 refine⟨fun c5=>?_,fun c5=>?_⟩
 ·have c5':i<m.asks.length:=(by have h:(i:Int)<m.asks.length:=of_decide_eq_true c5;omega)
  obtain⟨q,hq⟩:∃ q,m.asks.getD i default=q:=⟨_,rfl⟩
  have hq2:m.asks[i]? = some q:=by rw[<-hq,List.getD,List.getElem?_eq_getElem c5'];rfl
  have hqo:q.Ok:=hm.asks q (List.mem_of_getElem? hq2)
  have hqt:=hqo.ty
  have hqc:=hqo.cl
  have hdr:m.asks.drop i=q :: m.asks.drop (i+1):=by
   rw[List.drop_eq_getElem_cons c5']
   congr 1
   rw [List.getElem?_eq_getElem c5'] at hq2
   exact Option.some.inj hq2
  conv=>whnf
  refine⟨by omega,?_⟩
  conv=>whnf
  rw[Int.toNat_natCast,hq]
  refine .rel _ (COk.thing Wr.fl (qx0 wc hok q.nm) [_,_,_] [_,_,_] _ rfl rfl) (fun x ks' hR=>?_)
  obtain⟨_,wq,⟨rfl,rfl⟩,rfl,rfl⟩:=hR
  have hoa:=hok.name q.nm true
  conv=>whnf
  rw[hu q.ty (by omega)]
  refine .rel _ (COk.thing Wr.fl (z7 _ hoa 2 (.inr (.inl rfl)) q.ty) [_,_,_] [_,_,_] _ rfl rfl) (fun x ks' hR=>?_)
  obtain⟨_,wq,⟨rfl,rfl⟩,rfl,rfl⟩:=hR
  have hob:=hoa.num 2 q.ty
  conv=>whnf
  rw[hu q.cl (by omega)]
  refine .rel _ (COk.thing Wr.fl (z7 _ hob 2 (.inr (.inl rfl)) q.cl) [_,_,_] [_,_,_] _ rfl rfl) (fun x ks' hR=>?_)
  obtain⟨_,wq,⟨rfl,rfl⟩,rfl,rfl⟩:=hR
  have hoc:=hob.num 2 q.cl
  conv=>whnf
  refine⟨⟨_,i+1⟩,[0,1,2,3,4,5],⟨hoc,c5',?_⟩,by show m.asks.length - (i+1)<m.asks.length - i;omega,?_⟩
  ·rw[<-hrest,hdr]
   rfl
  conv=>whnf
  rw[hw1 i _ c5' l1]
  repeat'(first|exact ⟨⟩|exact rfl|exact(fun _ _ _ _ h=>⟨jn _,h⟩)|exact fun _=>Iff.rfl|exact fun _ _=>rfl|apply And.intro)
 have hia:i=m.asks.length:=(by have h:¬ (i:Int)<m.asks.length:=of_decide_eq_false c5;omega)
 rw [hia,List.drop_of_length_le (Nat.le_refl _)] at hrest
 rw [<-hrest] at hlast
 have hlast:m.last limit=((wc.recs m.says).recs m.heads).recs m.extra:=hlast
 clear hrest hi c5
 conv=>whnf
 refine .inv MwSt (fun s=>s.w.Ok/\s.i<=m.says.length/\s.w.recs (m.says.drop s.i)=wc.recs m.says) (fun s=>[(78,.d (.int .i64 s.i))]) (fun s=>[(3,pk s.w.fl)]) (fun s=>m.says.length - s.i) ⟨⟨wc,0⟩,[0,1,2,3,4,5,6,7],⟨hok,Nat.zero_le _,rfl⟩,?_⟩ ?_
 ·conv=>whnf
  repeat'(first|exact ⟨⟩|exact rfl|exact(fun _ _ _ _ h=>⟨jn _,h⟩)|exact fun _=>Iff.rfl|exact fun _ _=>rfl|apply And.intro)
 clear hok
 intro s hs
 obtain⟨hok,hi,hrest⟩:=hs
 conv=>whnf
 generalize s.w=wd0 at hok hrest ⊢
 generalize s.i=i at hi hrest ⊢
 refine⟨fun c5=>?_,fun c5=>?_⟩
 ·have c5':i<m.says.length:=(by have h:(i:Int)<m.says.length:=of_decide_eq_true c5;omega)
  obtain⟨q,hq⟩:∃ q,m.says.getD i default=q:=⟨_,rfl⟩
  have hq2:m.says[i]? = some q:=by rw[<-hq,List.getD,List.getElem?_eq_getElem c5'];rfl
  have hqo:q.Ok:=hm.says q (List.mem_of_getElem? hq2)
  have hqk:q.check=true:=List.all_eq_true.mp k2 q (List.mem_of_getElem? hq2)
  have hdr:m.says.drop i=q :: m.says.drop (i+1):=by
   rw[List.drop_eq_getElem_cons c5']
   congr 1
   rw [List.getElem?_eq_getElem c5'] at hq2
   exact Option.some.inj hq2
  conv=>whnf
  refine⟨by omega,?_⟩
  conv=>whnf
  rw[Int.toNat_natCast,hq]
  refine .rel _ (COk.thing Wr.fl (wrec_ok wd0 hok q hqo.ty hqo.cl hqo.ttl) [_,_,_] [_,_,_,_,_] _ rfl rfl) (fun x ks' hR=>?_)
  obtain⟨_,wq,⟨rfl,rfl⟩,rfl,rfl⟩:=hR
  have hoa:=hok.record q
  rw[qx9 hqk]
  conv=>whnf
  refine brF rfl ?_
  conv=>whnf
  refine⟨⟨_,i+1⟩,[0,1,2,3,4,5,6,7],⟨hoa,c5',?_⟩,by show m.says.length - (i+1)<m.says.length - i;omega,?_⟩
  ·rw[<-hrest,hdr]
   rfl
  conv=>whnf
  rw[hw1 i _ c5' l2]
  repeat'(first|exact ⟨⟩|exact rfl|exact(fun _ _ _ _ h=>⟨jn _,h⟩)|exact fun _=>Iff.rfl|exact fun _ _=>rfl|apply And.intro)
 have hia:i=m.says.length:=(by have h:¬ (i:Int)<m.says.length:=of_decide_eq_false c5;omega)
 rw [hia,List.drop_of_length_le (Nat.le_refl _)] at hrest
 rw [<-hrest] at hlast
 have hlast:m.last limit=((wd0.recs m.heads).recs m.extra):=hlast
 clear hrest hi c5
 conv=>whnf
 refine .inv MwSt (fun s=>s.w.Ok/\s.i<=m.heads.length/\s.w.recs (m.heads.drop s.i)=wd0.recs m.heads) (fun s=>[(78,.d (.int .i64 s.i))]) (fun s=>[(3,pk s.w.fl)]) (fun s=>m.heads.length - s.i) ⟨⟨wd0,0⟩,[0,1,2,3,4,5,6,7],⟨hok,Nat.zero_le _,rfl⟩,?_⟩ ?_
 ·conv=>whnf
  repeat'(first|exact ⟨⟩|exact rfl|exact(fun _ _ _ _ h=>⟨jn _,h⟩)|exact fun _=>Iff.rfl|exact fun _ _=>rfl|apply And.intro)
 clear hok
 intro s hs
 obtain⟨hok,hi,hrest⟩:=hs
 conv=>whnf
 generalize s.w=wd1 at hok hrest ⊢
 generalize s.i=i at hi hrest ⊢
 refine⟨fun c5=>?_,fun c5=>?_⟩
 ·have c5':i<m.heads.length:=(by have h:(i:Int)<m.heads.length:=of_decide_eq_true c5;omega)
  obtain⟨q,hq⟩:∃ q,m.heads.getD i default=q:=⟨_,rfl⟩
  have hq2:m.heads[i]? = some q:=by rw[<-hq,List.getD,List.getElem?_eq_getElem c5'];rfl
  have hqo:q.Ok:=hm.heads q (List.mem_of_getElem? hq2)
  have hqk:q.check=true:=List.all_eq_true.mp k3 q (List.mem_of_getElem? hq2)
  have hdr:m.heads.drop i=q :: m.heads.drop (i+1):=by
   rw[List.drop_eq_getElem_cons c5']
   congr 1
   rw [List.getElem?_eq_getElem c5'] at hq2
   exact Option.some.inj hq2
  conv=>whnf
  refine⟨by omega,?_⟩
  conv=>whnf
  rw[Int.toNat_natCast,hq]
  refine .rel _ (COk.thing Wr.fl (wrec_ok wd1 hok q hqo.ty hqo.cl hqo.ttl) [_,_,_] [_,_,_,_,_] _ rfl rfl) (fun x ks' hR=>?_)
  obtain⟨_,wq,⟨rfl,rfl⟩,rfl,rfl⟩:=hR
  have hoa:=hok.record q
  rw[qx9 hqk]
  conv=>whnf
  refine brF rfl ?_
  conv=>whnf
  refine⟨⟨_,i+1⟩,[0,1,2,3,4,5,6,7],⟨hoa,c5',?_⟩,by show m.heads.length - (i+1)<m.heads.length - i;omega,?_⟩
  ·rw[<-hrest,hdr]
   rfl
  conv=>whnf
  rw[hw1 i _ c5' l3]
  repeat'(first|exact ⟨⟩|exact rfl|exact(fun _ _ _ _ h=>⟨jn _,h⟩)|exact fun _=>Iff.rfl|exact fun _ _=>rfl|apply And.intro)
 have hia:i=m.heads.length:=(by have h:¬ (i:Int)<m.heads.length:=of_decide_eq_false c5;omega)
 rw [hia,List.drop_of_length_le (Nat.le_refl _)] at hrest
 rw [<-hrest] at hlast
 have hlast:m.last limit=(wd1.recs m.extra):=hlast
 clear hrest hi c5
 conv=>whnf
 refine .inv MwSt (fun s=>s.w.Ok/\s.i<=m.extra.length/\s.w.recs (m.extra.drop s.i)=wd1.recs m.extra) (fun s=>[(78,.d (.int .i64 s.i))]) (fun s=>[(3,pk s.w.fl)]) (fun s=>m.extra.length - s.i) ⟨⟨wd1,0⟩,[0,1,2,3,4,5,6,7],⟨hok,Nat.zero_le _,rfl⟩,?_⟩ ?_
 ·conv=>whnf
  repeat'(first|exact ⟨⟩|exact rfl|exact(fun _ _ _ _ h=>⟨jn _,h⟩)|exact fun _=>Iff.rfl|exact fun _ _=>rfl|apply And.intro)
 clear hok
 intro s hs
 obtain⟨hok,hi,hrest⟩:=hs
 conv=>whnf
 generalize s.w=wd2 at hok hrest ⊢
 generalize s.i=i at hi hrest ⊢
 refine⟨fun c5=>?_,fun c5=>?_⟩
 ·have c5':i<m.extra.length:=(by have h:(i:Int)<m.extra.length:=of_decide_eq_true c5;omega)
  obtain⟨q,hq⟩:∃ q,m.extra.getD i default=q:=⟨_,rfl⟩
  have hq2:m.extra[i]? = some q:=by rw[<-hq,List.getD,List.getElem?_eq_getElem c5'];rfl
  have hqo:q.Ok:=hm.extra q (List.mem_of_getElem? hq2)
  have hqk:q.check=true:=List.all_eq_true.mp k4 q (List.mem_of_getElem? hq2)
  have hdr:m.extra.drop i=q :: m.extra.drop (i+1):=by
   rw[List.drop_eq_getElem_cons c5']
   congr 1
   rw [List.getElem?_eq_getElem c5'] at hq2
   exact Option.some.inj hq2
  conv=>whnf
  refine⟨by omega,?_⟩
  conv=>whnf
  rw[Int.toNat_natCast,hq]
  refine .rel _ (COk.thing Wr.fl (wrec_ok wd2 hok q hqo.ty hqo.cl hqo.ttl) [_,_,_] [_,_,_,_,_] _ rfl rfl) (fun x ks' hR=>?_)
  obtain⟨_,wq,⟨rfl,rfl⟩,rfl,rfl⟩:=hR
  have hoa:=hok.record q
  rw[qx9 hqk]
  conv=>whnf
  refine brF rfl ?_
  conv=>whnf
  refine⟨⟨_,i+1⟩,[0,1,2,3,4,5,6,7],⟨hoa,c5',?_⟩,by show m.extra.length - (i+1)<m.extra.length - i;omega,?_⟩
  ·rw[<-hrest,hdr]
   rfl
  conv=>whnf
  rw[hw1 i _ c5' l4]
  repeat'(first|exact ⟨⟩|exact rfl|exact(fun _ _ _ _ h=>⟨jn _,h⟩)|exact fun _=>Iff.rfl|exact fun _ _=>rfl|apply And.intro)
 have hia:i=m.extra.length:=(by have h:¬ (i:Int)<m.extra.length:=of_decide_eq_false c5;omega)
 rw [hia,List.drop_of_length_le (Nat.le_refl _)] at hrest
 rw [<-hrest] at hlast
 have hlast:m.last limit=wd2:=hlast
 clear hrest hi c5
 conv=>whnf
 refine .rel _ (COk.thing Wr.fl (out_ok wd2) [_,_,_] [_,_,_,_] _ rfl rfl) (fun x ks' hR=>?_)
 obtain⟨_,wq,⟨rfl,hq⟩,rfl,rfl⟩:=hR
 rw[hq]
 clear hq
 rw[hwr,hlast]
 cases wd2.full
 ·conv=>whnf
  exact⟨rfl,rfl,True.intro⟩
 ·conv=>whnf
  exact⟨rfl,rfl,True.intro⟩
def Rdr.qs:Nat->Rdr->List Q->Rdr × List Q × Bool
 |0,r,l=>(r,l,true)
 |n+1,r,l=>if ((r.name.1.num 2).1.num 2).1.bad then (((r.name.1.num 2).1.num 2).1,l,false)
  else Rdr.qs n ((r.name.1.num 2).1.num 2).1 (l++[⟨r.name.2,IntKind.u16.wrap (r.name.1.num 2).2,IntKind.u16.wrap ((r.name.1.num 2).1.num 2).2⟩])
def Rdr.rs:Nat->Rdr->List RR->Rdr × List RR × Int
 |0,r,l=>(r,l,0)
 |n+1,r,l=>if r.recd.2.2≠0 then (r.recd.1,l,r.recd.2.2) else Rdr.rs n r.recd.1 (l++[r.recd.2.1])
def Msg.no:Msg:=⟨0,0,true,[],true,[],true,[],true,[]⟩
def Msg.of(i b:Int)(q:List Q)(x y z:List RR):Msg:=⟨i,b,Nat.beq q.length 0,q,Nat.beq x.length 0,x,Nat.beq y.length 0,y,Nat.beq z.length 0,z⟩
def Rdr.fin(r:Rdr)(m:Msg):Msg × Int:=if r.bad=false/\0<r.s.length - r.p then (Msg.no,6) else (m,0)
def Rdr.sec(r:Rdr)(n:Nat)(k:Rdr->List RR->Msg × Int):Msg × Int:=if (r.rs n []).2.2≠0 then (Msg.no,(r.rs n []).2.2) else k (r.rs n []).1 (r.rs n []).2.1
def Rdr.rest(r:Rdr)(i b c d e f:Nat):Msg × Int :=
 if c > 4096\/d > 4096\/e > 4096\/f > 4096 then (Msg.no,7) else
 if (r.qs c []).2.2=false then (Msg.no,5) else
 (r.qs c []).1.sec d fun r1 x=>r1.sec e fun r2 y=>r2.sec f fun r3 z=>r3.fin (Msg.of (IntKind.u16.wrap i) (IntKind.u16.wrap b) (r.qs c []).2.1 x y z)
def Msg.read(s:List UInt8):Msg × Int :=
 if s.length<12 then (Msg.no,5) else
 let a:=(Rdr.mk s 0 false).num 2
 let b:=a.1.num 2
 let c:=b.1.num 2
 let d:=c.1.num 2
 let e:=d.1.num 2
 let f:=e.1.num 2
 f.1.rest a.2 b.2 c.2 d.2 e.2 f.2
theorem Rdr.num_lt(r:Rdr):(r.num 2).2<65536:=by
 unfold Rdr.num
 split
 ·show(0:Nat)<65536
  omega
 ·rename_i h
  have h1:(r.raw ((2:Nat):Int)).2.length=2:=Rdr.raw_len 2 (by simpa using h)
  show yt (r.raw ((2:Nat):Int)).2<65536
  generalize (r.raw ((2:Nat):Int)).2=x at h1
  match x,h1 with
  |[a,b],_ =>
   have ha:=UInt8.toNat_lt a
   have hb:=UInt8.toNat_lt b
   show(0 * 256+a.toNat) * 256+b.toNat<65536
   omega
theorem q_cat(l:List Q)(q:Q)(j:Nat)(hj:j<l.length+1):catF l.length (fun j=>(l.getD j default).enc) (qz q.enc 3) j=((l++[q]).getD j default).enc:=by
 unfold catF
 split
 ·rename_i h
  show(l.getD j default).enc=_
  rw[List.getD,List.getD,List.getElem?_append_left h]
 ·rename_i h
  have:j=l.length:=by omega
  subst this
  rw[Nat.sub_self,List.getD,List.getElem?_append_right (Nat.le_refl _),Nat.sub_self]
  rfl
structure MrQ where
 r:Rdr
 l:List Q
 i:Nat
structure MrR where
 r:Rdr
 l:List RR
 i:Nat
set_option maxRecDepth 100000 in
theorem mread_ok(s:List UInt8)(hs:s.length<=9223372036854775807):FnOk Tryz.prog 25 [.d (.str s)] (.tup [.agg (Msg.read s).1.cells,.d (.int .i64 (Msg.read s).2)]):=by
 refine qn (TT:=TT) (IN:=qd [(68,Tryz.f68,1),(133,Tryz.f133,2),(67,Tryz.f67,1),(70,Tryz.f70,1)]) qf (qv (qv (qv (qv qe Tryz.func70 (by kernel_rfl) (by kernel_rfl)) Tryz.func67 (by kernel_rfl) (by kernel_rfl)) Tryz.func133 (by kernel_rfl) (by kernel_rfl)) Tryz.func68 (by kernel_rfl) (by kernel_rfl)) mixed 1000 Tryz.func25 rfl (qc Tryz.func25 (by kernel_rfl) rfl) rfl 105 (by kernel_rfl) ?_
 conv=>whnf
 refine⟨fun h1=>?_,fun h1=>?_⟩
 ·have h:s.length<12:=by
   have h:(s.length:Int)<12:=of_decide_eq_true h1
   omega
  have e:Msg.read s=(Msg.no,5):=by unfold Msg.read;rw[if_pos h]
  rw[e]
  conv=>whnf
  repeat'(first|exact ⟨⟩|exact rfl|exact .inr rfl|exact .inl rfl|exact fun _ _=>rfl|exact noI|apply And.intro)
 have h:¬ s.length<12:=by
  have h:¬ (s.length:Int)<12:=of_decide_eq_false h1
  omega
 have hsp:Msg.read s=Msg.read s:=rfl
 conv at hsp=>rhs;unfold Msg.read;rw [if_neg h]
 dsimp only at hsp
 have hr:(Rdr.mk s 0 false).Ok:=⟨hs,Nat.zero_le _⟩
 conv=>whnf
 refine .rel _ (ql5 (fun _=>rfl) (open_ok s) [_,_] (fun _=>rfl)) (fun x ks' hR=>?_)
 obtain⟨rfl,rfl⟩:=hR
 conv=>whnf
 refine .once ?_
 conv=>whnf
 refine brT rfl ?_
 conv=>whnf
 have hsa:=Rdr.num_s (Rdr.mk s 0 false) 2
 have hla:=Rdr.num_lt (Rdr.mk s 0 false)
 refine .rel _ (jk (zn _ hr 2 (.inr (.inl rfl))) [_,_] [_,_] _ rfl rfl) (fun x ks' hR=>?_)
 obtain⟨_,q,⟨rfl,rfl⟩,rfl,rfl⟩:=hR
 have hra:=hr.num 2
 generalize Rdr.num (Rdr.mk s 0 false) 2=a at hsa hla hra hsp ⊢
 have hwa:IntKind.i64.wrap (a.2:Int)=(a.2:Int):=qg _ (by omega)
 conv=>whnf
 refine⟨by decide,?_⟩
 rw[hwa]
 conv=>whnf
 refine .once ?_
 conv=>whnf
 refine brT rfl ?_
 conv=>whnf
 have hsb:=Rdr.num_s a.1 2
 have hlb:=Rdr.num_lt a.1
 refine .rel _ (jk (zn _ hra 2 (.inr (.inl rfl))) [_,_] [_,_] _ rfl rfl) (fun x ks' hR=>?_)
 obtain⟨_,q,⟨rfl,rfl⟩,rfl,rfl⟩:=hR
 have hrb:=hra.num 2
 generalize Rdr.num a.1 2=b at hsb hlb hrb hsp ⊢
 have hwb:IntKind.i64.wrap (b.2:Int)=(b.2:Int):=qg _ (by omega)
 conv=>whnf
 refine⟨by decide,?_⟩
 rw[hwb]
 conv=>whnf
 refine .once ?_
 conv=>whnf
 refine brT rfl ?_
 conv=>whnf
 have hsc:=Rdr.num_s b.1 2
 have hlc:=Rdr.num_lt b.1
 refine .rel _ (jk (zn _ hrb 2 (.inr (.inl rfl))) [_,_] [_,_] _ rfl rfl) (fun x ks' hR=>?_)
 obtain⟨_,q,⟨rfl,rfl⟩,rfl,rfl⟩:=hR
 have hrc:=hrb.num 2
 generalize Rdr.num b.1 2=c at hsc hlc hrc hsp ⊢
 have hwc:IntKind.i64.wrap (c.2:Int)=(c.2:Int):=qg _ (by omega)
 conv=>whnf
 refine⟨by decide,?_⟩
 rw[hwc]
 conv=>whnf
 refine .once ?_
 conv=>whnf
 refine brT rfl ?_
 conv=>whnf
 have hsd:=Rdr.num_s c.1 2
 have hld:=Rdr.num_lt c.1
 refine .rel _ (jk (zn _ hrc 2 (.inr (.inl rfl))) [_,_] [_,_] _ rfl rfl) (fun x ks' hR=>?_)
 obtain⟨_,q,⟨rfl,rfl⟩,rfl,rfl⟩:=hR
 have hrd:=hrc.num 2
 generalize Rdr.num c.1 2=d at hsd hld hrd hsp ⊢
 have hwd:IntKind.i64.wrap (d.2:Int)=(d.2:Int):=qg _ (by omega)
 conv=>whnf
 refine⟨by decide,?_⟩
 rw[hwd]
 conv=>whnf
 refine .once ?_
 conv=>whnf
 refine brT rfl ?_
 conv=>whnf
 have hse:=Rdr.num_s d.1 2
 have hle:=Rdr.num_lt d.1
 refine .rel _ (jk (zn _ hrd 2 (.inr (.inl rfl))) [_,_] [_,_] _ rfl rfl) (fun x ks' hR=>?_)
 obtain⟨_,q,⟨rfl,rfl⟩,rfl,rfl⟩:=hR
 have hre:=hrd.num 2
 generalize Rdr.num d.1 2=e at hse hle hre hsp ⊢
 have hwe:IntKind.i64.wrap (e.2:Int)=(e.2:Int):=qg _ (by omega)
 conv=>whnf
 refine⟨by decide,?_⟩
 rw[hwe]
 conv=>whnf
 refine .once ?_
 conv=>whnf
 refine brT rfl ?_
 conv=>whnf
 have hsf:=Rdr.num_s e.1 2
 have hlf:=Rdr.num_lt e.1
 refine .rel _ (jk (zn _ hre 2 (.inr (.inl rfl))) [_,_] [_,_] _ rfl rfl) (fun x ks' hR=>?_)
 obtain⟨_,q,⟨rfl,rfl⟩,rfl,rfl⟩:=hR
 have hrf:=hre.num 2
 generalize Rdr.num e.1 2=f at hsf hlf hrf hsp ⊢
 have hwf:IntKind.i64.wrap (f.2:Int)=(f.2:Int):=qg _ (by omega)
 conv=>whnf
 refine⟨by decide,?_⟩
 rw[hwf]
 conv=>whnf
 refine .once ?_
 conv=>whnf
 refine brF rfl ?_
 conv=>whnf
 refine⟨by decide,?_⟩
 conv=>whnf
 refine .once ?_
 conv=>whnf
 refine brT rfl ?_
 conv=>whnf
 refine⟨by decide,?_⟩
 conv=>whnf
 refine⟨fun h2=>?_,fun h2=>?_⟩
 ·have h2:((c.2:Nat):Int) > 4096:=of_decide_eq_true h2
  have hx:Msg.read s=(Msg.no,7):=by rw[hsp];unfold Rdr.rest;rw[if_pos (by omega)]
  rw[hx]
  conv=>whnf
  repeat'(first|exact ⟨⟩|exact rfl|exact .inr rfl|exact .inl rfl|exact fun _ _=>rfl|exact noI|apply And.intro)
 have hmc:¬ ((c.2:Nat):Int) > 4096:=of_decide_eq_false h2
 clear h2
 conv=>whnf
 refine .once ?_
 conv=>whnf
 refine brT rfl ?_
 conv=>whnf
 refine⟨by decide,?_⟩
 conv=>whnf
 refine⟨fun h2=>?_,fun h2=>?_⟩
 ·have h2:((d.2:Nat):Int) > 4096:=of_decide_eq_true h2
  have hx:Msg.read s=(Msg.no,7):=by rw[hsp];unfold Rdr.rest;rw[if_pos (by omega)]
  rw[hx]
  conv=>whnf
  repeat'(first|exact ⟨⟩|exact rfl|exact .inr rfl|exact .inl rfl|exact fun _ _=>rfl|exact noI|apply And.intro)
 have hmd:¬ ((d.2:Nat):Int) > 4096:=of_decide_eq_false h2
 clear h2
 conv=>whnf
 refine .once ?_
 conv=>whnf
 refine brT rfl ?_
 conv=>whnf
 refine⟨by decide,?_⟩
 conv=>whnf
 refine⟨fun h2=>?_,fun h2=>?_⟩
 ·have h2:((e.2:Nat):Int) > 4096:=of_decide_eq_true h2
  have hx:Msg.read s=(Msg.no,7):=by rw[hsp];unfold Rdr.rest;rw[if_pos (by omega)]
  rw[hx]
  conv=>whnf
  repeat'(first|exact ⟨⟩|exact rfl|exact .inr rfl|exact .inl rfl|exact fun _ _=>rfl|exact noI|apply And.intro)
 have hme:¬ ((e.2:Nat):Int) > 4096:=of_decide_eq_false h2
 clear h2
 conv=>whnf
 refine .once ?_
 conv=>whnf
 refine brT rfl ?_
 conv=>whnf
 refine⟨by decide,?_⟩
 conv=>whnf
 refine⟨fun h2=>?_,fun h2=>?_⟩
 ·have h2:((f.2:Nat):Int) > 4096:=of_decide_eq_true h2
  have hx:Msg.read s=(Msg.no,7):=by rw[hsp];unfold Rdr.rest;rw[if_pos (by omega)]
  rw[hx]
  conv=>whnf
  repeat'(first|exact ⟨⟩|exact rfl|exact .inr rfl|exact .inl rfl|exact fun _ _=>rfl|exact noI|apply And.intro)
 have hmf:¬ ((f.2:Nat):Int) > 4096:=of_decide_eq_false h2
 clear h2
 conv=>whnf
 refine .once ?_
 conv=>whnf
 refine brF rfl ?_
 conv=>whnf
 refine⟨by decide,?_⟩
 conv=>whnf
 refine⟨by decide,?_⟩
 conv=>whnf
 refine⟨by decide,?_⟩
 conv=>whnf
 refine .nilC 5 2 27 3 (fun _=>[]) _ _ _ _ rfl rfl ?_
 refine .nilC 5 3 179 5 (fun _=>[]) _ _ _ _ rfl rfl ?_
 refine .nilC 5 4 179 5 (fun _=>[]) _ _ _ _ rfl rfl ?_
 refine .nilC 5 5 179 5 (fun _=>[]) _ _ _ _ rfl rfl ?_
 have hfs:f.1.s.length<=9223372036854775807:=by rw[hsf,hse,hsd,hsc,hsb,hsa];exact hs
 refine .inv MrQ (fun x=>x.r.Ok/\x.r.s.length<=9223372036854775807/\x.i<=c.2/\x.l.length=x.i/\Rdr.qs (c.2 - x.i) x.r x.l=Rdr.qs c.2 f.1 []) (fun x=>[(50,.d (.int .i64 c.2)),(51,.d (.int .i64 x.i))])
  (fun x=>[(2,x.r.kb),(4,.cells 170 [.d (.int .i64 a.2),.d (.int .i64 b.2),.d (.int .i64 c.2),.d (.int .i64 d.2),.d (.int .i64 e.2),.d (.int .i64 f.2)]),(5,.cells 83 [.d (.int .u16 (IntKind.u16.wrap a.2)),.d (.int .u16 (IntKind.u16.wrap b.2)),.all 6,.all 7,.all 8,.all 9]),(6,.row 27 3 x.l.length .iff (fun j=>(x.l.getD j default).enc))])
  (fun x=>c.2 - x.i) ⟨⟨f.1,[],0⟩,[0,1,2,3,4,5,6,7,8,9],⟨hrf,hfs,Nat.zero_le _,rfl,rfl⟩,?_⟩ ?_
 ·conv=>whnf
  repeat'(first|exact ⟨⟩|exact rfl|(intro i hi;exact absurd hi (Nat.not_lt_zero _))|apply And.intro)
 intro x hx
 obtain⟨kr,ks,ki,kl,hrest⟩:=hx
 conv=>whnf
 generalize x.r=rc at kr ks hrest ⊢
 generalize x.l=lc at kl hrest ⊢
 generalize x.i=i at ki kl hrest ⊢
 refine⟨fun c5=>?_,fun c5=>?_⟩
 ·have c5':i<c.2:=(by have h:(i:Int)<c.2:=of_decide_eq_true c5;omega)
  have hsub:c.2 - i=(c.2 - (i+1))+1:=by omega
  rw [hsub] at hrest
  conv at hrest=>lhs;unfold Rdr.qs
  conv=>whnf
  refine .rel _ (jk (qx6 rc kr) [_,_] [_,_,_,_,_,_,_] _ rfl rfl) (fun x ks' hR=>?_)
  obtain⟨_,q,⟨rfl,rfl⟩,rfl,rfl⟩:=hR
  have ka:=kr.name
  have ksa:=rc.name_s
  generalize rc.name=n1 at ka ksa hrest ⊢
  conv=>whnf
  refine .rel _ (jk (zn _ ka 2 (.inr (.inl rfl))) [_,_] [_,_,_,_,_,_,_] _ rfl rfl) (fun x ks' hR=>?_)
  obtain⟨_,q,⟨rfl,rfl⟩,rfl,rfl⟩:=hR
  have kb:=ka.num 2
  have ksb:=n1.1.num_s 2
  generalize n1.1.num 2=n2 at kb ksb hrest ⊢
  conv=>whnf
  refine .rel _ (jk (zn _ kb 2 (.inr (.inl rfl))) [_,_] [_,_,_,_,_,_,_] _ rfl rfl) (fun x ks' hR=>?_)
  obtain⟨_,q,⟨rfl,rfl⟩,rfl,rfl⟩:=hR
  have kc:=kb.num 2
  have ksc:=n2.1.num_s 2
  generalize n2.1.num 2=n3 at kc ksc hrest ⊢
  have ks3:n3.1.s.length<=9223372036854775807:=by rw[ksc,ksb,ksa];exact ks
  clear ksa ksb ksc ka kb
  conv=>whnf
  refine⟨fun h2=>?_,fun h2=>?_⟩
  ·have h2:n3.1.bad=true:=h2
   rw [if_pos h2] at hrest
   have hx:Msg.read s=(Msg.no,5):=by rw[hsp];unfold Rdr.rest;rw[if_neg (by omega),if_pos (by rw[<-hrest])]
   rw[hx]
   conv=>whnf
   repeat'(first|exact ⟨⟩|exact rfl|exact .inr rfl|exact .inl rfl|exact fun _ _=>rfl|exact noI|apply And.intro)
  have h2:n3.1.bad=false:=h2
  rw [if_neg (by rw [h2];simp)] at hrest
  conv=>whnf
  refine⟨by omega,?_⟩
  conv=>whnf
  refine⟨⟨n3.1,lc++[⟨n1.2,IntKind.u16.wrap n2.2,IntKind.u16.wrap n3.2⟩],i+1⟩,[0,1,2,3,4,5,11,7,8,9],⟨kc,ks3,c5',by rw[List.length_append,kl];rfl,hrest⟩,by show c.2 - (i+1)<c.2 - i;omega,?_⟩
  have hw1:=w64s i (by omega)
  conv=>whnf
  rw[hw1]
  repeat'(first|exact ⟨⟩|exact rfl|apply And.intro)
  all_goals try exact fun _ _=>rfl
  ·show lc.length+1=(lc++[_]).length
   rw[List.length_append]
   rfl
  ·intro j hj
   exact q_cat lc ⟨n1.2,IntKind.u16.wrap n2.2,IntKind.u16.wrap n3.2⟩ j hj
 have hic:i=c.2:=(by have h:¬ (i:Int)<c.2:=of_decide_eq_false c5;omega)
 rw [hic,Nat.sub_self] at hrest
 have hrest:Rdr.qs c.2 f.1 []=(rc,lc,true):=hrest.symm
 have hsp2:Msg.read s=rc.sec d.2 fun r1 x=>r1.sec e.2 fun r2 y=>r2.sec f.2 fun r3 z=>r3.fin (Msg.of (IntKind.u16.wrap a.2) (IntKind.u16.wrap b.2) lc x y z):=by
  rw[hsp];unfold Rdr.rest;rw[if_neg (by omega),hrest,if_neg (by simp)]
 conv=>whnf
 refine⟨by decide,?_⟩
 conv=>whnf
 refine .moveC 7 5 3 _ _ _ _ _ _ _ rfl rfl rfl ?_
 refine .inv MrR (fun x=>x.r.Ok/\x.r.s.length<=9223372036854775807/\x.i<=d.2/\x.l.length=x.i/\Rdr.rs (d.2 - x.i) x.r x.l=Rdr.rs d.2 rc []) (fun x=>[(79,.d (.int .i64 x.i))]) (fun x=>[(2,x.r.kb),(13,.row 179 5 x.l.length .iff (fun j=>(x.l.getD j default).enc))]) (fun x=>d.2 - x.i) ⟨⟨rc,[],0⟩,[0,1,2,3,4,5,6,7,8,9,10,11,12,13],⟨kr,ks,Nat.zero_le _,rfl,rfl⟩,?_⟩ ?_
 ·conv=>whnf
  repeat'(first|exact ⟨⟩|exact rfl|(intro i hi;exact absurd hi (Nat.not_lt_zero _))|exact fun _ _=>rfl|apply And.intro)
 clear kr ks
 intro x hx
 obtain⟨kr,ks,ki,kl,hrest⟩:=hx
 conv=>whnf
 generalize x.r=ra at kr ks hrest ⊢
 generalize x.l=la at kl hrest ⊢
 generalize x.i=i at ki kl hrest ⊢
 refine⟨fun c5=>?_,fun c5=>?_⟩
 ·have c5':i<d.2:=(by have h:(i:Int)<d.2:=of_decide_eq_true c5;omega)
  have hsub:d.2 - i=(d.2 - (i+1))+1:=by omega
  rw [hsub] at hrest
  conv at hrest=>lhs;unfold Rdr.rs
  conv=>whnf
  refine .rel _ (jk (rrec_ok ra kr) [_,_] [_,_,_,_,_,_,_,_,_,_,_] _ rfl rfl) (fun x ks' hR=>?_)
  obtain⟨_,q,⟨rfl,rfl⟩,rfl,rfl⟩:=hR
  have ka:=kr.recd
  have ksa:ra.recd.1.s.length<=9223372036854775807:=by rw[Rdr.recd_s];exact ks
  generalize ra.recd=g at ka ksa hrest ⊢
  conv=>whnf
  refine⟨fun h2=>?_,fun h2=>?_⟩
  ·have h2:g.2.2≠0:=by simpa using h2
   rw [if_pos h2] at hrest
   have hx:Msg.read s=(Msg.no,g.2.2):=by rw[hsp2];unfold Rdr.sec;rw[if_pos (by rw[<-hrest];exact h2),<-hrest]
   rw[hx]
   conv=>whnf
   repeat'(first|exact ⟨⟩|exact rfl|exact .inr rfl|exact .inl rfl|exact fun _ _=>rfl|exact noI|apply And.intro)
  have h2:¬ g.2.2≠0:=by simpa using h2
  rw [if_neg h2] at hrest
  conv=>whnf
  refine⟨by omega,?_⟩
  conv=>whnf
  refine⟨⟨g.1,la++[g.2.1],i+1⟩,[0,1,2,3,4,5,6,7,8,9,10,11,12,16],⟨ka,ksa,c5',by rw[List.length_append,kl];rfl,hrest⟩,by show d.2 - (i+1)<d.2 - i;omega,?_⟩
  have hw1:=w64s i (by omega)
  conv=>whnf
  rw[hw1]
  repeat'(first|exact ⟨⟩|exact rfl|apply And.intro)
  all_goals try exact fun _ _=>rfl
  ·show la.length+1=(la++[_]).length
   rw[List.length_append]
   rfl
  ·intro j hj
   exact qj0 la g.2.1 j hj
 have hic:i=d.2:=(by have h:¬ (i:Int)<d.2:=of_decide_eq_false c5;omega)
 rw [hic,Nat.sub_self] at hrest
 have hrest:Rdr.rs d.2 rc []=(ra,la,0):=hrest.symm
 have hsp2:Msg.read s=ra.sec e.2 fun r2 y=>r2.sec f.2 fun r3 z=>r3.fin (Msg.of (IntKind.u16.wrap a.2) (IntKind.u16.wrap b.2) lc la y z):=by
  rw[hsp2];unfold Rdr.sec;rw[hrest,if_neg (by simp)]
 clear hrest kl ki c5 hic
 conv=>whnf
 refine⟨by decide,?_⟩
 conv=>whnf
 refine .moveC 8 5 4 _ _ _ _ _ _ _ rfl rfl rfl ?_
 refine .inv MrR (fun x=>x.r.Ok/\x.r.s.length<=9223372036854775807/\x.i<=e.2/\x.l.length=x.i/\Rdr.rs (e.2 - x.i) x.r x.l=Rdr.rs e.2 ra []) (fun x=>[(79,.d (.int .i64 x.i))]) (fun x=>[(2,x.r.kb),(14,.row 179 5 x.l.length .iff (fun j=>(x.l.getD j default).enc))]) (fun x=>e.2 - x.i) ⟨⟨ra,[],0⟩,[0,1,2,3,4,5,6,7,8,9,10,11,12,13,14],⟨kr,ks,Nat.zero_le _,rfl,rfl⟩,?_⟩ ?_
 ·conv=>whnf
  repeat'(first|exact ⟨⟩|exact rfl|(intro i hi;exact absurd hi (Nat.not_lt_zero _))|exact fun _ _=>rfl|apply And.intro)
 clear kr ks
 intro x hx
 obtain⟨kr,ks,ki,kl,hrest⟩:=hx
 conv=>whnf
 generalize x.r=rb at kr ks hrest ⊢
 generalize x.l=lb at kl hrest ⊢
 generalize x.i=i at ki kl hrest ⊢
 refine⟨fun c5=>?_,fun c5=>?_⟩
 ·have c5':i<e.2:=(by have h:(i:Int)<e.2:=of_decide_eq_true c5;omega)
  have hsub:e.2 - i=(e.2 - (i+1))+1:=by omega
  rw [hsub] at hrest
  conv at hrest=>lhs;unfold Rdr.rs
  conv=>whnf
  refine .rel _ (jk (rrec_ok rb kr) [_,_] [_,_,_,_,_,_,_,_,_,_,_,_] _ rfl rfl) (fun x ks' hR=>?_)
  obtain⟨_,q,⟨rfl,rfl⟩,rfl,rfl⟩:=hR
  have ka:=kr.recd
  have ksa:rb.recd.1.s.length<=9223372036854775807:=by rw[Rdr.recd_s];exact ks
  generalize rb.recd=g at ka ksa hrest ⊢
  conv=>whnf
  refine⟨fun h2=>?_,fun h2=>?_⟩
  ·have h2:g.2.2≠0:=by simpa using h2
   rw [if_pos h2] at hrest
   have hx:Msg.read s=(Msg.no,g.2.2):=by rw[hsp2];unfold Rdr.sec;rw[if_pos (by rw[<-hrest];exact h2),<-hrest]
   rw[hx]
   conv=>whnf
   repeat'(first|exact ⟨⟩|exact rfl|exact .inr rfl|exact .inl rfl|exact fun _ _=>rfl|exact noI|apply And.intro)
  have h2:¬ g.2.2≠0:=by simpa using h2
  rw [if_neg h2] at hrest
  conv=>whnf
  refine⟨by omega,?_⟩
  conv=>whnf
  refine⟨⟨g.1,lb++[g.2.1],i+1⟩,[0,1,2,3,4,5,6,7,8,9,10,11,12,13,17],⟨ka,ksa,c5',by rw[List.length_append,kl];rfl,hrest⟩,by show e.2 - (i+1)<e.2 - i;omega,?_⟩
  have hw1:=w64s i (by omega)
  conv=>whnf
  rw[hw1]
  repeat'(first|exact ⟨⟩|exact rfl|apply And.intro)
  all_goals try exact fun _ _=>rfl
  ·show lb.length+1=(lb++[_]).length
   rw[List.length_append]
   rfl
  ·intro j hj
   exact qj0 lb g.2.1 j hj
 have hic:i=e.2:=(by have h:¬ (i:Int)<e.2:=of_decide_eq_false c5;omega)
 rw [hic,Nat.sub_self] at hrest
 have hrest:Rdr.rs e.2 ra []=(rb,lb,0):=hrest.symm
 have hsp2:Msg.read s=rb.sec f.2 fun r3 z=>r3.fin (Msg.of (IntKind.u16.wrap a.2) (IntKind.u16.wrap b.2) lc la lb z):=by
  rw[hsp2];unfold Rdr.sec;rw[hrest,if_neg (by simp)]
 clear hrest kl ki c5 hic
 conv=>whnf
 refine⟨by decide,?_⟩
 conv=>whnf
 refine .moveC 9 5 5 _ _ _ _ _ _ _ rfl rfl rfl ?_
 refine .inv MrR (fun x=>x.r.Ok/\x.r.s.length<=9223372036854775807/\x.i<=f.2/\x.l.length=x.i/\Rdr.rs (f.2 - x.i) x.r x.l=Rdr.rs f.2 rb []) (fun x=>[(79,.d (.int .i64 x.i))]) (fun x=>[(2,x.r.kb),(15,.row 179 5 x.l.length .iff (fun j=>(x.l.getD j default).enc))]) (fun x=>f.2 - x.i) ⟨⟨rb,[],0⟩,[0,1,2,3,4,5,6,7,8,9,10,11,12,13,14,15],⟨kr,ks,Nat.zero_le _,rfl,rfl⟩,?_⟩ ?_
 ·conv=>whnf
  repeat'(first|exact ⟨⟩|exact rfl|(intro i hi;exact absurd hi (Nat.not_lt_zero _))|exact fun _ _=>rfl|apply And.intro)
 clear kr ks
 intro x hx
 obtain⟨kr,ks,ki,kl,hrest⟩:=hx
 conv=>whnf
 generalize x.r=rd at kr ks hrest ⊢
 generalize x.l=ld at kl hrest ⊢
 generalize x.i=i at ki kl hrest ⊢
 refine⟨fun c5=>?_,fun c5=>?_⟩
 ·have c5':i<f.2:=(by have h:(i:Int)<f.2:=of_decide_eq_true c5;omega)
  have hsub:f.2 - i=(f.2 - (i+1))+1:=by omega
  rw [hsub] at hrest
  conv at hrest=>lhs;unfold Rdr.rs
  conv=>whnf
  refine .rel _ (jk (rrec_ok rd kr) [_,_] [_,_,_,_,_,_,_,_,_,_,_,_,_] _ rfl rfl) (fun x ks' hR=>?_)
  obtain⟨_,q,⟨rfl,rfl⟩,rfl,rfl⟩:=hR
  have ka:=kr.recd
  have ksa:rd.recd.1.s.length<=9223372036854775807:=by rw[Rdr.recd_s];exact ks
  generalize rd.recd=g at ka ksa hrest ⊢
  conv=>whnf
  refine⟨fun h2=>?_,fun h2=>?_⟩
  ·have h2:g.2.2≠0:=by simpa using h2
   rw [if_pos h2] at hrest
   have hx:Msg.read s=(Msg.no,g.2.2):=by rw[hsp2];unfold Rdr.sec;rw[if_pos (by rw[<-hrest];exact h2),<-hrest]
   rw[hx]
   conv=>whnf
   repeat'(first|exact ⟨⟩|exact rfl|exact .inr rfl|exact .inl rfl|exact fun _ _=>rfl|exact noI|apply And.intro)
  have h2:¬ g.2.2≠0:=by simpa using h2
  rw [if_neg h2] at hrest
  conv=>whnf
  refine⟨by omega,?_⟩
  conv=>whnf
  refine⟨⟨g.1,ld++[g.2.1],i+1⟩,[0,1,2,3,4,5,6,7,8,9,10,11,12,13,14,18],⟨ka,ksa,c5',by rw[List.length_append,kl];rfl,hrest⟩,by show f.2 - (i+1)<f.2 - i;omega,?_⟩
  have hw1:=w64s i (by omega)
  conv=>whnf
  rw[hw1]
  repeat'(first|exact ⟨⟩|exact rfl|apply And.intro)
  all_goals try exact fun _ _=>rfl
  ·show ld.length+1=(ld++[_]).length
   rw[List.length_append]
   rfl
  ·intro j hj
   exact qj0 ld g.2.1 j hj
 have hic:i=f.2:=(by have h:¬ (i:Int)<f.2:=of_decide_eq_false c5;omega)
 rw [hic,Nat.sub_self] at hrest
 have hrest:Rdr.rs f.2 rb []=(rd,ld,0):=hrest.symm
 have hsp2:Msg.read s=rd.fin (Msg.of (IntKind.u16.wrap a.2) (IntKind.u16.wrap b.2) lc la lb ld):=by
  rw[hsp2];unfold Rdr.sec;rw[hrest,if_neg (by simp)]
 clear hrest kl ki c5 hic
 conv=>whnf
 have hql:=kr.len
 have hqp:=kr.p
 have hsub:IntKind.i64.wrap ((rd.s.length:Int) - rd.p)=(rd.s.length:Int) - rd.p:=qg _ (by omega)
 refine⟨fun h2=>?_,fun h2=>?_⟩
 ·have h2:rd.bad=true:=h2
  have hx:Msg.read s=(Msg.of (IntKind.u16.wrap a.2) (IntKind.u16.wrap b.2) lc la lb ld,0):=by rw[hsp2];unfold Rdr.fin;rw[if_neg (by simp[h2])]
  rw[hx]
  conv=>whnf
  try (refine brF rfl ?_;conv=>whnf)
  repeat'(first|exact ⟨⟩|exact rfl|exact .inr rfl|exact .inl rfl|exact fun _ _=>rfl|exact noI|apply And.intro)
 have h2:rd.bad=false:=h2
 conv=>whnf
 rw[hsub]
 refine⟨fun h3=>?_,fun h3=>?_⟩
 ·have h3:0<rd.s.length - rd.p:=by
   have h:((rd.s.length:Int) - rd.p) > 0:=of_decide_eq_true h3
   omega
  have hx:Msg.read s=(Msg.no,6):=by rw[hsp2];unfold Rdr.fin;rw[if_pos ⟨h2,h3⟩]
  rw[hx]
  conv=>whnf
  repeat'(first|exact ⟨⟩|exact rfl|exact .inr rfl|exact .inl rfl|exact fun _ _=>rfl|exact noI|apply And.intro)
 ·have h3:¬ 0<rd.s.length - rd.p:=by
   have h:¬ ((rd.s.length:Int) - rd.p) > 0:=of_decide_eq_false h3
   omega
  have hx:Msg.read s=(Msg.of (IntKind.u16.wrap a.2) (IntKind.u16.wrap b.2) lc la lb ld,0):=by rw[hsp2];unfold Rdr.fin;rw[if_neg (fun h=>h3 h.2)]
  rw[hx]
  conv=>whnf
  repeat'(first|exact ⟨⟩|exact rfl|exact .inr rfl|exact .inl rfl|exact fun _ _=>rfl|exact noI|apply And.intro)
end Go.Proofs.YtiiafibkblpbcaaGreat
