/- Calls within the run of known, as a program of mine printed them: what they are given, what lies in memory then, and what they hand back and leave. -/
import Derived.Test.YtpmojikobjkllaaGreatDoorSxTab
namespace Go.Sx.Tab
open Go Go.Sx Go.Proofs

noncomputable def o5 : AObj := .cells false 0 [.int .i64 1, .int .u8 0, .int .i64 0] 62
noncomputable def o6 : AObj := .map false [⟨.int .i64 1, .agg [.int .u8 0, .int .i64 0], 0⟩] 1
noncomputable def o7 : AObj := .map false [] 0
noncomputable def o8 : AObj := .cells false 0 [.map 6, .map 7] 166
noncomputable def o31 : AObj := .cells false 0 [.int .i64 1] 3
noncomputable def o32 : AObj := .cells false 0 [.int .u64 2, .int .u64 0, .int .u64 0, .int .u64 0, .int .u64 0, .int .u64 0, .int .u64 0, .int .u64 0, .int .u64 0, .int .u64 0, .int .u64 0, .int .u64 0, .int .u64 0, .int .u64 0, .int .u64 0, .int .u64 0] 69
noncomputable def o33 : AObj := .cells false 0 [.int .u64 2, .int .u64 0, .int .u64 0, .int .u64 0, .int .u64 0, .int .u64 0, .int .u64 0, .int .u64 0, .int .u64 0, .int .u64 0, .int .u64 0, .int .u64 0, .int .u64 0, .int .u64 0, .int .u64 0, .int .u64 0] 69
noncomputable def o34 : AObj := .cells false 0 [.int .u64 2, .int .u64 0, .int .u64 0, .int .u64 0, .int .u64 0, .int .u64 0, .int .u64 0, .int .u64 0, .int .u64 0, .int .u64 0, .int .u64 0, .int .u64 0, .int .u64 0, .int .u64 0, .int .u64 0, .int .u64 0] 69
noncomputable def o35 : AObj := .cells false 0 [.int .u64 2, .int .u64 0, .int .u64 0, .int .u64 0, .int .u64 0, .int .u64 0, .int .u64 0, .int .u64 0, .int .u64 0, .int .u64 0, .int .u64 0, .int .u64 0, .int .u64 0, .int .u64 0, .int .u64 0, .int .u64 0] 69
noncomputable def o36 : AObj := .cells false 0 [.int .i64 (-1), .int .u64 2, .int .u64 0, .int .u64 0, .int .u64 0, .int .u64 0, .int .u64 0, .int .u64 0, .int .u64 0, .int .u64 0, .int .u64 0, .int .u64 0, .int .u64 0, .int .u64 0, .int .u64 0, .int .u64 0, .int .u64 0] 72
noncomputable def o66 : AObj := .cells false 0 [.nilslice, .nilslice, .int .i64 1, .int .i64 (-1), .int .i64 0] 121
noncomputable def o67 : AObj := .map false [⟨.int .i64 1, .int .i64 0, 0⟩] 1
noncomputable def o70 : AObj := .cells false 17 [.int .i64 (-1), .int .u64 2, .int .u64 0, .int .u64 0, .int .u64 0, .int .u64 0, .int .u64 0, .int .u64 0, .int .u64 0, .int .u64 0, .int .u64 0, .int .u64 0, .int .u64 0, .int .u64 0, .int .u64 0, .int .u64 0, .int .u64 0] 72
noncomputable def o71 : AObj := .cells false 0 [.slice 70 0 1 1 false, .slice 66 0 1 1 true, .map 67] 117
noncomputable def o155 : AObj := .cells false 0 [.int .i64 0] 3
noncomputable def o170 : AObj := .cells false 19 [.int .i64 0, .int .i64 0, .nilslice, .int .u64 2, .int .u64 0, .int .u64 0, .int .u64 0, .int .u64 0, .int .u64 0, .int .u64 0, .int .u64 0, .int .u64 0, .int .u64 0, .int .u64 0, .int .u64 0, .int .u64 0, .int .u64 0, .int .u64 0, .int .u64 0, .int .i64 2, .int .i64 0, .slice 155 0 1 1 true, .int .u64 0, .int .u64 0, .int .u64 0, .int .u64 0, .int .u64 0, .int .u64 0, .int .u64 0, .int .u64 0, .int .u64 0, .int .u64 0, .int .u64 0, .int .u64 0, .int .u64 0, .int .u64 0, .int .u64 0, .int .u64 0] 140
noncomputable def o172 : AObj := .cells false 0 [.int .i64 1, .int .i64 (-1)] 3
noncomputable def o175 : AObj := .cells false 0 [.int .i64 0] 3
noncomputable def o176 : AObj := .cells false 0 [.ptr 71 0, .slice 170 0 2 2 false, .slice 172 0 2 2 true, .slice 175 0 1 1 true] 138
noncomputable def o179 : AObj := .cells false 0 [] 79
noncomputable def o180 : AObj := .cells false 0 [.int .i64 0] 3
noncomputable def o181 : AObj := .cells false 0 [.slice 180 0 1 1 true, .int .i64 7, .int .i64 0, .int .i64 0, .int .i64 0, .int .i64 0, .int .i64 0, .nilslice] 86
noncomputable def o255 : AObj := .cells false 1 [.int .i64 0] 3
noncomputable def o258 : AObj := .map false [] 0
noncomputable def o259 : AObj := .map false [⟨.string ⟨#[102, 97, 108, 115, 101]⟩, .int .i64 0, 0⟩, ⟨.string ⟨#[116, 114, 117, 101]⟩, .int .i64 1, 1⟩] 2
noncomputable def o260 : AObj := .cells false 0 [.slice 255 0 1 1 false, .int .i64 7, .int .i64 0, .int .i64 0, .int .i64 0, .int .i64 0, .int .i64 0, .nilslice, .slice 272 0 1 1 false, .int .i64 0, .int .u16 1, .map 259, .slice 266 0 2 2 false, .ptr 262 0, .map 258] 250
noncomputable def o261 : AObj := .map false [⟨.agg #[.int .u16 0, .int .u16 0, .int .u16 0, .int .u16 0, .int .u16 0, .int .u16 0, .int .u16 0, .int .u16 0, .int .u16 0, .int .u16 0, .int .u16 0, .int .u16 0, .int .u16 0, .int .u16 0, .int .u16 0, .int .u16 0, .int .u16 0, .int .i64 1], .int .i64 0, 0⟩, ⟨.agg #[.int .u16 1, .int .u16 0, .int .u16 0, .int .u16 0, .int .u16 0, .int .u16 0, .int .u16 0, .int .u16 0, .int .u16 0, .int .u16 0, .int .u16 0, .int .u16 0, .int .u16 0, .int .u16 0, .int .u16 0, .int .u16 0, .int .u16 0, .int .i64 1], .int .i64 1, 1⟩, ⟨.agg #[.int .u16 1, .int .u16 1, .int .u16 0, .int .u16 0, .int .u16 0, .int .u16 0, .int .u16 0, .int .u16 0, .int .u16 0, .int .u16 0, .int .u16 0, .int .u16 0, .int .u16 0, .int .u16 0, .int .u16 0, .int .u16 0, .int .u16 0, .int .i64 1], .int .i64 2, 2⟩] 3
noncomputable def o262 : AObj := .cells false 0 [.int .i64 1048576, .map 261, .slice 432 0 3 3 false] 311
noncomputable def o266 : AObj := .cells false 1 [.iface 257 (.bool false), .iface 257 (.bool true)] 313
noncomputable def o272 : AObj := .cells false 13 [.int .i64 7, .int .i64 0, .int .i64 0, .int .i64 0, .int .i64 0, .int .i64 0, .nilslice, .nilslice, .int .i64 0, .int .i64 0, .int .i64 0, .bool false, .int .i64 1] 263
noncomputable def o280 : AObj := .cells false 1 [.int .i64 0] 3
noncomputable def o281 : AObj := .cells false 0 [.ptr 260 0, .iface 79 (.agg []), .iface 90 (.agg [.iface 79 (.agg [])]), .slice 280 0 1 1 false, .int .i64 1] 193
noncomputable def o282 : AObj := .map false [⟨.int .i64 1, .agg [.int .u8 0, .int .i64 0], 0⟩] 1
noncomputable def o283 : AObj := .map false [] 0
noncomputable def o284 : AObj := .cells false 0 [.map 282, .map 283] 166
noncomputable def o288 : AObj := .cells false 1 [.int .i64 0] 3
noncomputable def o291 : AObj := .cells false 0 [.nilptr, .int .u16 0, .nilmap, .int .u16 0, .nilptr, .int .u16 0, .nilmap, .int .u16 0] 207
noncomputable def o292 : AObj := .cells false 0 [.ptr 284 0, .ptr 176 0, .slice 288 0 1 1 false, .int .i64 7, .int .i64 0, .int .i64 0, .int .i64 0, .int .i64 0, .int .i64 0, .nilslice, .iface 79 (.agg []), .iface 90 (.agg [.iface 79 (.agg [])]), .ptr 281 0, .nilslice, .slice 300 0 2 2 false, .int .i64 2, .slice 931 0 1 2 true] 152
noncomputable def o293 : AObj := .map false [⟨.int .i64 0, .bool true, 0⟩] 1
noncomputable def o300 : AObj := .cells false 4 [.ptr 260 0, .int .u16 1, .map 499, .int .u16 1, .ptr 260 0, .int .u16 0, .map 854, .int .u16 0] 207
noncomputable def o432 : AObj := .cells false 18 [.int .u16 0, .int .u16 0, .int .u16 0, .int .u16 0, .int .u16 0, .int .u16 0, .int .u16 0, .int .u16 0, .int .u16 0, .int .u16 0, .int .u16 0, .int .u16 0, .int .u16 0, .int .u16 0, .int .u16 0, .int .u16 0, .int .u16 0, .int .i64 1, .int .u16 1, .int .u16 0, .int .u16 0, .int .u16 0, .int .u16 0, .int .u16 0, .int .u16 0, .int .u16 0, .int .u16 0, .int .u16 0, .int .u16 0, .int .u16 0, .int .u16 0, .int .u16 0, .int .u16 0, .int .u16 0, .int .u16 0, .int .i64 1, .int .u16 1, .int .u16 1, .int .u16 0, .int .u16 0, .int .u16 0, .int .u16 0, .int .u16 0, .int .u16 0, .int .u16 0, .int .u16 0, .int .u16 0, .int .u16 0, .int .u16 0, .int .u16 0, .int .u16 0, .int .u16 0, .int .u16 0, .int .i64 1] 255
noncomputable def o499 : AObj := .map false [⟨.int .i64 1, .agg [.slice 540 0 1 2 true], 0⟩, ⟨.int .i64 2, .agg [.slice 570 0 1 2 true], 1⟩] 2
noncomputable def o540 : AObj := .cells false 0 [.int .u32 1, .int .u32 0] 232
noncomputable def o570 : AObj := .cells false 0 [.int .u32 1, .int .u32 0] 232
noncomputable def o826 : AObj := .cells false 0 [.int .u32 2, .int .u32 0] 232
noncomputable def o854 : AObj := .map false [⟨.int .i64 0, .agg [.slice 826 0 1 2 true], 0⟩] 1
noncomputable def o931 : AObj := .cells false 0 [.int .u32 2, .int .u32 0] 232
noncomputable def o261b : AObj := .map false [⟨.agg #[.int .u16 0, .int .u16 0, .int .u16 0, .int .u16 0, .int .u16 0, .int .u16 0, .int .u16 0, .int .u16 0, .int .u16 0, .int .u16 0, .int .u16 0, .int .u16 0, .int .u16 0, .int .u16 0, .int .u16 0, .int .u16 0, .int .u16 0, .int .i64 1], .int .i64 0, 0⟩] 1
noncomputable def o262b : AObj := .cells false 0 [.int .i64 1048576, .map 261, .slice 278 0 1 1 false] 311
noncomputable def o278 : AObj := .cells false 18 [.int .u16 0, .int .u16 0, .int .u16 0, .int .u16 0, .int .u16 0, .int .u16 0, .int .u16 0, .int .u16 0, .int .u16 0, .int .u16 0, .int .u16 0, .int .u16 0, .int .u16 0, .int .u16 0, .int .u16 0, .int .u16 0, .int .u16 0, .int .i64 1] 255
noncomputable def o281b : AObj := .cells false 0 [.ptr 260 0, .iface 79 (.agg []), .iface 90 (.agg [.iface 79 (.agg [])]), .slice 280 0 1 1 false, .int .i64 0] 193
noncomputable def o292b : AObj := .cells false 0 [.ptr 284 0, .ptr 176 0, .slice 288 0 1 1 false, .int .i64 7, .int .i64 0, .int .i64 0, .int .i64 0, .int .i64 0, .int .i64 0, .nilslice, .iface 79 (.agg []), .iface 90 (.agg [.iface 79 (.agg [])]), .ptr 281 0, .nilslice, .slice 291 0 2 2 true, .int .i64 0, .nilslice] 152
noncomputable def o937 : AObj := .cells false 0 [.slice 997 0 2 2 false, .int .i64 1] 57
noncomputable def o940 : AObj := .cells false 0 [.ptr 943 0, .ptr 176 0, .slice 288 0 1 1 false, .int .i64 7, .int .i64 0, .int .i64 0, .int .i64 0, .int .i64 0, .int .i64 0, .nilslice, .iface 79 (.agg []), .iface 90 (.agg [.iface 79 (.agg [])]), .ptr 946 0, .nilslice, .slice 951 0 2 2 false, .int .i64 0, .slice 989 0 1 2 true] 152
noncomputable def o941 : AObj := .map false [⟨.int .i64 1, .agg [.int .u8 0, .int .i64 0], 0⟩] 1
noncomputable def o942 : AObj := .map false [] 0
noncomputable def o943 : AObj := .cells false 0 [.map 941, .map 942] 166
noncomputable def o946 : AObj := .cells false 0 [.ptr 260 0, .iface 79 (.agg []), .iface 296 (.agg [.iface 79 (.agg []), .iface 90 (.agg [.iface 79 (.agg [])]), .nilslice]), .slice 280 0 1 1 false, .int .i64 0] 193
noncomputable def o951 : AObj := .cells false 4 [.ptr 260 0, .int .u16 1, .map 499, .int .u16 1, .ptr 260 0, .int .u16 0, .map 854, .int .u16 0] 207
noncomputable def o989 : AObj := .cells false 0 [.int .u32 2, .int .u32 0] 232
noncomputable def o997 : AObj := .cells false 7 [.ptr 292 0, .int .i64 (-1), .int .i64 1, .slice 999 0 1 1 false, .nilslice, .nilslice, .nilslice, .ptr 940 0, .int .i64 0, .int .i64 (-1), .nilslice, .nilslice, .nilslice, .nilslice] 54
noncomputable def o999 : AObj := .cells false 1 [.int .i64 1] 3
noncomputable def o1000 : AObj := .cells false 0 [.int .i64 4, .int .i64 1, .int .i64 0, .int .u8 1, .int .i64 0] 93
noncomputable def o1001 : AObj := .cells false 0 [.slice 1000 0 1 1 true] 22
noncomputable def o1002 : AObj := .cells false 0 [.slice 1000 0 1 1 true, .nilslice, .nilslice] 42
noncomputable def o1003 : AObj := .cells false 0 [.ptr 1006 0, .ptr 176 0, .slice 288 0 1 1 false, .int .i64 7, .int .i64 0, .int .i64 0, .int .i64 0, .int .i64 0, .int .i64 0, .nilslice, .iface 79 (.agg []), .iface 90 (.agg [.iface 79 (.agg [])]), .ptr 1155 0, .nilslice, .slice 1160 0 2 2 false, .int .i64 2, .slice 1809 0 1 2 true] 152
noncomputable def o1004 : AObj := .map false [⟨.int .i64 1, .agg [.int .u8 1, .int .i64 0], 0⟩] 1
noncomputable def o1005 : AObj := .map false [] 0
noncomputable def o1006 : AObj := .cells false 0 [.map 1004, .map 1005] 166
noncomputable def o1007 : AObj := .map false [⟨.int .i64 0, .bool true, 0⟩] 1
noncomputable def o1008 : AObj := .cells false 0 [.ptr 1003 0] 37
noncomputable def o1009 : AObj := .cells false 0 [.int .i64 4, .int .i64 1, .int .i64 0, .int .u8 1, .int .i64 0] 93
noncomputable def o1155 : AObj := .cells false 0 [.ptr 260 0, .iface 79 (.agg []), .iface 296 (.agg [.iface 79 (.agg []), .iface 90 (.agg [.iface 79 (.agg [])]), .nilslice]), .slice 280 0 1 1 false, .int .i64 1] 193
noncomputable def o1160 : AObj := .cells false 4 [.ptr 260 0, .int .u16 1, .map 1377, .int .u16 1, .ptr 260 0, .int .u16 0, .map 1732, .int .u16 0] 207
noncomputable def o1377 : AObj := .map false [⟨.int .i64 1, .agg [.slice 1418 0 1 2 true], 0⟩, ⟨.int .i64 2, .agg [.slice 1448 0 1 2 true], 1⟩] 2
noncomputable def o1418 : AObj := .cells false 0 [.int .u32 1, .int .u32 0] 232
noncomputable def o1448 : AObj := .cells false 0 [.int .u32 1, .int .u32 0] 232
noncomputable def o1704 : AObj := .cells false 0 [.int .u32 2, .int .u32 0] 232
noncomputable def o1732 : AObj := .map false [⟨.int .i64 0, .agg [.slice 1704 0 1 2 true], 0⟩] 1
noncomputable def o1809 : AObj := .cells false 0 [.int .u32 2, .int .u32 0] 232
noncomputable def o1003b : AObj := .cells false 0 [.ptr 1006 0, .ptr 176 0, .slice 288 0 1 1 false, .int .i64 7, .int .i64 0, .int .i64 0, .int .i64 0, .int .i64 0, .int .i64 0, .nilslice, .iface 79 (.agg []), .iface 90 (.agg [.iface 79 (.agg [])]), .ptr 1155 0, .nilslice, .slice 951 0 2 2 false, .int .i64 0, .slice 989 0 1 2 true] 152
noncomputable def o1155b : AObj := .cells false 0 [.ptr 260 0, .iface 79 (.agg []), .iface 296 (.agg [.iface 79 (.agg []), .iface 90 (.agg [.iface 79 (.agg [])]), .nilslice]), .slice 280 0 1 1 false, .int .i64 0] 193
noncomputable def o937b : AObj := .cells false 0 [.slice 1819 0 3 3 false, .int .i64 2] 57
noncomputable def o1817 : AObj := .cells false 5 [.int .i64 4, .int .i64 1, .int .i64 0, .int .u8 1, .int .i64 0] 93
noncomputable def o1819 : AObj := .cells false 7 [.ptr 292 0, .int .i64 (-1), .int .i64 1, .slice 999 0 1 1 false, .nilslice, .nilslice, .nilslice, .ptr 940 0, .int .i64 0, .int .i64 2, .slice 1821 0 1 1 false, .nilslice, .nilslice, .nilslice, .ptr 1003 0, .int .i64 1, .int .i64 (-1), .nilslice, .slice 1817 0 1 1 false, .nilslice, .nilslice] 54
noncomputable def o1821 : AObj := .cells false 1 [.int .i64 2] 3
noncomputable def e0 : Entry where
  f := 16
  args := [.slice 36 0 1 1 true]
  objs := [
  (0, Tab.glob0), (1, Tab.glob1), (5, o5), (6, o6), (7, o7), (8, o8), (31, o31), (32, o32), (33, o33), (34, o34), (35, o35), (36, o36)]
  nx := 37
  outs := [(.tuple [.ptr 71 0, .int .i64 0], [
  (0, Tab.glob0), (1, Tab.glob1), (5, o5), (6, o6), (7, o7), (8, o8), (31, o31), (32, o32), (33, o33), (34, o34), (35, o35), (36, o36), (66, o66), (67, o67), 
  (70, o70), (71, o71)], 143)]
noncomputable def e1 : Entry where
  f := 61
  args := [.ptr 292 0, .map 293]
  objs := [
  (0, Tab.glob0), (1, Tab.glob1), (5, o5), (6, o6), (7, o7), (8, o8), (31, o31), (36, o36), (66, o66), (67, o67), (70, o70), (71, o71), (155, o155), (170, o170), 
  (172, o172), (175, o175), (176, o176), (179, o179), (180, o180), (181, o181), (255, o255), (258, o258), (259, o259), (260, o260), (261, o261b), (262, o262b), 
  (266, o266), (272, o272), (278, o278), (280, o280), (281, o281b), (282, o282), (283, o283), (284, o284), (288, o288), (291, o291), (292, o292b), (293, o293)]
  nx := 296
  outs := [(.tuple [.ptr 292 0, .int .i64 0], [
  (0, Tab.glob0), (1, Tab.glob1), (5, o5), (6, o6), (7, o7), (8, o8), (31, o31), (36, o36), (66, o66), (67, o67), (70, o70), (71, o71), (155, o155), (170, o170), 
  (172, o172), (175, o175), (176, o176), (179, o179), (180, o180), (181, o181), (255, o255), (258, o258), (259, o259), (260, o260), (261, o261), (262, o262), 
  (266, o266), (272, o272), (280, o280), (281, o281), (282, o282), (283, o283), (284, o284), (288, o288), (291, o291), (292, o292), (293, o293), (300, o300), 
  (432, o432), (499, o499), (540, o540), (570, o570), (826, o826), (854, o854), (931, o931)], 936)]
noncomputable def e2 : Entry where
  f := 19
  args := [.ptr 8 0, .ptr 176 0, .agg [.slice 180 0 1 1 true, .int .i64 7, .int .i64 0, .int .i64 0, .int .i64 0, .int .i64 0, .int .i64 0, .nilslice], .iface 79 (.agg []), .iface 90 (.agg [.iface 79 (.agg [])])]
  objs := [
  (0, Tab.glob0), (1, Tab.glob1), (5, o5), (6, o6), (7, o7), (8, o8), (31, o31), (36, o36), (66, o66), (67, o67), (70, o70), (71, o71), (155, o155), (170, o170), 
  (172, o172), (175, o175), (176, o176), (179, o179), (180, o180)]
  nx := 181
  outs := [(.tuple [.ptr 292 0, .int .i64 0], [
  (0, Tab.glob0), (1, Tab.glob1), (5, o5), (6, o6), (7, o7), (8, o8), (31, o31), (36, o36), (66, o66), (67, o67), (70, o70), (71, o71), (155, o155), (170, o170), 
  (172, o172), (175, o175), (176, o176), (179, o179), (180, o180), (255, o255), (258, o258), (259, o259), (260, o260), (261, o261), (262, o262), (266, o266), 
  (272, o272), (280, o280), (281, o281), (282, o282), (283, o283), (284, o284), (288, o288), (292, o292), (300, o300), (432, o432), (499, o499), (540, o540), 
  (570, o570), (826, o826), (854, o854), (931, o931)], 936)]
noncomputable def e3 : Entry where
  f := 61
  args := [.ptr 1003 0, .map 1007]
  objs := [
  (0, Tab.glob0), (1, Tab.glob1), (5, o5), (6, o6), (7, o7), (8, o8), (31, o31), (36, o36), (66, o66), (67, o67), (70, o70), (71, o71), (155, o155), (170, o170), 
  (172, o172), (175, o175), (176, o176), (179, o179), (180, o180), (255, o255), (258, o258), (259, o259), (260, o260), (261, o261), (262, o262), (266, o266), 
  (272, o272), (280, o280), (281, o281), (282, o282), (283, o283), (284, o284), (288, o288), (292, o292), (300, o300), (432, o432), (499, o499), (540, o540), 
  (570, o570), (826, o826), (854, o854), (931, o931), (937, o937), (940, o940), (941, o941), (942, o942), (943, o943), (946, o946), (951, o951), (989, o989), 
  (997, o997), (999, o999), (1000, o1000), (1001, o1001), (1002, o1002), (1003, o1003b), (1004, o1004), (1005, o1005), (1006, o1006), (1007, o1007), (1008, o1008), 
  (1009, o1009), (1155, o1155b)]
  nx := 1156
  outs := [(.tuple [.ptr 1003 0, .int .i64 0], [
  (0, Tab.glob0), (1, Tab.glob1), (5, o5), (6, o6), (7, o7), (8, o8), (31, o31), (36, o36), (66, o66), (67, o67), (70, o70), (71, o71), (155, o155), (170, o170), 
  (172, o172), (175, o175), (176, o176), (179, o179), (180, o180), (255, o255), (258, o258), (259, o259), (260, o260), (261, o261), (262, o262), (266, o266), 
  (272, o272), (280, o280), (281, o281), (282, o282), (283, o283), (284, o284), (288, o288), (292, o292), (300, o300), (432, o432), (499, o499), (540, o540), 
  (570, o570), (826, o826), (854, o854), (931, o931), (937, o937), (940, o940), (941, o941), (942, o942), (943, o943), (946, o946), (951, o951), (989, o989), 
  (997, o997), (999, o999), (1000, o1000), (1001, o1001), (1002, o1002), (1003, o1003), (1004, o1004), (1005, o1005), (1006, o1006), (1007, o1007), (1008, o1008), 
  (1009, o1009), (1155, o1155), (1160, o1160), (1377, o1377), (1418, o1418), (1448, o1448), (1704, o1704), (1732, o1732), (1809, o1809)], 1814)]
noncomputable def e4 : Entry where
  f := 20
  args := [.ptr 937 0, .slice 1000 0 1 1 true]
  objs := [
  (0, Tab.glob0), (1, Tab.glob1), (5, o5), (6, o6), (7, o7), (8, o8), (31, o31), (36, o36), (66, o66), (67, o67), (70, o70), (71, o71), (155, o155), (170, o170), 
  (172, o172), (175, o175), (176, o176), (179, o179), (180, o180), (255, o255), (258, o258), (259, o259), (260, o260), (261, o261), (262, o262), (266, o266), 
  (272, o272), (280, o280), (281, o281), (282, o282), (283, o283), (284, o284), (288, o288), (292, o292), (300, o300), (432, o432), (499, o499), (540, o540), 
  (570, o570), (826, o826), (854, o854), (931, o931), (937, o937), (940, o940), (941, o941), (942, o942), (943, o943), (946, o946), (951, o951), (989, o989), 
  (997, o997), (999, o999), (1000, o1000)]
  nx := 1001
  outs := [(.tuple [.int .i64 2, .int .i64 0], [
  (0, Tab.glob0), (1, Tab.glob1), (5, o5), (6, o6), (7, o7), (8, o8), (31, o31), (36, o36), (66, o66), (67, o67), (70, o70), (71, o71), (155, o155), (170, o170), 
  (172, o172), (175, o175), (176, o176), (179, o179), (180, o180), (255, o255), (258, o258), (259, o259), (260, o260), (261, o261), (262, o262), (266, o266), 
  (272, o272), (280, o280), (281, o281), (282, o282), (283, o283), (284, o284), (288, o288), (292, o292), (300, o300), (432, o432), (499, o499), (540, o540), 
  (570, o570), (826, o826), (854, o854), (931, o931), (937, o937b), (940, o940), (941, o941), (942, o942), (943, o943), (946, o946), (951, o951), (989, o989), 
  (999, o999), (1000, o1000), (1003, o1003), (1004, o1004), (1005, o1005), (1006, o1006), (1155, o1155), (1160, o1160), (1377, o1377), (1418, o1418), 
  (1448, o1448), (1704, o1704), (1732, o1732), (1809, o1809), (1817, o1817), (1819, o1819), (1821, o1821)], 1822)]

/-- The run of known itself. -/
noncomputable def er : Entry where
  f := root
  args := []
  objs := [(0, glob0), (1, glob1)]
  nx := 5
  outs := [(.bool true, [], 1902)]

end Go.Sx.Tab
