/- The machine's environment for this program, and facts of it. No statement of the program stands here. -/
import Derived.Test.YthninknobjneeaaGreatDoorWG
import Derived.Test.YthninknobjneeaaGreatDoorProg
import Derived.KernelRfl
set_option linter.unusedSimpArgs false
set_option linter.unusedVariables false
set_option linter.defProp false
namespace Go.Mir
open Go Go.Proofs
def ti1 : TI := { kind := .func, size := 1, bytes := 8, zero := [(.base .nilFunc)] }
def ti2 : TI := { kind := (.int .i64), size := 1, bytes := 8, zero := [(.int .i64 0)] }
def ti3 : TI := { kind := (.int .i64), size := 1, bytes := 8, zero := [(.int .i64 0)] }
def ti4 : TI := { kind := .bool, size := 1, bytes := 1, zero := [(.bool false)] }
def ti5 : TI := { kind := (.int .u8), size := 1, bytes := 1, zero := [(.int .u8 0)] }
def ti6 : TI := { kind := (.int .u8), size := 1, bytes := 1, zero := [(.int .u8 0)] }
def ti7 : TI := { kind := (.struct [(0, 2, 1, true), (1, 3, 1, true), (2, 4, 1, true), (3, 6, 1, true)]), size := 4, bytes := 24, zero := [(.int .i64 0), (.int .i64 0), (.bool false), (.int .u8 0)] }
def ti8 : TI := { kind := (.struct [(0, 2, 1, true), (1, 3, 1, true), (2, 4, 1, true), (3, 6, 1, true)]), size := 4, bytes := 24, zero := [(.int .i64 0), (.int .i64 0), (.bool false), (.int .u8 0)] }
def ti9 : TI := { kind := .string, size := 1, bytes := 16, zero := [(.str [])] }
def ti10 : TI := { kind := .string, size := 1, bytes := 16, zero := [(.str [])] }
def ti11 : TI := { kind := .string, size := 1, bytes := 16, zero := [(.str [])] }
def ti12 : TI := { kind := (.int .u64), size := 1, bytes := 8, zero := [(.int .u64 0)] }
def ti15 : TI := { kind := (.ptr 434), size := 1, bytes := 8, zero := [(.base (.pointer none))] }
def ti16 : TI := { kind := (.ptr 437), size := 1, bytes := 8, zero := [(.base (.pointer none))] }
def ti17 : TI := { kind := (.ptr 444), size := 1, bytes := 8, zero := [(.base (.pointer none))] }
def ti20 : TI := { kind := .iface, size := 1, bytes := 16, zero := [(.base .nilIface)] }
def ti21 : TI := { kind := (.int .i32), size := 1, bytes := 4, zero := [(.int .i32 0)] }
def ti22 : TI := { kind := (.slice 9), size := 1, bytes := 24, zero := [(.base (.slice none 0 0))] }
def ti23 : TI := { kind := (.slice 67), size := 1, bytes := 24, zero := [(.base (.slice none 0 0))] }
def ti24 : TI := { kind := (.struct [(0, 4, 1, true), (1, 4, 1, true), (2, 22, 1, true), (3, 23, 1, true)]), size := 4, bytes := 56, zero := [(.bool false), (.bool false), (.base (.slice none 0 0)), (.base (.slice none 0 0))] }
def ti25 : TI := { kind := (.struct [(0, 4, 1, true), (1, 4, 1, true), (2, 22, 1, true), (3, 23, 1, true)]), size := 4, bytes := 56, zero := [(.bool false), (.bool false), (.base (.slice none 0 0)), (.base (.slice none 0 0))] }
def ti26 : TI := { kind := (.slice 40), size := 1, bytes := 24, zero := [(.base (.slice none 0 0))] }
def ti27 : TI := { kind := (.struct [(0, 4, 1, true), (1, 26, 1, true)]), size := 2, bytes := 32, zero := [(.bool false), (.base (.slice none 0 0))] }
def ti28 : TI := { kind := (.struct [(0, 4, 1, true), (1, 26, 1, true)]), size := 2, bytes := 32, zero := [(.bool false), (.base (.slice none 0 0))] }
def ti29 : TI := { kind := .func, size := 1, bytes := 8, zero := [(.base .nilFunc)] }
def ti30 : TI := { kind := .func, size := 1, bytes := 8, zero := [(.base .nilFunc)] }
def ti31 : TI := { kind := .func, size := 1, bytes := 8, zero := [(.base .nilFunc)] }
def ti32 : TI := { kind := (.int .i64), size := 1, bytes := 8, zero := [(.int .i64 0)] }
def ti34 : TI := { kind := .func, size := 1, bytes := 8, zero := [(.base .nilFunc)] }
def ti36 : TI := { kind := .func, size := 1, bytes := 8, zero := [(.base .nilFunc)] }
def ti37 : TI := { kind := .func, size := 1, bytes := 8, zero := [(.base .nilFunc)] }
def ti39 : TI := { kind := .func, size := 1, bytes := 8, zero := [(.base .nilFunc)] }
def ti40 : TI := { kind := (.slice 47), size := 1, bytes := 24, zero := [(.base (.slice none 0 0))] }
def ti42 : TI := { kind := .func, size := 1, bytes := 8, zero := [(.base .nilFunc)] }
def ti43 : TI := { kind := .func, size := 1, bytes := 8, zero := [(.base .nilFunc)] }
def ti44 : TI := { kind := .func, size := 1, bytes := 8, zero := [(.base .nilFunc)] }
def ti45 : TI := { kind := (.int .i64), size := 1, bytes := 8, zero := [(.int .i64 0)] }
def ti46 : TI := { kind := (.struct [(0, 45, 1, true), (1, 9, 1, true), (2, 9, 1, true)]), size := 3, bytes := 40, zero := [(.int .i64 0), (.str []), (.str [])] }
def ti47 : TI := { kind := (.struct [(0, 45, 1, true), (1, 9, 1, true), (2, 9, 1, true)]), size := 3, bytes := 40, zero := [(.int .i64 0), (.str []), (.str [])] }
def ti48 : TI := { kind := (.struct [(0, 9, 1, true), (1, 47, 3, true)]), size := 4, bytes := 56, zero := [(.str []), (.int .i64 0), (.str []), (.str [])] }
def ti49 : TI := { kind := (.struct [(0, 9, 1, true), (1, 47, 3, true)]), size := 4, bytes := 56, zero := [(.str []), (.int .i64 0), (.str []), (.str [])] }
def ti50 : TI := { kind := (.array 3 49), size := 12, bytes := 168, zero := [(.str []), (.int .i64 0), (.str []), (.str []), (.str []), (.int .i64 0), (.str []), (.str []), (.str []), (.int .i64 0), (.str []), (.str [])] }
def ti51 : TI := { kind := (.array 3 49), size := 12, bytes := 168, zero := [(.str []), (.int .i64 0), (.str []), (.str []), (.str []), (.int .i64 0), (.str []), (.str []), (.str []), (.int .i64 0), (.str []), (.str [])] }
def ti52 : TI := { kind := (.struct [(0, 51, 12, true), (12, 23, 1, true)]), size := 13, bytes := 192, zero := [(.str []), (.int .i64 0), (.str []), (.str []), (.str []), (.int .i64 0), (.str []), (.str []), (.str []), (.int .i64 0), (.str []), (.str []), (.base (.slice none 0 0))] }
def ti53 : TI := { kind := (.struct [(0, 51, 12, true), (12, 23, 1, true)]), size := 13, bytes := 192, zero := [(.str []), (.int .i64 0), (.str []), (.str []), (.str []), (.int .i64 0), (.str []), (.str []), (.str []), (.int .i64 0), (.str []), (.str []), (.base (.slice none 0 0))] }
def ti54 : TI := { kind := (.slice 53), size := 1, bytes := 24, zero := [(.base (.slice none 0 0))] }
def ti55 : TI := { kind := (.ptr 124), size := 1, bytes := 8, zero := [(.base (.pointer none))] }
def ti57 : TI := { kind := .func, size := 1, bytes := 8, zero := [(.base .nilFunc)] }
def ti58 : TI := { kind := (.struct [(0, 3, 1, true), (1, 3, 1, true), (2, 3, 1, true)]), size := 3, bytes := 24, zero := [(.int .i64 0), (.int .i64 0), (.int .i64 0)] }
def ti59 : TI := { kind := (.struct [(0, 3, 1, true), (1, 3, 1, true), (2, 3, 1, true)]), size := 3, bytes := 24, zero := [(.int .i64 0), (.int .i64 0), (.int .i64 0)] }
def ti60 : TI := { kind := .func, size := 1, bytes := 8, zero := [(.base .nilFunc)] }
def ti61 : TI := { kind := .func, size := 1, bytes := 8, zero := [(.base .nilFunc)] }
def ti62 : TI := { kind := (.array 3 47), size := 9, bytes := 120, zero := [(.int .i64 0), (.str []), (.str []), (.int .i64 0), (.str []), (.str []), (.int .i64 0), (.str []), (.str [])] }
def ti63 : TI := { kind := (.array 3 47), size := 9, bytes := 120, zero := [(.int .i64 0), (.str []), (.str []), (.int .i64 0), (.str []), (.str []), (.int .i64 0), (.str []), (.str [])] }
def ti64 : TI := { kind := (.slice 63), size := 1, bytes := 24, zero := [(.base (.slice none 0 0))] }
def ti65 : TI := { kind := (.int .i64), size := 1, bytes := 8, zero := [(.int .i64 0)] }
def ti66 : TI := { kind := (.struct [(0, 65, 1, true), (1, 51, 12, true), (13, 49, 4, true), (17, 49, 4, true)]), size := 21, bytes := 288, zero := [(.int .i64 0), (.str []), (.int .i64 0), (.str []), (.str []), (.str []), (.int .i64 0), (.str []), (.str []), (.str []), (.int .i64 0), (.str []), (.str []), (.str []), (.int .i64 0), (.str []), (.str []), (.str []), (.int .i64 0), (.str []), (.str [])] }
def ti67 : TI := { kind := (.struct [(0, 65, 1, true), (1, 51, 12, true), (13, 49, 4, true), (17, 49, 4, true)]), size := 21, bytes := 288, zero := [(.int .i64 0), (.str []), (.int .i64 0), (.str []), (.str []), (.str []), (.int .i64 0), (.str []), (.str []), (.str []), (.int .i64 0), (.str []), (.str []), (.str []), (.int .i64 0), (.str []), (.str []), (.str []), (.int .i64 0), (.str []), (.str [])] }
def ti69 : TI := { kind := .func, size := 1, bytes := 8, zero := [(.base .nilFunc)] }
def ti70 : TI := { kind := .func, size := 1, bytes := 8, zero := [(.base .nilFunc)] }
def ti71 : TI := { kind := (.struct [(0, 9, 1, true)]), size := 1, bytes := 16, zero := [(.str [])] }
def ti72 : TI := { kind := (.map 4 71), size := 1, bytes := 8, zero := [(.base (.map none))] }
def ti73 : TI := { kind := .func, size := 1, bytes := 8, zero := [(.base .nilFunc)] }
def ti74 : TI := { kind := .func, size := 1, bytes := 8, zero := [(.base .nilFunc)] }
def ti75 : TI := { kind := .func, size := 1, bytes := 8, zero := [(.base .nilFunc)] }
def ti76 : TI := { kind := .func, size := 1, bytes := 8, zero := [(.base .nilFunc)] }
def ti77 : TI := { kind := .func, size := 1, bytes := 8, zero := [(.base .nilFunc)] }
def ti78 : TI := { kind := .func, size := 1, bytes := 8, zero := [(.base .nilFunc)] }
def ti79 : TI := { kind := .func, size := 1, bytes := 8, zero := [(.base .nilFunc)] }
def ti80 : TI := { kind := .func, size := 1, bytes := 8, zero := [(.base .nilFunc)] }
def ti82 : TI := { kind := .func, size := 1, bytes := 8, zero := [(.base .nilFunc)] }
def ti83 : TI := { kind := (.map 9 85), size := 1, bytes := 8, zero := [(.base (.map none))] }
def ti84 : TI := { kind := .func, size := 1, bytes := 8, zero := [(.base .nilFunc)] }
def ti85 : TI := { kind := (.struct [(0, 4, 1, true)]), size := 1, bytes := 1, zero := [(.bool false)] }
def ti86 : TI := { kind := .func, size := 1, bytes := 8, zero := [(.base .nilFunc)] }
def ti87 : TI := { kind := .func, size := 1, bytes := 8, zero := [(.base .nilFunc)] }
def ti88 : TI := { kind := .func, size := 1, bytes := 8, zero := [(.base .nilFunc)] }
def ti89 : TI := { kind := (.map 9 3), size := 1, bytes := 8, zero := [(.base (.map none))] }
def ti90 : TI := { kind := .func, size := 1, bytes := 8, zero := [(.base .nilFunc)] }
def ti91 : TI := { kind := .func, size := 1, bytes := 8, zero := [(.base .nilFunc)] }
def ti92 : TI := { kind := .func, size := 1, bytes := 8, zero := [(.base .nilFunc)] }
def ti93 : TI := { kind := .func, size := 1, bytes := 8, zero := [(.base .nilFunc)] }
def ti94 : TI := { kind := .func, size := 1, bytes := 8, zero := [(.base .nilFunc)] }
def ti95 : TI := { kind := .func, size := 1, bytes := 8, zero := [(.base .nilFunc)] }
def ti96 : TI := { kind := (.map 45 74), size := 1, bytes := 8, zero := [(.base (.map none))] }
def ti97 : TI := { kind := .func, size := 1, bytes := 8, zero := [(.base .nilFunc)] }
def ti98 : TI := { kind := .func, size := 1, bytes := 8, zero := [(.base .nilFunc)] }
def ti99 : TI := { kind := .func, size := 1, bytes := 8, zero := [(.base .nilFunc)] }
def ti100 : TI := { kind := .func, size := 1, bytes := 8, zero := [(.base .nilFunc)] }
def ti101 : TI := { kind := .func, size := 1, bytes := 8, zero := [(.base .nilFunc)] }
def ti102 : TI := { kind := .func, size := 1, bytes := 8, zero := [(.base .nilFunc)] }
def ti103 : TI := { kind := .func, size := 1, bytes := 8, zero := [(.base .nilFunc)] }
def ti104 : TI := { kind := .func, size := 1, bytes := 8, zero := [(.base .nilFunc)] }
def ti105 : TI := { kind := .func, size := 1, bytes := 8, zero := [(.base .nilFunc)] }
def ti106 : TI := { kind := .func, size := 1, bytes := 8, zero := [(.base .nilFunc)] }
def ti107 : TI := { kind := (.struct [(0, 4, 1, true)]), size := 1, bytes := 1, zero := [(.bool false)] }
def ti108 : TI := { kind := (.struct [(0, 4, 1, true)]), size := 1, bytes := 1, zero := [(.bool false)] }
def ti110 : TI := { kind := .func, size := 1, bytes := 8, zero := [(.base .nilFunc)] }
def ti111 : TI := { kind := (.slice 141), size := 1, bytes := 24, zero := [(.base (.slice none 0 0))] }
def ti113 : TI := { kind := .func, size := 1, bytes := 8, zero := [(.base .nilFunc)] }
def ti114 : TI := { kind := (.ptr 193), size := 1, bytes := 8, zero := [(.base (.pointer none))] }
def ti115 : TI := { kind := .func, size := 1, bytes := 8, zero := [(.base .nilFunc)] }
def ti116 : TI := { kind := (.ptr 201), size := 1, bytes := 8, zero := [(.base (.pointer none))] }
def ti117 : TI := { kind := .func, size := 1, bytes := 8, zero := [(.base .nilFunc)] }
def ti118 : TI := { kind := (.ptr 205), size := 1, bytes := 8, zero := [(.base (.pointer none))] }
def ti119 : TI := { kind := .func, size := 1, bytes := 8, zero := [(.base .nilFunc)] }
def ti120 : TI := { kind := (.map 63 291), size := 1, bytes := 8, zero := [(.base (.map none))] }
def ti121 : TI := { kind := (.slice 211), size := 1, bytes := 24, zero := [(.base (.slice none 0 0))] }
def ti122 : TI := { kind := (.int .u32), size := 1, bytes := 4, zero := [(.int .u32 0)] }
def ti123 : TI := { kind := (.struct [(0, 59, 3, true), (3, 54, 1, true), (4, 111, 1, true), (5, 108, 1, true), (6, 114, 1, true), (7, 116, 1, true), (8, 118, 1, true), (9, 121, 1, true), (10, 120, 1, true), (11, 122, 1, true), (12, 3, 1, true)]), size := 13, bytes := 152, zero := [(.int .i64 0), (.int .i64 0), (.int .i64 0), (.base (.slice none 0 0)), (.base (.slice none 0 0)), (.bool false), (.base (.pointer none)), (.base (.pointer none)), (.base (.pointer none)), (.base (.slice none 0 0)), (.base (.map none)), (.int .u32 0), (.int .i64 0)] }
def ti124 : TI := { kind := (.struct [(0, 59, 3, true), (3, 54, 1, true), (4, 111, 1, true), (5, 108, 1, true), (6, 114, 1, true), (7, 116, 1, true), (8, 118, 1, true), (9, 121, 1, true), (10, 120, 1, true), (11, 122, 1, true), (12, 3, 1, true)]), size := 13, bytes := 152, zero := [(.int .i64 0), (.int .i64 0), (.int .i64 0), (.base (.slice none 0 0)), (.base (.slice none 0 0)), (.bool false), (.base (.pointer none)), (.base (.pointer none)), (.base (.pointer none)), (.base (.slice none 0 0)), (.base (.map none)), (.int .u32 0), (.int .i64 0)] }
def ti125 : TI := { kind := .func, size := 1, bytes := 8, zero := [(.base .nilFunc)] }
def ti126 : TI := { kind := .func, size := 1, bytes := 8, zero := [(.base .nilFunc)] }
def ti127 : TI := { kind := (.ptr 140), size := 1, bytes := 8, zero := [(.base (.pointer none))] }
def ti129 : TI := { kind := .func, size := 1, bytes := 8, zero := [(.base .nilFunc)] }
def ti130 : TI := { kind := .func, size := 1, bytes := 8, zero := [(.base .nilFunc)] }
def ti131 : TI := { kind := .func, size := 1, bytes := 8, zero := [(.base .nilFunc)] }
def ti132 : TI := { kind := (.slice 4), size := 1, bytes := 24, zero := [(.base (.slice none 0 0))] }
def ti133 : TI := { kind := (.struct [(0, 3, 1, true), (1, 122, 1, true)]), size := 2, bytes := 16, zero := [(.int .i64 0), (.int .u32 0)] }
def ti134 : TI := { kind := (.struct [(0, 3, 1, true), (1, 122, 1, true)]), size := 2, bytes := 16, zero := [(.int .i64 0), (.int .u32 0)] }
def ti135 : TI := { kind := (.array 3 134), size := 6, bytes := 48, zero := [(.int .i64 0), (.int .u32 0), (.int .i64 0), (.int .u32 0), (.int .i64 0), (.int .u32 0)] }
def ti136 : TI := { kind := (.slice 147), size := 1, bytes := 24, zero := [(.base (.slice none 0 0))] }
def ti137 : TI := { kind := (.struct [(0, 135, 6, true), (6, 136, 1, true), (7, 3, 1, true)]), size := 8, bytes := 80, zero := [(.int .i64 0), (.int .u32 0), (.int .i64 0), (.int .u32 0), (.int .i64 0), (.int .u32 0), (.base (.slice none 0 0)), (.int .i64 0)] }
def ti138 : TI := { kind := (.struct [(0, 135, 6, true), (6, 136, 1, true), (7, 3, 1, true)]), size := 8, bytes := 80, zero := [(.int .i64 0), (.int .u32 0), (.int .i64 0), (.int .u32 0), (.int .i64 0), (.int .u32 0), (.base (.slice none 0 0)), (.int .i64 0)] }
def ti139 : TI := { kind := (.struct [(0, 55, 1, true), (1, 25, 4, true), (5, 22, 1, true), (6, 138, 8, true), (14, 132, 1, true)]), size := 15, bytes := 192, zero := [(.base (.pointer none)), (.bool false), (.bool false), (.base (.slice none 0 0)), (.base (.slice none 0 0)), (.base (.slice none 0 0)), (.int .i64 0), (.int .u32 0), (.int .i64 0), (.int .u32 0), (.int .i64 0), (.int .u32 0), (.base (.slice none 0 0)), (.int .i64 0), (.base (.slice none 0 0))] }
def ti140 : TI := { kind := (.struct [(0, 55, 1, true), (1, 25, 4, true), (5, 22, 1, true), (6, 138, 8, true), (14, 132, 1, true)]), size := 15, bytes := 192, zero := [(.base (.pointer none)), (.bool false), (.bool false), (.base (.slice none 0 0)), (.base (.slice none 0 0)), (.base (.slice none 0 0)), (.int .i64 0), (.int .u32 0), (.int .i64 0), (.int .u32 0), (.int .i64 0), (.int .u32 0), (.base (.slice none 0 0)), (.int .i64 0), (.base (.slice none 0 0))] }
def ti141 : TI := { kind := (.slice 3), size := 1, bytes := 24, zero := [(.base (.slice none 0 0))] }
def ti142 : TI := { kind := .func, size := 1, bytes := 8, zero := [(.base .nilFunc)] }
def ti143 : TI := { kind := (.slice 231), size := 1, bytes := 24, zero := [(.base (.slice none 0 0))] }
def ti144 : TI := { kind := .func, size := 1, bytes := 8, zero := [(.base .nilFunc)] }
def ti145 : TI := { kind := (.int .i64), size := 1, bytes := 8, zero := [(.int .i64 0)] }
def ti146 : TI := { kind := (.struct [(0, 145, 1, true), (1, 135, 6, true), (7, 134, 2, true), (9, 134, 2, true)]), size := 11, bytes := 88, zero := [(.int .i64 0), (.int .i64 0), (.int .u32 0), (.int .i64 0), (.int .u32 0), (.int .i64 0), (.int .u32 0), (.int .i64 0), (.int .u32 0), (.int .i64 0), (.int .u32 0)] }
def ti147 : TI := { kind := (.struct [(0, 145, 1, true), (1, 135, 6, true), (7, 134, 2, true), (9, 134, 2, true)]), size := 11, bytes := 88, zero := [(.int .i64 0), (.int .i64 0), (.int .u32 0), (.int .i64 0), (.int .u32 0), (.int .i64 0), (.int .u32 0), (.int .i64 0), (.int .u32 0), (.int .i64 0), (.int .u32 0)] }
def ti148 : TI := { kind := .func, size := 1, bytes := 8, zero := [(.base .nilFunc)] }
def ti149 : TI := { kind := .func, size := 1, bytes := 8, zero := [(.base .nilFunc)] }
def ti150 : TI := { kind := .func, size := 1, bytes := 8, zero := [(.base .nilFunc)] }
def ti151 : TI := { kind := (.slice 122), size := 1, bytes := 24, zero := [(.base (.slice none 0 0))] }
def ti152 : TI := { kind := .func, size := 1, bytes := 8, zero := [(.base .nilFunc)] }
def ti153 : TI := { kind := .func, size := 1, bytes := 8, zero := [(.base .nilFunc)] }
def ti154 : TI := { kind := .func, size := 1, bytes := 8, zero := [(.base .nilFunc)] }
def ti155 : TI := { kind := .func, size := 1, bytes := 8, zero := [(.base .nilFunc)] }
def ti156 : TI := { kind := (.int .u64), size := 1, bytes := 8, zero := [(.int .u64 0)] }
def ti157 : TI := { kind := .func, size := 1, bytes := 8, zero := [(.base .nilFunc)] }
def ti158 : TI := { kind := .func, size := 1, bytes := 8, zero := [(.base .nilFunc)] }
def ti159 : TI := { kind := .func, size := 1, bytes := 8, zero := [(.base .nilFunc)] }
def ti160 : TI := { kind := .func, size := 1, bytes := 8, zero := [(.base .nilFunc)] }
def ti161 : TI := { kind := .func, size := 1, bytes := 8, zero := [(.base .nilFunc)] }
def ti162 : TI := { kind := .func, size := 1, bytes := 8, zero := [(.base .nilFunc)] }
def ti163 : TI := { kind := (.slice 49), size := 1, bytes := 24, zero := [(.base (.slice none 0 0))] }
def ti164 : TI := { kind := (.ptr 167), size := 1, bytes := 8, zero := [(.base (.pointer none))] }
def ti165 : TI := { kind := (.slice 5), size := 1, bytes := 24, zero := [(.base (.slice none 0 0))] }
def ti166 : TI := { kind := (.struct [(0, 164, 1, true), (1, 165, 1, true)]), size := 2, bytes := 32, zero := [(.base (.pointer none)), (.base (.slice none 0 0))] }
def ti167 : TI := { kind := (.struct [(0, 164, 1, true), (1, 165, 1, true)]), size := 2, bytes := 32, zero := [(.base (.pointer none)), (.base (.slice none 0 0))] }
def ti168 : TI := { kind := .func, size := 1, bytes := 8, zero := [(.base .nilFunc)] }
def ti169 : TI := { kind := .iface, size := 1, bytes := 16, zero := [(.base .nilIface)] }
def ti170 : TI := { kind := .iface, size := 1, bytes := 16, zero := [(.base .nilIface)] }
def ti172 : TI := { kind := .func, size := 1, bytes := 8, zero := [(.base .nilFunc)] }
def ti173 : TI := { kind := .func, size := 1, bytes := 8, zero := [(.base .nilFunc)] }
def ti174 : TI := { kind := (.slice 268), size := 1, bytes := 24, zero := [(.base (.slice none 0 0))] }
def ti176 : TI := { kind := .func, size := 1, bytes := 8, zero := [(.base .nilFunc)] }
def ti177 : TI := { kind := .func, size := 1, bytes := 8, zero := [(.base .nilFunc)] }
def ti178 : TI := { kind := .func, size := 1, bytes := 8, zero := [(.base .nilFunc)] }
def ti179 : TI := { kind := .func, size := 1, bytes := 8, zero := [(.base .nilFunc)] }
def ti180 : TI := { kind := .func, size := 1, bytes := 8, zero := [(.base .nilFunc)] }
def ti181 : TI := { kind := .func, size := 1, bytes := 8, zero := [(.base .nilFunc)] }
def ti182 : TI := { kind := .func, size := 1, bytes := 8, zero := [(.base .nilFunc)] }
def ti183 : TI := { kind := .func, size := 1, bytes := 8, zero := [(.base .nilFunc)] }
def ti184 : TI := { kind := .func, size := 1, bytes := 8, zero := [(.base .nilFunc)] }
def ti185 : TI := { kind := (.ptr 191), size := 1, bytes := 8, zero := [(.base (.pointer none))] }
def ti187 : TI := { kind := .func, size := 1, bytes := 8, zero := [(.base .nilFunc)] }
def ti188 : TI := { kind := (.map 47 3), size := 1, bytes := 8, zero := [(.base (.map none))] }
def ti189 : TI := { kind := (.slice 348), size := 1, bytes := 24, zero := [(.base (.slice none 0 0))] }
def ti190 : TI := { kind := (.struct [(0, 40, 1, true), (1, 188, 1, true), (2, 189, 1, true)]), size := 3, bytes := 56, zero := [(.base (.slice none 0 0)), (.base (.map none)), (.base (.slice none 0 0))] }
def ti191 : TI := { kind := (.struct [(0, 40, 1, true), (1, 188, 1, true), (2, 189, 1, true)]), size := 3, bytes := 56, zero := [(.base (.slice none 0 0)), (.base (.map none)), (.base (.slice none 0 0))] }
def ti192 : TI := { kind := (.struct [(0, 3, 1, true), (1, 165, 1, true), (2, 141, 1, true), (3, 151, 1, true)]), size := 4, bytes := 80, zero := [(.int .i64 0), (.base (.slice none 0 0)), (.base (.slice none 0 0)), (.base (.slice none 0 0))] }
def ti193 : TI := { kind := (.struct [(0, 3, 1, true), (1, 165, 1, true), (2, 141, 1, true), (3, 151, 1, true)]), size := 4, bytes := 80, zero := [(.int .i64 0), (.base (.slice none 0 0)), (.base (.slice none 0 0)), (.base (.slice none 0 0))] }
def ti194 : TI := { kind := (.map 303 3), size := 1, bytes := 8, zero := [(.base (.map none))] }
def ti195 : TI := { kind := (.map 303 141), size := 1, bytes := 8, zero := [(.base (.map none))] }
def ti196 : TI := { kind := (.slice 303), size := 1, bytes := 24, zero := [(.base (.slice none 0 0))] }
def ti197 : TI := { kind := (.slice 293), size := 1, bytes := 24, zero := [(.base (.slice none 0 0))] }
def ti198 : TI := { kind := (.map 122 3), size := 1, bytes := 8, zero := [(.base (.map none))] }
def ti199 : TI := { kind := (.array 3 198), size := 3, bytes := 24, zero := [(.base (.map none)), (.base (.map none)), (.base (.map none))] }
def ti200 : TI := { kind := (.struct [(0, 196, 1, true), (1, 197, 1, true), (2, 194, 1, true), (3, 195, 1, true), (4, 199, 3, true), (7, 3, 1, true)]), size := 8, bytes := 96, zero := [(.base (.slice none 0 0)), (.base (.slice none 0 0)), (.base (.map none)), (.base (.map none)), (.base (.map none)), (.base (.map none)), (.base (.map none)), (.int .i64 0)] }
def ti201 : TI := { kind := (.struct [(0, 196, 1, true), (1, 197, 1, true), (2, 194, 1, true), (3, 195, 1, true), (4, 199, 3, true), (7, 3, 1, true)]), size := 8, bytes := 96, zero := [(.base (.slice none 0 0)), (.base (.slice none 0 0)), (.base (.map none)), (.base (.map none)), (.base (.map none)), (.base (.map none)), (.base (.map none)), (.int .i64 0)] }
def ti202 : TI := { kind := (.map 122 122), size := 1, bytes := 8, zero := [(.base (.map none))] }
def ti203 : TI := { kind := (.map 122 151), size := 1, bytes := 8, zero := [(.base (.map none))] }
def ti204 : TI := { kind := (.struct [(0, 202, 1, true), (1, 203, 1, true)]), size := 2, bytes := 16, zero := [(.base (.map none)), (.base (.map none))] }
def ti205 : TI := { kind := (.struct [(0, 202, 1, true), (1, 203, 1, true)]), size := 2, bytes := 16, zero := [(.base (.map none)), (.base (.map none))] }
def ti206 : TI := { kind := .func, size := 1, bytes := 8, zero := [(.base .nilFunc)] }
def ti208 : TI := { kind := .func, size := 1, bytes := 8, zero := [(.base .nilFunc)] }
def ti209 : TI := { kind := (.slice 287), size := 1, bytes := 24, zero := [(.base (.slice none 0 0))] }
def ti210 : TI := { kind := (.struct [(0, 138, 8, true), (8, 3, 1, true), (9, 209, 1, true), (10, 151, 1, true)]), size := 11, bytes := 136, zero := [(.int .i64 0), (.int .u32 0), (.int .i64 0), (.int .u32 0), (.int .i64 0), (.int .u32 0), (.base (.slice none 0 0)), (.int .i64 0), (.int .i64 0), (.base (.slice none 0 0)), (.base (.slice none 0 0))] }
def ti211 : TI := { kind := (.struct [(0, 138, 8, true), (8, 3, 1, true), (9, 209, 1, true), (10, 151, 1, true)]), size := 11, bytes := 136, zero := [(.int .i64 0), (.int .u32 0), (.int .i64 0), (.int .u32 0), (.int .i64 0), (.int .u32 0), (.base (.slice none 0 0)), (.int .i64 0), (.int .i64 0), (.base (.slice none 0 0)), (.base (.slice none 0 0))] }
def ti212 : TI := { kind := .func, size := 1, bytes := 8, zero := [(.base .nilFunc)] }
def ti214 : TI := { kind := .func, size := 1, bytes := 8, zero := [(.base .nilFunc)] }
def ti215 : TI := { kind := .func, size := 1, bytes := 8, zero := [(.base .nilFunc)] }
def ti216 : TI := { kind := .func, size := 1, bytes := 8, zero := [(.base .nilFunc)] }
def ti217 : TI := { kind := .func, size := 1, bytes := 8, zero := [(.base .nilFunc)] }
def ti219 : TI := { kind := .func, size := 1, bytes := 8, zero := [(.base .nilFunc)] }
def ti220 : TI := { kind := .func, size := 1, bytes := 8, zero := [(.base .nilFunc)] }
def ti221 : TI := { kind := .func, size := 1, bytes := 8, zero := [(.base .nilFunc)] }
def ti222 : TI := { kind := .func, size := 1, bytes := 8, zero := [(.base .nilFunc)] }
def ti223 : TI := { kind := (.float .f64), size := 1, bytes := 8, zero := [(.base (.float .f64 0))] }
def ti224 : TI := { kind := .func, size := 1, bytes := 8, zero := [(.base .nilFunc)] }
def ti225 : TI := { kind := .func, size := 1, bytes := 8, zero := [(.base .nilFunc)] }
def ti226 : TI := { kind := .func, size := 1, bytes := 8, zero := [(.base .nilFunc)] }
def ti227 : TI := { kind := .func, size := 1, bytes := 8, zero := [(.base .nilFunc)] }
def ti228 : TI := { kind := (.array 3 3), size := 3, bytes := 24, zero := [(.int .i64 0), (.int .i64 0), (.int .i64 0)] }
def ti229 : TI := { kind := (.array 3 223), size := 3, bytes := 24, zero := [(.base (.float .f64 0)), (.base (.float .f64 0)), (.base (.float .f64 0))] }
def ti230 : TI := { kind := (.struct [(0, 223, 1, true), (1, 228, 3, true), (4, 229, 3, true)]), size := 7, bytes := 56, zero := [(.base (.float .f64 0)), (.int .i64 0), (.int .i64 0), (.int .i64 0), (.base (.float .f64 0)), (.base (.float .f64 0)), (.base (.float .f64 0))] }
def ti231 : TI := { kind := (.struct [(0, 223, 1, true), (1, 228, 3, true), (4, 229, 3, true)]), size := 7, bytes := 56, zero := [(.base (.float .f64 0)), (.int .i64 0), (.int .i64 0), (.int .i64 0), (.base (.float .f64 0)), (.base (.float .f64 0)), (.base (.float .f64 0))] }
def ti232 : TI := { kind := (.slice 313), size := 1, bytes := 24, zero := [(.base (.slice none 0 0))] }
def ti233 : TI := { kind := .func, size := 1, bytes := 8, zero := [(.base .nilFunc)] }
def ti234 : TI := { kind := .func, size := 1, bytes := 8, zero := [(.base .nilFunc)] }
def ti235 : TI := { kind := (.ptr 311), size := 1, bytes := 8, zero := [(.base (.pointer none))] }
def ti236 : TI := { kind := .func, size := 1, bytes := 8, zero := [(.base .nilFunc)] }
def ti237 : TI := { kind := .func, size := 1, bytes := 8, zero := [(.base .nilFunc)] }
def ti238 : TI := { kind := .func, size := 1, bytes := 8, zero := [(.base .nilFunc)] }
def ti239 : TI := { kind := .func, size := 1, bytes := 8, zero := [(.base .nilFunc)] }
def ti241 : TI := { kind := .func, size := 1, bytes := 8, zero := [(.base .nilFunc)] }
def ti242 : TI := { kind := .func, size := 1, bytes := 8, zero := [(.base .nilFunc)] }
def ti243 : TI := { kind := (.int .i64), size := 1, bytes := 8, zero := [(.int .i64 0)] }
def ti245 : TI := { kind := .func, size := 1, bytes := 8, zero := [(.base .nilFunc)] }
def ti246 : TI := { kind := .func, size := 1, bytes := 8, zero := [(.base .nilFunc)] }
def ti247 : TI := { kind := .func, size := 1, bytes := 8, zero := [(.base .nilFunc)] }
def ti249 : TI := { kind := .func, size := 1, bytes := 8, zero := [(.base .nilFunc)] }
def ti250 : TI := { kind := .func, size := 1, bytes := 8, zero := [(.base .nilFunc)] }
def ti251 : TI := { kind := .func, size := 1, bytes := 8, zero := [(.base .nilFunc)] }
def ti252 : TI := { kind := (.int .u64), size := 1, bytes := 8, zero := [(.int .u64 0)] }
def ti253 : TI := { kind := .func, size := 1, bytes := 8, zero := [(.base .nilFunc)] }
def ti254 : TI := { kind := .func, size := 1, bytes := 8, zero := [(.base .nilFunc)] }
def ti255 : TI := { kind := .func, size := 1, bytes := 8, zero := [(.base .nilFunc)] }
def ti256 : TI := { kind := .func, size := 1, bytes := 8, zero := [(.base .nilFunc)] }
def ti257 : TI := { kind := .func, size := 1, bytes := 8, zero := [(.base .nilFunc)] }
def ti258 : TI := { kind := (.map 65 173), size := 1, bytes := 8, zero := [(.base (.map none))] }
def ti259 : TI := { kind := .func, size := 1, bytes := 8, zero := [(.base .nilFunc)] }
def ti260 : TI := { kind := .func, size := 1, bytes := 8, zero := [(.base .nilFunc)] }
def ti261 : TI := { kind := .func, size := 1, bytes := 8, zero := [(.base .nilFunc)] }
def ti262 : TI := { kind := .func, size := 1, bytes := 8, zero := [(.base .nilFunc)] }
def ti263 : TI := { kind := .func, size := 1, bytes := 8, zero := [(.base .nilFunc)] }
def ti264 : TI := { kind := (.ptr 5), size := 1, bytes := 8, zero := [(.base (.pointer none))] }
def ti266 : TI := { kind := .func, size := 1, bytes := 8, zero := [(.base .nilFunc)] }
def ti267 : TI := { kind := (.struct [(0, 3, 1, true), (1, 3, 1, true)]), size := 2, bytes := 16, zero := [(.int .i64 0), (.int .i64 0)] }
def ti268 : TI := { kind := (.struct [(0, 3, 1, true), (1, 3, 1, true)]), size := 2, bytes := 16, zero := [(.int .i64 0), (.int .i64 0)] }
def ti269 : TI := { kind := (.map 9 273), size := 1, bytes := 8, zero := [(.base (.map none))] }
def ti270 : TI := { kind := .func, size := 1, bytes := 8, zero := [(.base .nilFunc)] }
def ti271 : TI := { kind := .func, size := 1, bytes := 8, zero := [(.base .nilFunc)] }
def ti272 : TI := { kind := .func, size := 1, bytes := 8, zero := [(.base .nilFunc)] }
def ti273 : TI := { kind := (.struct [(0, 4, 1, true)]), size := 1, bytes := 1, zero := [(.bool false)] }
def ti274 : TI := { kind := .func, size := 1, bytes := 8, zero := [(.base .nilFunc)] }
def ti275 : TI := { kind := .func, size := 1, bytes := 8, zero := [(.base .nilFunc)] }
def ti276 : TI := { kind := .func, size := 1, bytes := 8, zero := [(.base .nilFunc)] }
def ti278 : TI := { kind := .func, size := 1, bytes := 8, zero := [(.base .nilFunc)] }
def ti279 : TI := { kind := (.ptr 282), size := 1, bytes := 8, zero := [(.base (.pointer none))] }
def ti280 : TI := { kind := .func, size := 1, bytes := 8, zero := [(.base .nilFunc)] }
def ti281 : TI := { kind := (.struct [(0, 114, 1, true), (1, 22, 1, true), (2, 32, 1, true)]), size := 3, bytes := 40, zero := [(.base (.pointer none)), (.base (.slice none 0 0)), (.int .i64 0)] }
def ti282 : TI := { kind := (.struct [(0, 114, 1, true), (1, 22, 1, true), (2, 32, 1, true)]), size := 3, bytes := 40, zero := [(.base (.pointer none)), (.base (.slice none 0 0)), (.int .i64 0)] }
def ti283 : TI := { kind := .func, size := 1, bytes := 8, zero := [(.base .nilFunc)] }
def ti284 : TI := { kind := .func, size := 1, bytes := 8, zero := [(.base .nilFunc)] }
def ti285 : TI := { kind := .func, size := 1, bytes := 8, zero := [(.base .nilFunc)] }
def ti286 : TI := { kind := (.struct [(0, 3, 1, true), (1, 3, 1, true), (2, 4, 1, true)]), size := 3, bytes := 24, zero := [(.int .i64 0), (.int .i64 0), (.bool false)] }
def ti287 : TI := { kind := (.struct [(0, 3, 1, true), (1, 3, 1, true), (2, 4, 1, true)]), size := 3, bytes := 24, zero := [(.int .i64 0), (.int .i64 0), (.bool false)] }
def ti288 : TI := { kind := .func, size := 1, bytes := 8, zero := [(.base .nilFunc)] }
def ti289 : TI := { kind := .func, size := 1, bytes := 8, zero := [(.base .nilFunc)] }
def ti290 : TI := { kind := .func, size := 1, bytes := 8, zero := [(.base .nilFunc)] }
def ti291 : TI := { kind := (.struct [(0, 4, 1, true)]), size := 1, bytes := 1, zero := [(.bool false)] }
def ti292 : TI := { kind := .func, size := 1, bytes := 8, zero := [(.base .nilFunc)] }
def ti293 : TI := { kind := (.int .u8), size := 1, bytes := 1, zero := [(.int .u8 0)] }
def ti294 : TI := { kind := .func, size := 1, bytes := 8, zero := [(.base .nilFunc)] }
def ti296 : TI := { kind := .func, size := 1, bytes := 8, zero := [(.base .nilFunc)] }
def ti297 : TI := { kind := .func, size := 1, bytes := 8, zero := [(.base .nilFunc)] }
def ti298 : TI := { kind := (.map 3 300), size := 1, bytes := 8, zero := [(.base (.map none))] }
def ti299 : TI := { kind := .func, size := 1, bytes := 8, zero := [(.base .nilFunc)] }
def ti300 : TI := { kind := (.struct [(0, 4, 1, true)]), size := 1, bytes := 1, zero := [(.bool false)] }
def ti301 : TI := { kind := .func, size := 1, bytes := 8, zero := [(.base .nilFunc)] }
def ti302 : TI := { kind := (.array 3 122), size := 3, bytes := 12, zero := [(.int .u32 0), (.int .u32 0), (.int .u32 0)] }
def ti303 : TI := { kind := (.array 3 122), size := 3, bytes := 12, zero := [(.int .u32 0), (.int .u32 0), (.int .u32 0)] }
def ti304 : TI := { kind := .func, size := 1, bytes := 8, zero := [(.base .nilFunc)] }
def ti305 : TI := { kind := .func, size := 1, bytes := 8, zero := [(.base .nilFunc)] }
def ti306 : TI := { kind := .func, size := 1, bytes := 8, zero := [(.base .nilFunc)] }
def ti307 : TI := { kind := (.map 3 309), size := 1, bytes := 8, zero := [(.base (.map none))] }
def ti308 : TI := { kind := (.slice 134), size := 1, bytes := 24, zero := [(.base (.slice none 0 0))] }
def ti309 : TI := { kind := (.struct [(0, 4, 1, true)]), size := 1, bytes := 1, zero := [(.bool false)] }
def ti310 : TI := { kind := (.struct [(0, 116, 1, true), (1, 138, 8, true), (9, 232, 1, true), (10, 151, 1, true), (11, 3, 1, true)]), size := 12, bytes := 144, zero := [(.base (.pointer none)), (.int .i64 0), (.int .u32 0), (.int .i64 0), (.int .u32 0), (.int .i64 0), (.int .u32 0), (.base (.slice none 0 0)), (.int .i64 0), (.base (.slice none 0 0)), (.base (.slice none 0 0)), (.int .i64 0)] }
def ti311 : TI := { kind := (.struct [(0, 116, 1, true), (1, 138, 8, true), (9, 232, 1, true), (10, 151, 1, true), (11, 3, 1, true)]), size := 12, bytes := 144, zero := [(.base (.pointer none)), (.int .i64 0), (.int .u32 0), (.int .i64 0), (.int .u32 0), (.int .i64 0), (.int .u32 0), (.base (.slice none 0 0)), (.int .i64 0), (.base (.slice none 0 0)), (.base (.slice none 0 0)), (.int .i64 0)] }
def ti312 : TI := { kind := (.struct [(0, 3, 1, true), (1, 3, 1, true), (2, 293, 1, true)]), size := 3, bytes := 24, zero := [(.int .i64 0), (.int .i64 0), (.int .u8 0)] }
def ti313 : TI := { kind := (.struct [(0, 3, 1, true), (1, 3, 1, true), (2, 293, 1, true)]), size := 3, bytes := 24, zero := [(.int .i64 0), (.int .i64 0), (.int .u8 0)] }
def ti314 : TI := { kind := .func, size := 1, bytes := 8, zero := [(.base .nilFunc)] }
def ti315 : TI := { kind := (.slice 319), size := 1, bytes := 24, zero := [(.base (.slice none 0 0))] }
def ti316 : TI := { kind := .func, size := 1, bytes := 8, zero := [(.base .nilFunc)] }
def ti317 : TI := { kind := .func, size := 1, bytes := 8, zero := [(.base .nilFunc)] }
def ti318 : TI := { kind := (.struct [(0, 3, 1, true), (1, 196, 1, true), (2, 141, 1, true)]), size := 3, bytes := 56, zero := [(.int .i64 0), (.base (.slice none 0 0)), (.base (.slice none 0 0))] }
def ti319 : TI := { kind := (.struct [(0, 3, 1, true), (1, 196, 1, true), (2, 141, 1, true)]), size := 3, bytes := 56, zero := [(.int .i64 0), (.base (.slice none 0 0)), (.base (.slice none 0 0))] }
def ti320 : TI := { kind := .func, size := 1, bytes := 8, zero := [(.base .nilFunc)] }
def ti321 : TI := { kind := (.ptr 319), size := 1, bytes := 8, zero := [(.base (.pointer none))] }
def ti322 : TI := { kind := .func, size := 1, bytes := 8, zero := [(.base .nilFunc)] }
def ti323 : TI := { kind := .func, size := 1, bytes := 8, zero := [(.base .nilFunc)] }
def ti324 : TI := { kind := .func, size := 1, bytes := 8, zero := [(.base .nilFunc)] }
def ti325 : TI := { kind := .func, size := 1, bytes := 8, zero := [(.base .nilFunc)] }
def ti326 : TI := { kind := .func, size := 1, bytes := 8, zero := [(.base .nilFunc)] }
def ti327 : TI := { kind := .func, size := 1, bytes := 8, zero := [(.base .nilFunc)] }
def ti328 : TI := { kind := .func, size := 1, bytes := 8, zero := [(.base .nilFunc)] }
def ti329 : TI := { kind := .func, size := 1, bytes := 8, zero := [(.base .nilFunc)] }
def ti330 : TI := { kind := (.int .u64), size := 1, bytes := 8, zero := [(.int .u64 0)] }
def ti331 : TI := { kind := .func, size := 1, bytes := 8, zero := [(.base .nilFunc)] }
def ti332 : TI := { kind := .func, size := 1, bytes := 8, zero := [(.base .nilFunc)] }
def ti333 : TI := { kind := .func, size := 1, bytes := 8, zero := [(.base .nilFunc)] }
def ti334 : TI := { kind := (.ptr 3), size := 1, bytes := 8, zero := [(.base (.pointer none))] }
def ti335 : TI := { kind := .func, size := 1, bytes := 8, zero := [(.base .nilFunc)] }
def ti336 : TI := { kind := .func, size := 1, bytes := 8, zero := [(.base .nilFunc)] }
def ti337 : TI := { kind := .func, size := 1, bytes := 8, zero := [(.base .nilFunc)] }
def ti339 : TI := { kind := .func, size := 1, bytes := 8, zero := [(.base .nilFunc)] }
def ti340 : TI := { kind := .func, size := 1, bytes := 8, zero := [(.base .nilFunc)] }
def ti341 : TI := { kind := (.map 5 5), size := 1, bytes := 8, zero := [(.base (.map none))] }
def ti344 : TI := { kind := .func, size := 1, bytes := 8, zero := [(.base .nilFunc)] }
def ti345 : TI := { kind := .func, size := 1, bytes := 8, zero := [(.base .nilFunc)] }
def ti346 : TI := { kind := .func, size := 1, bytes := 8, zero := [(.base .nilFunc)] }
def ti347 : TI := { kind := .func, size := 1, bytes := 8, zero := [(.base .nilFunc)] }
def ti348 : TI := { kind := (.slice 350), size := 1, bytes := 24, zero := [(.base (.slice none 0 0))] }
def ti349 : TI := { kind := (.struct [(0, 3, 1, true), (1, 4, 1, true)]), size := 2, bytes := 16, zero := [(.int .i64 0), (.bool false)] }
def ti350 : TI := { kind := (.struct [(0, 3, 1, true), (1, 4, 1, true)]), size := 2, bytes := 16, zero := [(.int .i64 0), (.bool false)] }
def ti351 : TI := { kind := .func, size := 1, bytes := 8, zero := [(.base .nilFunc)] }
def ti352 : TI := { kind := .func, size := 1, bytes := 8, zero := [(.base .nilFunc)] }
def ti353 : TI := { kind := .func, size := 1, bytes := 8, zero := [(.base .nilFunc)] }
def ti354 : TI := { kind := .func, size := 1, bytes := 8, zero := [(.base .nilFunc)] }
def ti355 : TI := { kind := .func, size := 1, bytes := 8, zero := [(.base .nilFunc)] }
def ti356 : TI := { kind := .func, size := 1, bytes := 8, zero := [(.base .nilFunc)] }
def ti357 : TI := { kind := .func, size := 1, bytes := 8, zero := [(.base .nilFunc)] }
def ti358 : TI := { kind := .func, size := 1, bytes := 8, zero := [(.base .nilFunc)] }
def ti359 : TI := { kind := .func, size := 1, bytes := 8, zero := [(.base .nilFunc)] }
def ti360 : TI := { kind := .func, size := 1, bytes := 8, zero := [(.base .nilFunc)] }
def ti361 : TI := { kind := .func, size := 1, bytes := 8, zero := [(.base .nilFunc)] }
def ti362 : TI := { kind := .func, size := 1, bytes := 8, zero := [(.base .nilFunc)] }
def ti363 : TI := { kind := .func, size := 1, bytes := 8, zero := [(.base .nilFunc)] }
def ti364 : TI := { kind := .func, size := 1, bytes := 8, zero := [(.base .nilFunc)] }
def ti366 : TI := { kind := .func, size := 1, bytes := 8, zero := [(.base .nilFunc)] }
def ti367 : TI := { kind := .func, size := 1, bytes := 8, zero := [(.base .nilFunc)] }
def ti368 : TI := { kind := .func, size := 1, bytes := 8, zero := [(.base .nilFunc)] }
def ti369 : TI := { kind := .func, size := 1, bytes := 8, zero := [(.base .nilFunc)] }
def ti370 : TI := { kind := .func, size := 1, bytes := 8, zero := [(.base .nilFunc)] }
def ti371 : TI := { kind := .func, size := 1, bytes := 8, zero := [(.base .nilFunc)] }
def ti372 : TI := { kind := .func, size := 1, bytes := 8, zero := [(.base .nilFunc)] }
def ti373 : TI := { kind := .func, size := 1, bytes := 8, zero := [(.base .nilFunc)] }
def ti374 : TI := { kind := .func, size := 1, bytes := 8, zero := [(.base .nilFunc)] }
def ti375 : TI := { kind := .func, size := 1, bytes := 8, zero := [(.base .nilFunc)] }
def ti376 : TI := { kind := .func, size := 1, bytes := 8, zero := [(.base .nilFunc)] }
def ti377 : TI := { kind := .func, size := 1, bytes := 8, zero := [(.base .nilFunc)] }
def ti379 : TI := { kind := (.ptr 330), size := 1, bytes := 8, zero := [(.base (.pointer none))] }
def ti380 : TI := { kind := .func, size := 1, bytes := 8, zero := [(.base .nilFunc)] }
def ti381 : TI := { kind := .func, size := 1, bytes := 8, zero := [(.base .nilFunc)] }
def ti382 : TI := { kind := .func, size := 1, bytes := 8, zero := [(.base .nilFunc)] }
def ti383 : TI := { kind := .func, size := 1, bytes := 8, zero := [(.base .nilFunc)] }
def ti384 : TI := { kind := .func, size := 1, bytes := 8, zero := [(.base .nilFunc)] }
def ti385 : TI := { kind := .func, size := 1, bytes := 8, zero := [(.base .nilFunc)] }
def ti386 : TI := { kind := .func, size := 1, bytes := 8, zero := [(.base .nilFunc)] }
def ti387 : TI := { kind := .func, size := 1, bytes := 8, zero := [(.base .nilFunc)] }
def ti388 : TI := { kind := .func, size := 1, bytes := 8, zero := [(.base .nilFunc)] }
def ti389 : TI := { kind := .func, size := 1, bytes := 8, zero := [(.base .nilFunc)] }
def ti391 : TI := { kind := .func, size := 1, bytes := 8, zero := [(.base .nilFunc)] }
def ti392 : TI := { kind := .func, size := 1, bytes := 8, zero := [(.base .nilFunc)] }
def ti393 : TI := { kind := .func, size := 1, bytes := 8, zero := [(.base .nilFunc)] }
def ti394 : TI := { kind := .func, size := 1, bytes := 8, zero := [(.base .nilFunc)] }
def ti395 : TI := { kind := .func, size := 1, bytes := 8, zero := [(.base .nilFunc)] }
def ti396 : TI := { kind := .func, size := 1, bytes := 8, zero := [(.base .nilFunc)] }
def ti398 : TI := { kind := .func, size := 1, bytes := 8, zero := [(.base .nilFunc)] }
def ti399 : TI := { kind := .func, size := 1, bytes := 8, zero := [(.base .nilFunc)] }
def ti400 : TI := { kind := .func, size := 1, bytes := 8, zero := [(.base .nilFunc)] }
def ti401 : TI := { kind := .func, size := 1, bytes := 8, zero := [(.base .nilFunc)] }
def ti402 : TI := { kind := .func, size := 1, bytes := 8, zero := [(.base .nilFunc)] }
def ti403 : TI := { kind := .func, size := 1, bytes := 8, zero := [(.base .nilFunc)] }
def ti404 : TI := { kind := .func, size := 1, bytes := 8, zero := [(.base .nilFunc)] }
def ti405 : TI := { kind := .func, size := 1, bytes := 8, zero := [(.base .nilFunc)] }
def ti406 : TI := { kind := .func, size := 1, bytes := 8, zero := [(.base .nilFunc)] }
def ti407 : TI := { kind := .func, size := 1, bytes := 8, zero := [(.base .nilFunc)] }
def ti408 : TI := { kind := .func, size := 1, bytes := 8, zero := [(.base .nilFunc)] }
def ti409 : TI := { kind := .func, size := 1, bytes := 8, zero := [(.base .nilFunc)] }
def ti410 : TI := { kind := .func, size := 1, bytes := 8, zero := [(.base .nilFunc)] }
def ti411 : TI := { kind := .func, size := 1, bytes := 8, zero := [(.base .nilFunc)] }
def ti412 : TI := { kind := .func, size := 1, bytes := 8, zero := [(.base .nilFunc)] }
def ti413 : TI := { kind := .func, size := 1, bytes := 8, zero := [(.base .nilFunc)] }
def ti414 : TI := { kind := .func, size := 1, bytes := 8, zero := [(.base .nilFunc)] }
def ti415 : TI := { kind := .func, size := 1, bytes := 8, zero := [(.base .nilFunc)] }
def ti416 : TI := { kind := .func, size := 1, bytes := 8, zero := [(.base .nilFunc)] }
def ti417 : TI := { kind := .func, size := 1, bytes := 8, zero := [(.base .nilFunc)] }
def ti418 : TI := { kind := .func, size := 1, bytes := 8, zero := [(.base .nilFunc)] }
def ti419 : TI := { kind := .func, size := 1, bytes := 8, zero := [(.base .nilFunc)] }
def ti420 : TI := { kind := .func, size := 1, bytes := 8, zero := [(.base .nilFunc)] }
def ti421 : TI := { kind := .func, size := 1, bytes := 8, zero := [(.base .nilFunc)] }
def ti422 : TI := { kind := .func, size := 1, bytes := 8, zero := [(.base .nilFunc)] }
def ti424 : TI := { kind := (.struct [(0, 5, 1, true), (1, 5, 1, true)]), size := 2, bytes := 2, zero := [(.int .u8 0), (.int .u8 0)] }
def ti425 : TI := { kind := (.struct [(0, 5, 1, true), (1, 5, 1, true)]), size := 2, bytes := 2, zero := [(.int .u8 0), (.int .u8 0)] }
def ti426 : TI := { kind := (.array 16 425), size := 32, bytes := 32, zero := [(.int .u8 0), (.int .u8 0), (.int .u8 0), (.int .u8 0), (.int .u8 0), (.int .u8 0), (.int .u8 0), (.int .u8 0), (.int .u8 0), (.int .u8 0), (.int .u8 0), (.int .u8 0), (.int .u8 0), (.int .u8 0), (.int .u8 0), (.int .u8 0), (.int .u8 0), (.int .u8 0), (.int .u8 0), (.int .u8 0), (.int .u8 0), (.int .u8 0), (.int .u8 0), (.int .u8 0), (.int .u8 0), (.int .u8 0), (.int .u8 0), (.int .u8 0), (.int .u8 0), (.int .u8 0), (.int .u8 0), (.int .u8 0)] }
def ti428 : TI := { kind := .func, size := 1, bytes := 8, zero := [(.base .nilFunc)] }
def ti429 : TI := { kind := .func, size := 1, bytes := 8, zero := [(.base .nilFunc)] }
def ti430 : TI := { kind := .func, size := 1, bytes := 8, zero := [(.base .nilFunc)] }
def ti431 : TI := { kind := .func, size := 1, bytes := 8, zero := [(.base .nilFunc)] }
def ti432 : TI := { kind := .func, size := 1, bytes := 8, zero := [(.base .nilFunc)] }
def ti435 : TI := { kind := (.array 0 16), size := 0, bytes := 0, zero := [] }
def ti438 : TI := { kind := (.int .u8), size := 1, bytes := 1, zero := [(.int .u8 0)] }
def ti439 : TI := { kind := (.int .u8), size := 1, bytes := 1, zero := [(.int .u8 0)] }
def ti440 : TI := { kind := .func, size := 1, bytes := 8, zero := [(.base .nilFunc)] }
def ti441 : TI := { kind := (.int .i32), size := 1, bytes := 4, zero := [(.int .i32 0)] }
def ti442 : TI := { kind := (.int .i32), size := 1, bytes := 4, zero := [(.int .i32 0)] }
def ti445 : TI := { kind := .func, size := 1, bytes := 8, zero := [(.base .nilFunc)] }
noncomputable def tys : T TI := (.node none (.node (some ti1) (.node (some ti3) (.node (some ti7) (.node (some ti15) (.node (some ti31) (.node (some ti63) (.node (some ti127) (.node (some ti255) .nil .nil) (.node (some ti383) .nil .nil)) (.node (some ti191) (.node (some ti319) .nil .nil) .nil)) (.node (some ti95) (.node (some ti159) (.node (some ti287) .nil .nil) (.node (some ti415) .nil .nil)) (.node (some ti223) (.node (some ti351) .nil .nil) .nil))) (.node (some ti47) (.node (some ti79) (.node (some ti143) (.node (some ti271) .nil .nil) (.node (some ti399) .nil .nil)) (.node none (.node (some ti335) .nil .nil) .nil)) (.node (some ti111) (.node none (.node (some ti303) .nil .nil) (.node (some ti431) .nil .nil)) (.node (some ti239) (.node (some ti367) .nil .nil) .nil)))) (.node (some ti23) (.node (some ti39) (.node (some ti71) (.node (some ti135) (.node (some ti263) .nil .nil) (.node (some ti391) .nil .nil)) (.node (some ti199) (.node (some ti327) .nil .nil) .nil)) (.node (some ti103) (.node (some ti167) (.node none .nil .nil) (.node none .nil .nil)) (.node (some ti231) (.node (some ti359) .nil .nil) .nil))) (.node (some ti55) (.node (some ti87) (.node (some ti151) (.node (some ti279) .nil .nil) (.node (some ti407) .nil .nil)) (.node (some ti215) (.node none .nil .nil) .nil)) (.node (some ti119) (.node (some ti183) (.node (some ti311) .nil .nil) (.node (some ti439) .nil .nil)) (.node (some ti247) (.node (some ti375) .nil .nil) .nil))))) (.node (some ti11) (.node none (.node none (.node (some ti67) (.node (some ti131) (.node (some ti259) .nil .nil) (.node (some ti387) .nil .nil)) (.node (some ti195) (.node (some ti323) .nil .nil) .nil)) (.node (some ti99) (.node (some ti163) (.node (some ti291) .nil .nil) (.node (some ti419) .nil .nil)) (.node (some ti227) (.node (some ti355) .nil .nil) .nil))) (.node (some ti51) (.node (some ti83) (.node (some ti147) (.node (some ti275) .nil .nil) (.node (some ti403) .nil .nil)) (.node (some ti211) (.node (some ti339) .nil .nil) .nil)) (.node (some ti115) (.node (some ti179) (.node (some ti307) .nil .nil) (.node (some ti435) .nil .nil)) (.node (some ti243) (.node (some ti371) .nil .nil) .nil)))) (.node (some ti27) (.node (some ti43) (.node (some ti75) (.node (some ti139) (.node (some ti267) .nil .nil) (.node (some ti395) .nil .nil)) (.node (some ti203) (.node (some ti331) .nil .nil) .nil)) (.node (some ti107) (.node none (.node (some ti299) .nil .nil) (.node none .nil .nil)) (.node (some ti235) (.node (some ti363) .nil .nil) .nil))) (.node (some ti59) (.node (some ti91) (.node (some ti155) (.node (some ti283) .nil .nil) (.node (some ti411) .nil .nil)) (.node (some ti219) (.node (some ti347) .nil .nil) .nil)) (.node (some ti123) (.node (some ti187) (.node (some ti315) .nil .nil) (.node none .nil .nil)) (.node (some ti251) (.node (some ti379) .nil .nil) .nil)))))) (.node (some ti5) (.node (some ti9) (.node (some ti17) (.node none (.node (some ti65) (.node (some ti129) (.node (some ti257) .nil .nil) (.node (some ti385) .nil .nil)) (.node (some ti193) (.node (some ti321) .nil .nil) .nil)) (.node (some ti97) (.node (some ti161) (.node (some ti289) .nil .nil) (.node (some ti417) .nil .nil)) (.node (some ti225) (.node (some ti353) .nil .nil) .nil))) (.node (some ti49) (.node none (.node (some ti145) (.node (some ti273) .nil .nil) (.node (some ti401) .nil .nil)) (.node (some ti209) (.node (some ti337) .nil .nil) .nil)) (.node (some ti113) (.node (some ti177) (.node (some ti305) .nil .nil) (.node none .nil .nil)) (.node (some ti241) (.node (some ti369) .nil .nil) .nil)))) (.node (some ti25) (.node none (.node (some ti73) (.node (some ti137) (.node none .nil .nil) (.node (some ti393) .nil .nil)) (.node (some ti201) (.node (some ti329) .nil .nil) .nil)) (.node (some ti105) (.node (some ti169) (.node (some ti297) .nil .nil) (.node (some ti425) .nil .nil)) (.node (some ti233) (.node (some ti361) .nil .nil) .nil))) (.node (some ti57) (.node (some ti89) (.node (some ti153) (.node (some ti281) .nil .nil) (.node (some ti409) .nil .nil)) (.node (some ti217) (.node (some ti345) .nil .nil) .nil)) (.node (some ti121) (.node (some ti185) (.node (some ti313) .nil .nil) (.node (some ti441) .nil .nil)) (.node (some ti249) (.node (some ti377) .nil .nil) .nil))))) (.node none (.node (some ti21) (.node (some ti37) (.node (some ti69) (.node (some ti133) (.node (some ti261) .nil .nil) (.node (some ti389) .nil .nil)) (.node (some ti197) (.node (some ti325) .nil .nil) .nil)) (.node (some ti101) (.node (some ti165) (.node (some ti293) .nil .nil) (.node (some ti421) .nil .nil)) (.node (some ti229) (.node (some ti357) .nil .nil) .nil))) (.node (some ti53) (.node (some ti85) (.node (some ti149) (.node none .nil .nil) (.node (some ti405) .nil .nil)) (.node none (.node (some ti341) .nil .nil) .nil)) (.node (some ti117) (.node (some ti181) (.node (some ti309) .nil .nil) (.node none .nil .nil)) (.node (some ti245) (.node (some ti373) .nil .nil) .nil)))) (.node (some ti29) (.node (some ti45) (.node (some ti77) (.node (some ti141) (.node (some ti269) .nil .nil) (.node none .nil .nil)) (.node (some ti205) (.node (some ti333) .nil .nil) .nil)) (.node none (.node (some ti173) (.node (some ti301) .nil .nil) (.node (some ti429) .nil .nil)) (.node (some ti237) (.node none .nil .nil) .nil))) (.node (some ti61) (.node (some ti93) (.node (some ti157) (.node (some ti285) .nil .nil) (.node (some ti413) .nil .nil)) (.node (some ti221) (.node (some ti349) .nil .nil) .nil)) (.node (some ti125) (.node (some ti189) (.node (some ti317) .nil .nil) (.node (some ti445) .nil .nil)) (.node (some ti253) (.node (some ti381) .nil .nil) .nil))))))) (.node (some ti2) (.node (some ti4) (.node (some ti8) (.node (some ti16) (.node (some ti32) (.node (some ti64) (.node none (.node (some ti256) .nil .nil) (.node (some ti384) .nil .nil)) (.node (some ti192) (.node (some ti320) .nil .nil) .nil)) (.node (some ti96) (.node (some ti160) (.node (some ti288) .nil .nil) (.node (some ti416) .nil .nil)) (.node (some ti224) (.node (some ti352) .nil .nil) .nil))) (.node (some ti48) (.node (some ti80) (.node (some ti144) (.node (some ti272) .nil .nil) (.node (some ti400) .nil .nil)) (.node (some ti208) (.node (some ti336) .nil .nil) .nil)) (.node none (.node (some ti176) (.node (some ti304) .nil .nil) (.node (some ti432) .nil .nil)) (.node none (.node (some ti368) .nil .nil) .nil)))) (.node (some ti24) (.node (some ti40) (.node (some ti72) (.node (some ti136) (.node (some ti264) .nil .nil) (.node (some ti392) .nil .nil)) (.node (some ti200) (.node (some ti328) .nil .nil) .nil)) (.node (some ti104) (.node (some ti168) (.node (some ti296) .nil .nil) (.node (some ti424) .nil .nil)) (.node (some ti232) (.node (some ti360) .nil .nil) .nil))) (.node none (.node (some ti88) (.node (some ti152) (.node (some ti280) .nil .nil) (.node (some ti408) .nil .nil)) (.node (some ti216) (.node (some ti344) .nil .nil) .nil)) (.node (some ti120) (.node (some ti184) (.node (some ti312) .nil .nil) (.node (some ti440) .nil .nil)) (.node none (.node (some ti376) .nil .nil) .nil))))) (.node (some ti12) (.node (some ti20) (.node (some ti36) (.node none (.node (some ti132) (.node (some ti260) .nil .nil) (.node (some ti388) .nil .nil)) (.node (some ti196) (.node (some ti324) .nil .nil) .nil)) (.node (some ti100) (.node (some ti164) (.node (some ti292) .nil .nil) (.node (some ti420) .nil .nil)) (.node (some ti228) (.node (some ti356) .nil .nil) .nil))) (.node (some ti52) (.node (some ti84) (.node (some ti148) (.node (some ti276) .nil .nil) (.node (some ti404) .nil .nil)) (.node (some ti212) (.node (some ti340) .nil .nil) .nil)) (.node (some ti116) (.node (some ti180) (.node (some ti308) .nil .nil) (.node none .nil .nil)) (.node none (.node (some ti372) .nil .nil) .nil)))) (.node (some ti28) (.node (some ti44) (.node (some ti76) (.node (some ti140) (.node (some ti268) .nil .nil) (.node (some ti396) .nil .nil)) (.node (some ti204) (.node (some ti332) .nil .nil) .nil)) (.node (some ti108) (.node (some ti172) (.node (some ti300) .nil .nil) (.node (some ti428) .nil .nil)) (.node (some ti236) (.node (some ti364) .nil .nil) .nil))) (.node (some ti60) (.node (some ti92) (.node (some ti156) (.node (some ti284) .nil .nil) (.node (some ti412) .nil .nil)) (.node (some ti220) (.node (some ti348) .nil .nil) .nil)) (.node (some ti124) (.node (some ti188) (.node (some ti316) .nil .nil) (.node none .nil .nil)) (.node (some ti252) (.node (some ti380) .nil .nil) .nil)))))) (.node (some ti6) (.node (some ti10) (.node none (.node (some ti34) (.node (some ti66) (.node (some ti130) (.node (some ti258) .nil .nil) (.node (some ti386) .nil .nil)) (.node (some ti194) (.node (some ti322) .nil .nil) .nil)) (.node (some ti98) (.node (some ti162) (.node (some ti290) .nil .nil) (.node (some ti418) .nil .nil)) (.node (some ti226) (.node (some ti354) .nil .nil) .nil))) (.node (some ti50) (.node (some ti82) (.node (some ti146) (.node (some ti274) .nil .nil) (.node (some ti402) .nil .nil)) (.node (some ti210) (.node none .nil .nil) .nil)) (.node (some ti114) (.node (some ti178) (.node (some ti306) .nil .nil) (.node none .nil .nil)) (.node (some ti242) (.node (some ti370) .nil .nil) .nil)))) (.node (some ti26) (.node (some ti42) (.node (some ti74) (.node (some ti138) (.node (some ti266) .nil .nil) (.node (some ti394) .nil .nil)) (.node (some ti202) (.node (some ti330) .nil .nil) .nil)) (.node (some ti106) (.node (some ti170) (.node (some ti298) .nil .nil) (.node (some ti426) .nil .nil)) (.node (some ti234) (.node (some ti362) .nil .nil) .nil))) (.node (some ti58) (.node (some ti90) (.node (some ti154) (.node (some ti282) .nil .nil) (.node (some ti410) .nil .nil)) (.node none (.node (some ti346) .nil .nil) .nil)) (.node (some ti122) (.node none (.node (some ti314) .nil .nil) (.node (some ti442) .nil .nil)) (.node (some ti250) (.node none .nil .nil) .nil))))) (.node none (.node (some ti22) (.node none (.node (some ti70) (.node (some ti134) (.node (some ti262) .nil .nil) (.node none .nil .nil)) (.node (some ti198) (.node (some ti326) .nil .nil) .nil)) (.node (some ti102) (.node (some ti166) (.node (some ti294) .nil .nil) (.node (some ti422) .nil .nil)) (.node (some ti230) (.node (some ti358) .nil .nil) .nil))) (.node (some ti54) (.node (some ti86) (.node (some ti150) (.node (some ti278) .nil .nil) (.node (some ti406) .nil .nil)) (.node (some ti214) (.node none .nil .nil) .nil)) (.node (some ti118) (.node (some ti182) (.node (some ti310) .nil .nil) (.node (some ti438) .nil .nil)) (.node (some ti246) (.node (some ti374) .nil .nil) .nil)))) (.node (some ti30) (.node (some ti46) (.node (some ti78) (.node (some ti142) (.node (some ti270) .nil .nil) (.node (some ti398) .nil .nil)) (.node (some ti206) (.node (some ti334) .nil .nil) .nil)) (.node (some ti110) (.node (some ti174) (.node (some ti302) .nil .nil) (.node (some ti430) .nil .nil)) (.node (some ti238) (.node (some ti366) .nil .nil) .nil))) (.node (some ti62) (.node (some ti94) (.node (some ti158) (.node (some ti286) .nil .nil) (.node (some ti414) .nil .nil)) (.node (some ti222) (.node (some ti350) .nil .nil) .nil)) (.node (some ti126) (.node (some ti190) (.node (some ti318) .nil .nil) .nil) (.node (some ti254) (.node (some ti382) .nil .nil) .nil))))))))
noncomputable def fns : T Func := (.node (some Tryz.f0) (.node (some Tryz.f1) (.node (some Tryz.f3) (.node (some Tryz.f7) (.node (some Tryz.f15) (.node (some Tryz.f31) (.node (some Tryz.f63) (.node (some Tryz.f127) (.node (some Tryz.f255) .nil .nil) .nil) (.node (some Tryz.f191) (.node (some Tryz.f319) .nil .nil) .nil)) (.node (some Tryz.f95) (.node (some Tryz.f159) (.node (some Tryz.f287) .nil .nil) .nil) (.node (some Tryz.f223) .nil .nil))) (.node (some Tryz.f47) (.node (some Tryz.f79) (.node (some Tryz.f143) (.node (some Tryz.f271) .nil .nil) .nil) (.node (some Tryz.f207) (.node (some Tryz.f335) .nil .nil) .nil)) (.node (some Tryz.f111) (.node (some Tryz.f175) (.node (some Tryz.f303) .nil .nil) .nil) (.node (some Tryz.f239) .nil .nil)))) (.node (some Tryz.f23) (.node (some Tryz.f39) (.node (some Tryz.f71) (.node (some Tryz.f135) (.node (some Tryz.f263) .nil .nil) .nil) (.node (some Tryz.f199) (.node (some Tryz.f327) .nil .nil) .nil)) (.node (some Tryz.f103) (.node (some Tryz.f167) (.node (some Tryz.f295) .nil .nil) .nil) (.node (some Tryz.f231) .nil .nil))) (.node (some Tryz.f55) (.node (some Tryz.f87) (.node (some Tryz.f151) (.node (some Tryz.f279) .nil .nil) .nil) (.node (some Tryz.f215) (.node (some Tryz.f343) .nil .nil) .nil)) (.node (some Tryz.f119) (.node (some Tryz.f183) (.node (some Tryz.f311) .nil .nil) .nil) (.node (some Tryz.f247) .nil .nil))))) (.node (some Tryz.f11) (.node (some Tryz.f19) (.node (some Tryz.f35) (.node (some Tryz.f67) (.node (some Tryz.f131) (.node (some Tryz.f259) .nil .nil) .nil) (.node (some Tryz.f195) (.node (some Tryz.f323) .nil .nil) .nil)) (.node (some Tryz.f99) (.node (some Tryz.f163) (.node (some Tryz.f291) .nil .nil) .nil) (.node (some Tryz.f227) .nil .nil))) (.node (some Tryz.f51) (.node (some Tryz.f83) (.node (some Tryz.f147) (.node (some Tryz.f275) .nil .nil) .nil) (.node (some Tryz.f211) (.node (some Tryz.f339) .nil .nil) .nil)) (.node (some Tryz.f115) (.node (some Tryz.f179) (.node (some Tryz.f307) .nil .nil) .nil) (.node (some Tryz.f243) .nil .nil)))) (.node (some Tryz.f27) (.node (some Tryz.f43) (.node (some Tryz.f75) (.node (some Tryz.f139) (.node (some Tryz.f267) .nil .nil) .nil) (.node (some Tryz.f203) (.node (some Tryz.f331) .nil .nil) .nil)) (.node (some Tryz.f107) (.node (some Tryz.f171) (.node (some Tryz.f299) .nil .nil) .nil) (.node (some Tryz.f235) .nil .nil))) (.node (some Tryz.f59) (.node (some Tryz.f91) (.node (some Tryz.f155) (.node (some Tryz.f283) .nil .nil) .nil) (.node (some Tryz.f219) .nil .nil)) (.node (some Tryz.f123) (.node (some Tryz.f187) (.node (some Tryz.f315) .nil .nil) .nil) (.node (some Tryz.f251) .nil .nil)))))) (.node (some Tryz.f5) (.node (some Tryz.f9) (.node (some Tryz.f17) (.node (some Tryz.f33) (.node (some Tryz.f65) (.node (some Tryz.f129) (.node (some Tryz.f257) .nil .nil) .nil) (.node (some Tryz.f193) (.node (some Tryz.f321) .nil .nil) .nil)) (.node (some Tryz.f97) (.node (some Tryz.f161) (.node (some Tryz.f289) .nil .nil) .nil) (.node (some Tryz.f225) .nil .nil))) (.node (some Tryz.f49) (.node (some Tryz.f81) (.node (some Tryz.f145) (.node (some Tryz.f273) .nil .nil) .nil) (.node (some Tryz.f209) (.node (some Tryz.f337) .nil .nil) .nil)) (.node (some Tryz.f113) (.node (some Tryz.f177) (.node (some Tryz.f305) .nil .nil) .nil) (.node (some Tryz.f241) .nil .nil)))) (.node (some Tryz.f25) (.node (some Tryz.f41) (.node (some Tryz.f73) (.node (some Tryz.f137) (.node (some Tryz.f265) .nil .nil) .nil) (.node (some Tryz.f201) (.node (some Tryz.f329) .nil .nil) .nil)) (.node (some Tryz.f105) (.node (some Tryz.f169) (.node (some Tryz.f297) .nil .nil) .nil) (.node (some Tryz.f233) .nil .nil))) (.node (some Tryz.f57) (.node (some Tryz.f89) (.node (some Tryz.f153) (.node (some Tryz.f281) .nil .nil) .nil) (.node (some Tryz.f217) (.node (some Tryz.f345) .nil .nil) .nil)) (.node (some Tryz.f121) (.node (some Tryz.f185) (.node (some Tryz.f313) .nil .nil) .nil) (.node (some Tryz.f249) .nil .nil))))) (.node (some Tryz.f13) (.node (some Tryz.f21) (.node (some Tryz.f37) (.node (some Tryz.f69) (.node (some Tryz.f133) (.node (some Tryz.f261) .nil .nil) .nil) (.node (some Tryz.f197) (.node (some Tryz.f325) .nil .nil) .nil)) (.node (some Tryz.f101) (.node (some Tryz.f165) (.node (some Tryz.f293) .nil .nil) .nil) (.node (some Tryz.f229) .nil .nil))) (.node (some Tryz.f53) (.node (some Tryz.f85) (.node (some Tryz.f149) (.node (some Tryz.f277) .nil .nil) .nil) (.node (some Tryz.f213) (.node (some Tryz.f341) .nil .nil) .nil)) (.node (some Tryz.f117) (.node (some Tryz.f181) (.node (some Tryz.f309) .nil .nil) .nil) (.node (some Tryz.f245) .nil .nil)))) (.node (some Tryz.f29) (.node (some Tryz.f45) (.node (some Tryz.f77) (.node (some Tryz.f141) (.node (some Tryz.f269) .nil .nil) .nil) (.node (some Tryz.f205) (.node (some Tryz.f333) .nil .nil) .nil)) (.node (some Tryz.f109) (.node (some Tryz.f173) (.node (some Tryz.f301) .nil .nil) .nil) (.node (some Tryz.f237) .nil .nil))) (.node (some Tryz.f61) (.node (some Tryz.f93) (.node (some Tryz.f157) (.node (some Tryz.f285) .nil .nil) .nil) (.node (some Tryz.f221) .nil .nil)) (.node (some Tryz.f125) (.node (some Tryz.f189) (.node (some Tryz.f317) .nil .nil) .nil) (.node (some Tryz.f253) .nil .nil))))))) (.node (some Tryz.f2) (.node (some Tryz.f4) (.node (some Tryz.f8) (.node (some Tryz.f16) (.node (some Tryz.f32) (.node (some Tryz.f64) (.node (some Tryz.f128) (.node (some Tryz.f256) .nil .nil) .nil) (.node (some Tryz.f192) (.node (some Tryz.f320) .nil .nil) .nil)) (.node (some Tryz.f96) (.node (some Tryz.f160) (.node (some Tryz.f288) .nil .nil) .nil) (.node (some Tryz.f224) .nil .nil))) (.node (some Tryz.f48) (.node (some Tryz.f80) (.node (some Tryz.f144) (.node (some Tryz.f272) .nil .nil) .nil) (.node (some Tryz.f208) (.node (some Tryz.f336) .nil .nil) .nil)) (.node (some Tryz.f112) (.node (some Tryz.f176) (.node (some Tryz.f304) .nil .nil) .nil) (.node (some Tryz.f240) .nil .nil)))) (.node (some Tryz.f24) (.node (some Tryz.f40) (.node (some Tryz.f72) (.node (some Tryz.f136) (.node (some Tryz.f264) .nil .nil) .nil) (.node (some Tryz.f200) (.node (some Tryz.f328) .nil .nil) .nil)) (.node (some Tryz.f104) (.node (some Tryz.f168) (.node (some Tryz.f296) .nil .nil) .nil) (.node (some Tryz.f232) .nil .nil))) (.node (some Tryz.f56) (.node (some Tryz.f88) (.node (some Tryz.f152) (.node (some Tryz.f280) .nil .nil) .nil) (.node (some Tryz.f216) (.node (some Tryz.f344) .nil .nil) .nil)) (.node (some Tryz.f120) (.node (some Tryz.f184) (.node (some Tryz.f312) .nil .nil) .nil) (.node (some Tryz.f248) .nil .nil))))) (.node (some Tryz.f12) (.node (some Tryz.f20) (.node (some Tryz.f36) (.node (some Tryz.f68) (.node (some Tryz.f132) (.node (some Tryz.f260) .nil .nil) .nil) (.node (some Tryz.f196) (.node (some Tryz.f324) .nil .nil) .nil)) (.node (some Tryz.f100) (.node (some Tryz.f164) (.node (some Tryz.f292) .nil .nil) .nil) (.node (some Tryz.f228) .nil .nil))) (.node (some Tryz.f52) (.node (some Tryz.f84) (.node (some Tryz.f148) (.node (some Tryz.f276) .nil .nil) .nil) (.node (some Tryz.f212) (.node (some Tryz.f340) .nil .nil) .nil)) (.node (some Tryz.f116) (.node (some Tryz.f180) (.node (some Tryz.f308) .nil .nil) .nil) (.node (some Tryz.f244) .nil .nil)))) (.node (some Tryz.f28) (.node (some Tryz.f44) (.node (some Tryz.f76) (.node (some Tryz.f140) (.node (some Tryz.f268) .nil .nil) .nil) (.node (some Tryz.f204) (.node (some Tryz.f332) .nil .nil) .nil)) (.node (some Tryz.f108) (.node (some Tryz.f172) (.node (some Tryz.f300) .nil .nil) .nil) (.node (some Tryz.f236) .nil .nil))) (.node (some Tryz.f60) (.node (some Tryz.f92) (.node (some Tryz.f156) (.node (some Tryz.f284) .nil .nil) .nil) (.node (some Tryz.f220) .nil .nil)) (.node (some Tryz.f124) (.node (some Tryz.f188) (.node (some Tryz.f316) .nil .nil) .nil) (.node (some Tryz.f252) .nil .nil)))))) (.node (some Tryz.f6) (.node (some Tryz.f10) (.node (some Tryz.f18) (.node (some Tryz.f34) (.node (some Tryz.f66) (.node (some Tryz.f130) (.node (some Tryz.f258) .nil .nil) .nil) (.node (some Tryz.f194) (.node (some Tryz.f322) .nil .nil) .nil)) (.node (some Tryz.f98) (.node (some Tryz.f162) (.node (some Tryz.f290) .nil .nil) .nil) (.node (some Tryz.f226) .nil .nil))) (.node (some Tryz.f50) (.node (some Tryz.f82) (.node (some Tryz.f146) (.node (some Tryz.f274) .nil .nil) .nil) (.node (some Tryz.f210) (.node (some Tryz.f338) .nil .nil) .nil)) (.node (some Tryz.f114) (.node (some Tryz.f178) (.node (some Tryz.f306) .nil .nil) .nil) (.node (some Tryz.f242) .nil .nil)))) (.node (some Tryz.f26) (.node (some Tryz.f42) (.node (some Tryz.f74) (.node (some Tryz.f138) (.node (some Tryz.f266) .nil .nil) .nil) (.node (some Tryz.f202) (.node (some Tryz.f330) .nil .nil) .nil)) (.node (some Tryz.f106) (.node (some Tryz.f170) (.node (some Tryz.f298) .nil .nil) .nil) (.node (some Tryz.f234) .nil .nil))) (.node (some Tryz.f58) (.node (some Tryz.f90) (.node (some Tryz.f154) (.node (some Tryz.f282) .nil .nil) .nil) (.node (some Tryz.f218) .nil .nil)) (.node (some Tryz.f122) (.node (some Tryz.f186) (.node (some Tryz.f314) .nil .nil) .nil) (.node (some Tryz.f250) .nil .nil))))) (.node (some Tryz.f14) (.node (some Tryz.f22) (.node (some Tryz.f38) (.node (some Tryz.f70) (.node (some Tryz.f134) (.node (some Tryz.f262) .nil .nil) .nil) (.node (some Tryz.f198) (.node (some Tryz.f326) .nil .nil) .nil)) (.node (some Tryz.f102) (.node (some Tryz.f166) (.node (some Tryz.f294) .nil .nil) .nil) (.node (some Tryz.f230) .nil .nil))) (.node (some Tryz.f54) (.node (some Tryz.f86) (.node (some Tryz.f150) (.node (some Tryz.f278) .nil .nil) .nil) (.node (some Tryz.f214) (.node (some Tryz.f342) .nil .nil) .nil)) (.node (some Tryz.f118) (.node (some Tryz.f182) (.node (some Tryz.f310) .nil .nil) .nil) (.node (some Tryz.f246) .nil .nil)))) (.node (some Tryz.f30) (.node (some Tryz.f46) (.node (some Tryz.f78) (.node (some Tryz.f142) (.node (some Tryz.f270) .nil .nil) .nil) (.node (some Tryz.f206) (.node (some Tryz.f334) .nil .nil) .nil)) (.node (some Tryz.f110) (.node (some Tryz.f174) (.node (some Tryz.f302) .nil .nil) .nil) (.node (some Tryz.f238) .nil .nil))) (.node (some Tryz.f62) (.node (some Tryz.f94) (.node (some Tryz.f158) (.node (some Tryz.f286) .nil .nil) .nil) (.node (some Tryz.f222) .nil .nil)) (.node (some Tryz.f126) (.node (some Tryz.f190) (.node (some Tryz.f318) .nil .nil) .nil) (.node (some Tryz.f254) .nil .nil))))))))
def sc3 : T (List Sc) := (.node none (.node none (.node none (.node none .nil .nil) .nil) (.node none (.node none .nil .nil) .nil)) (.node none (.node none (.node none .nil .nil) .nil) (.node none (.node (some [.ev 0, .ev 1, .ev 2, .ev 3, .ev 4, .ev 5, .ev 6, .ev 7, .ev 8]) .nil .nil) .nil)))
def sc5 : T (List Sc) := (.node none (.node none (.node none (.node none .nil .nil) .nil) (.node none .nil .nil)) (.node none (.node none (.node (some [.ev 0, .ev 1, .ev 2, .ev 3, .ev 4, .ev 5, .ev 6, .ev 7, .ev 8, .ev 9, .ev 10, .ev 11, .ev 12, .ev 13, .ev 14, .ev 15, .ev 16, .ev 17, .ev 18, .ev 19, .ev 20, .ev 21, .ev 22, .ev 23, .ch 24]) .nil .nil) .nil) (.node none .nil .nil)))
def sc12 : T (List Sc) := (.node none (.node none (.node none (.node none .nil .nil) .nil) (.node none (.node none .nil .nil) .nil)) (.node none (.node none (.node none .nil .nil) .nil) (.node none (.node (some [.ev 0, .ev 1, .ev 2, .ev 5, .ev 6, .ev 7, .ev 8, .ev 9, .ev 10, .ch 3, .re 0, .ev 4, .re 5, .re 6, .re 7, .re 8, .re 9, .re 10, .ch 11, .re 0, .re 4, .ev 12, .ch 13]) .nil .nil) .nil)))
def sc16 : T (List Sc) := (.node none (.node none (.node none (.node none (.node none .nil .nil) .nil) (.node none .nil .nil)) (.node none (.node none (.node (some [.ev 0, .ev 1, .ev 3, .ch 2, .re 0, .re 3, .ch 4]) .nil .nil) .nil) (.node none .nil .nil))) (.node none (.node none (.node none (.node (some [.ev 0, .ev 1, .ch 2, .re 0, .ev 3, .ev 4]) .nil .nil) .nil) (.node none .nil .nil)) (.node none (.node none .nil .nil) (.node none .nil .nil))))
def sc17 : T (List Sc) := (.node none (.node none (.node none .nil .nil) (.node none .nil .nil)) (.node none (.node none .nil .nil) (.node (some [.ev 0, .ev 1, .ev 2, .ev 3, .ev 4, .ev 5, .ev 6, .ev 7, .ch 8, .ev 9]) .nil .nil)))
def sc19 : T (List Sc) := (.node none (.node none (.node none (.node none (.node none .nil .nil) .nil) (.node none (.node none .nil .nil) .nil)) (.node none (.node none (.node none .nil .nil) .nil) (.node (some [.ev 0, .ev 2, .ev 3, .ch 1, .re 2, .re 3, .ch 4, .ev 5, .ev 6]) (.node none .nil .nil) .nil))) (.node none (.node none (.node none (.node none .nil .nil) .nil) (.node none (.node none .nil .nil) .nil)) (.node none (.node none (.node none .nil .nil) .nil) (.node none (.node (some [.ev 0, .ev 1, .ev 2, .ev 3, .ev 4, .ev 5, .ch 6, .ev 7, .ev 8, .ev 9, .ev 10, .ev 11, .ev 12, .ev 13, .ev 14, .ev 15, .ev 16, .ev 17, .ch 18, .ev 19]) .nil .nil) .nil))))
def sc22 : T (List Sc) := (.node none (.node (some [.ev 1, .ev 2, .ch 0, .re 1, .re 2, .ev 3, .ev 4]) .nil .nil) .nil)
def sc25 : T (List Sc) := (.node none (.node none (.node none (.node (some [.ev 0, .ev 1, .ev 4, .ev 5, .ch 2, .ev 3, .re 4, .re 5, .ev 6, .ev 7]) .nil .nil) .nil) (.node none (.node (some [.ev 0, .ev 1, .ev 4, .ev 5, .ch 2, .ev 3, .re 4, .re 5, .ev 6, .ev 7, .ev 8]) .nil .nil) .nil)) (.node none (.node none (.node none .nil .nil) .nil) (.node none .nil .nil)))
def sc26 : T (List Sc) := (.node none (.node none (.node none .nil .nil) (.node (some [.ev 0, .ev 1, .ev 2, .ev 3, .ev 4, .ev 5, .ev 6, .ev 7, .ev 8, .ev 9, .ev 10, .ev 11, .ev 12, .ev 13, .ev 14, .ev 15, .ev 16, .ev 17, .ev 18, .ev 19, .ev 20, .ev 21, .ev 22, .ev 23, .ch 24]) .nil .nil)) (.node none (.node none .nil .nil) .nil))
def sc27 : T (List Sc) := (.node none (.node none (.node none (.node none .nil .nil) (.node none .nil .nil)) (.node none (.node (some [.ev 0, .ev 1, .ev 2, .ev 3, .ev 4, .ev 8, .ch 5, .re 0, .re 1, .re 2, .ch 6, .re 0, .re 1, .re 2, .ch 7, .re 0, .re 1, .re 2, .ev 9, .ev 10, .ev 11]) .nil .nil) (.node (some [.ev 0, .ev 1, .ev 2, .ev 3, .ev 4, .ev 5, .ch 6, .re 0, .re 1, .re 2, .re 3, .re 4, .ev 7, .ch 8, .re 0, .ev 9, .ev 10, .ch 11]) .nil .nil))) (.node none (.node none (.node none .nil .nil) (.node none .nil .nil)) (.node none (.node none .nil .nil) .nil)))
def sc32 : T (List Sc) := (.node none (.node none (.node none .nil .nil) .nil) (.node none (.node (some [.ev 0, .ev 1, .ev 2, .ev 3, .ev 4, .ev 5, .ev 6, .ev 7, .ch 8, .ev 9]) .nil .nil) .nil))
def sc37 : T (List Sc) := (.node none (.node none (.node none (.node (some [.ev 0, .ev 1, .ev 2, .ev 3, .ev 4, .ev 5, .ev 6, .ev 7, .ev 8, .ev 9, .ev 10, .ev 11, .ev 12, .ev 13, .ev 14, .ev 15, .ev 16, .ev 17, .ev 18, .ev 19]) .nil .nil) .nil) (.node (some [.ev 0, .ev 1, .ev 2, .ev 3, .ev 4, .ev 5, .ev 6, .ev 7, .ev 8, .ev 9, .ev 10, .ev 11]) .nil .nil)) (.node none (.node none .nil .nil) (.node none .nil .nil)))
def sc47 : T (List Sc) := (.node none (.node none (.node none (.node none (.node none .nil .nil) .nil) (.node none (.node none .nil .nil) .nil)) (.node none (.node none (.node none .nil .nil) .nil) (.node none (.node (some [.ev 0, .ev 1, .ev 2, .ev 3, .ev 4, .ev 5, .ev 6, .ev 7, .ev 8, .ev 9, .ch 10, .ch 11]) .nil .nil) .nil))) (.node none (.node none (.node none (.node none .nil .nil) .nil) (.node none (.node none .nil .nil) .nil)) (.node none (.node none (.node none .nil .nil) .nil) (.node none .nil .nil))))
def sc54 : T (List Sc) := (.node none (.node none (.node none (.node none .nil .nil) .nil) (.node none (.node none .nil .nil) .nil)) (.node none (.node none (.node none .nil .nil) .nil) (.node none (.node (some [.ev 0, .ev 1, .ev 2, .ev 3, .ev 4, .ev 5, .ev 6, .ev 7, .ev 8, .ev 9, .ev 10, .ev 11, .ev 12]) .nil .nil) .nil)))
def sc58 : T (List Sc) := (.node none (.node (some [.ev 0, .ev 1, .ev 2, .ev 3, .ch 4, .re 0, .re 1, .ev 5, .ch 6]) .nil .nil) .nil)
def sc59 : T (List Sc) := (.node none (.node none (.node none (.node (some [.ev 0, .ev 1, .ev 2, .ev 3, .ev 4, .ev 5, .ev 6, .ch 7, .re 0, .re 1, .re 2, .re 3, .re 4, .ev 8, .ch 9, .re 0, .ev 10, .ev 11, .ch 12]) .nil .nil) .nil) (.node none .nil .nil)) (.node none (.node (some [.ev 0, .ev 1, .ev 2, .ev 3, .ev 4, .ev 9, .ch 5, .ev 6, .ev 7, .ev 8, .ch 10, .re 8, .ev 11]) .nil .nil) (.node none .nil .nil)))
def sc60 : T (List Sc) := (.node none (.node none (.node none (.node none (.node (some [.ev 0, .ev 1, .ev 2, .ev 3, .ev 4, .ev 5, .ev 6, .ev 9, .ch 7, .re 0, .ev 8, .re 9, .ev 10, .ch 11]) .nil .nil) .nil) (.node none (.node none .nil .nil) .nil)) (.node (some [.ev 0, .ev 1, .ev 2, .ch 3, .re 0, .re 1, .ev 4, .ev 5, .ev 6]) (.node none (.node (some [.ev 0, .ev 2, .ev 3, .ch 1, .re 2, .re 3, .ch 4, .ev 5, .ev 6, .ev 7, .ev 8, .ev 9]) .nil .nil) .nil) (.node none (.node (some [.ev 0, .ev 1, .ev 2, .ev 3, .ev 4, .ev 5, .ev 6, .ev 7, .ev 8, .ev 10, .ev 11, .ev 12, .ev 13, .ev 14, .ev 15, .ch 9, .re 0, .re 1, .re 10, .re 11, .re 12, .re 13, .re 14, .ch 16, .re 0, .re 1, .ev 17, .ev 18, .ev 19, .ch 20, .re 1, .ev 21, .ev 22, .ch 23]) .nil .nil) .nil))) (.node none (.node none (.node none (.node none .nil .nil) .nil) (.node none (.node none .nil .nil) .nil)) (.node none (.node none (.node none .nil .nil) .nil) (.node none .nil .nil))))
def sc61 : T (List Sc) := (.node none (.node none (.node none (.node (some [.ev 0, .ev 1, .ev 2, .ev 3, .ev 4, .ev 5, .ev 6, .ev 7, .ev 8, .ev 9, .ev 10, .ch 11, .ev 12, .ch 13]) .nil .nil) .nil) (.node none (.node (some [.ev 0, .ev 1, .ev 2, .ev 3, .ev 5, .ch 4, .re 5, .ch 6]) .nil .nil) .nil)) (.node none (.node none (.node none .nil .nil) .nil) (.node none .nil .nil)))
def sc68 : T (List Sc) := (.node none (.node none (.node none (.node none .nil .nil) .nil) (.node none .nil .nil)) (.node none (.node (some [.ev 0, .ev 1, .ev 2, .ev 3, .ev 5, .ev 6, .ev 7, .ev 8, .ev 11, .ch 4, .re 5, .re 6, .re 7, .re 8, .re 11, .ch 9, .ev 10, .re 11]) (.node (some [.ev 0, .ev 1, .ev 2, .ev 3, .ev 4, .ev 5, .ev 6, .ev 7, .ev 9, .ch 8, .re 0, .re 1, .re 9, .ch 10, .ev 11]) .nil .nil) .nil) (.node none .nil .nil)))
def sc69 : T (List Sc) := (.node none (.node none (.node none (.node none (.node none .nil .nil) .nil) (.node none .nil .nil)) (.node none (.node none (.node (some [.ev 0, .ev 1, .ev 2, .ev 3, .ev 4, .ev 5, .ev 6, .ev 7, .ev 8, .ev 9, .ev 10, .ev 11, .ev 12, .ch 13, .ev 14, .ev 15, .ev 16]) .nil .nil) .nil) (.node none .nil .nil))) (.node none (.node none (.node none (.node none .nil .nil) .nil) (.node none .nil .nil)) (.node none (.node none .nil .nil) (.node none .nil .nil))))
def sc72 : T (List Sc) := (.node none (.node (some [.ev 0, .ev 1, .ev 2, .ev 3, .ev 5, .ev 6, .ev 7, .ev 8, .ev 10, .ev 11, .ev 12, .ev 13, .ch 4, .re 5, .re 6, .re 7, .re 8, .re 10, .re 11, .re 12, .re 13, .ch 9, .re 10, .re 11, .re 12, .re 13, .ch 14, .ev 15, .ch 16, .ev 17]) .nil .nil) .nil)
def sc90 : T (List Sc) := (.node none (.node none (.node none (.node (some [.ev 0, .ev 1, .ev 4, .ev 5, .ch 2, .ev 3, .re 4, .re 5, .ev 6, .ev 7]) .nil .nil) .nil) (.node none (.node (some [.ev 0, .ev 1, .ev 4, .ev 5, .ch 2, .ev 3, .re 4, .re 5, .ev 6, .ev 7, .ev 8]) .nil .nil) .nil)) (.node none (.node none (.node none .nil .nil) .nil) (.node none .nil .nil)))
def sc91 : T (List Sc) := (.node none (.node none (.node (some [.ev 0, .ev 1, .ev 2, .ev 3, .ev 4, .ev 5, .ev 6, .ev 7, .ev 8, .ev 9, .ev 10, .ev 11, .ev 12]) .nil .nil) .nil) (.node none .nil .nil))
def sc93 : T (List Sc) := (.node none (.node (some [.ev 0, .ev 1, .ev 2, .ev 3, .ev 5, .ev 6, .ev 7, .ev 8, .ev 9, .ch 4, .re 5, .re 6, .re 7, .re 8, .re 9, .ch 10, .ev 11]) .nil .nil) .nil)
def sc106 : T (List Sc) := (.node none (.node none (.node none (.node none .nil .nil) (.node (some [.ev 0, .ev 1, .ev 2, .ev 3, .ev 4, .ch 5, .re 1, .re 2, .re 3, .re 4, .ev 6]) .nil .nil)) (.node none (.node none .nil .nil) .nil)) (.node none (.node none (.node (some [.ev 0, .ev 1, .ev 2, .ev 4, .ev 5, .ev 6, .ev 7, .ev 8, .ev 10, .ch 3, .re 4, .re 5, .re 6, .re 7, .re 8, .ev 9, .ch 11]) .nil .nil) .nil) (.node none (.node none .nil .nil) .nil)))
def sc107 : T (List Sc) := (.node none (.node none (.node none (.node none .nil .nil) .nil) (.node none (.node none .nil .nil) .nil)) (.node none (.node none (.node none .nil .nil) .nil) (.node none (.node (some [.ev 0, .ev 1, .ev 2, .ev 3, .ev 4, .ev 6, .ev 7, .ev 8, .ev 10, .ev 11, .ev 12, .ch 5, .re 0, .re 1, .re 6, .re 7, .re 8, .re 10, .re 11, .re 12, .ch 9, .re 0, .re 1, .re 10, .re 11, .re 12, .ev 13, .ev 14, .ch 15, .ev 16, .ch 17]) .nil .nil) .nil)))
def sc108 : T (List Sc) := (.node none (.node none (.node none (.node none (.node (some [.ev 0, .ev 1, .ev 2, .ev 3, .ev 4, .ev 5, .ev 6, .ev 7, .ev 8, .ev 9, .ev 10, .ev 11]) .nil .nil) .nil) (.node none .nil .nil)) (.node none (.node (some [.ev 0, .ev 1, .ev 2, .ev 3, .ev 4, .ev 5, .ev 6, .ev 7, .ev 8, .ev 9, .ev 10]) .nil .nil) (.node none .nil .nil))) (.node none (.node none (.node none .nil .nil) (.node (some [.ev 0, .ev 1, .ev 2, .ev 3, .ev 4, .ev 5, .ev 6, .ev 7, .ev 8, .ev 9, .ev 10, .ch 11, .re 0, .ev 12, .ev 13, .ch 14]) .nil .nil)) (.node none (.node none .nil .nil) (.node none .nil .nil))))
def sc109 : T (List Sc) := (.node none (.node none (.node none .nil .nil) (.node (some [.ev 0, .ev 1, .ev 2, .ev 3, .ev 4, .ev 5, .ch 6]) .nil .nil)) (.node none (.node none .nil .nil) .nil))
def sc113 : T (List Sc) := (.node none (.node none (.node (some [.ev 0, .ev 1, .ev 2, .ev 3, .ev 4, .ev 5, .ch 6, .re 0, .re 1, .re 2, .re 3, .re 4, .ch 7, .re 0, .re 1, .re 2, .re 3, .ev 8, .ev 9, .ev 10]) .nil .nil) .nil) (.node none .nil .nil))
def sc117 : T (List Sc) := (.node (some [.ev 0, .ev 1, .ev 2, .ev 3, .ev 4, .ch 5, .re 1, .re 2, .ev 6]) .nil .nil)
def sc119 : T (List Sc) := (.node none (.node none (.node none (.node none .nil .nil) (.node none .nil .nil)) (.node none (.node none .nil .nil) (.node (some [.ev 0, .ev 1, .ev 2, .ev 3, .ev 4, .ev 5, .ch 6, .re 1, .re 2, .re 3, .ev 7, .ch 8]) .nil .nil))) (.node none (.node none (.node none .nil .nil) (.node none .nil .nil)) (.node none (.node none .nil .nil) .nil)))
def sc120 : T (List Sc) := (.node none (.node none .nil .nil) (.node (some [.ev 0, .ev 1, .ev 2, .ch 3, .re 0, .re 1, .ch 4]) .nil .nil))
def sc124 : T (List Sc) := (.node none (.node (some [.ev 0, .ev 1, .ev 2, .ev 3, .ev 4, .ev 5, .ev 6, .ev 7]) (.node none (.node none .nil .nil) (.node (some [.ev 0, .ev 1, .ev 2, .ev 3, .ev 4, .ev 5, .ev 6, .ch 7, .re 0, .ev 8, .ev 9, .ch 10]) .nil .nil)) (.node none (.node none .nil .nil) .nil)) (.node none (.node none (.node none .nil .nil) .nil) (.node none (.node none .nil .nil) .nil)))
def sc127 : T (List Sc) := (.node none (.node none (.node none .nil .nil) (.node (some [.ev 0, .ev 1, .ev 2, .ev 3, .ev 5, .ev 6, .ev 7, .ev 8, .ev 11, .ev 12, .ev 13, .ch 4, .re 5, .re 6, .re 7, .re 8, .re 11, .re 12, .re 13, .ch 9, .ev 10, .re 11, .re 12, .re 13, .ev 14]) .nil .nil)) (.node none (.node none .nil .nil) .nil))
def sc130 : T (List Sc) := (.node none (.node none (.node none .nil .nil) (.node none .nil .nil)) (.node none (.node (some [.ev 0, .ev 1, .ev 2, .ev 3, .ev 4, .ev 5, .ev 6, .ev 7, .ev 8, .ev 9, .ev 10, .ev 11, .ev 12, .ev 13, .ch 14, .ev 15, .ev 16]) .nil .nil) (.node (some [.ev 0, .ev 1, .ev 2, .ev 3, .ev 4, .ev 5, .ev 6, .ev 7, .ev 8, .ev 9, .ev 10, .ev 11, .ev 12, .ev 13, .ev 14, .ch 15, .re 2, .re 3, .re 4, .ev 16, .ch 17]) .nil .nil)))
def sc131 : T (List Sc) := (.node none (.node none (.node none (.node none .nil .nil) .nil) (.node none (.node none .nil .nil) .nil)) (.node none (.node none (.node none .nil .nil) .nil) (.node none (.node (some [.ev 0, .ev 1, .ev 2, .ev 3, .ev 4, .ev 5, .ev 6, .ev 7, .ev 8, .ev 9, .ev 10, .ev 11, .ev 12, .ev 13, .ev 14, .ev 15, .ev 16, .ch 17, .re 2, .re 3, .re 4, .re 5, .ev 18, .ch 19]) .nil .nil) .nil)))
def sc132 : T (List Sc) := (.node none (.node none (.node none (.node none .nil .nil) .nil) (.node none (.node none .nil .nil) .nil)) (.node none (.node none (.node none .nil .nil) .nil) (.node none (.node (some [.ev 0, .ev 1, .ev 2, .ev 3, .ev 4, .ev 5, .ev 6, .ev 7, .ev 8, .ev 9, .ev 10, .ev 11, .ev 12, .ev 13, .ev 14, .ev 15, .ev 16, .ch 17, .re 2, .re 3, .re 4, .re 5, .ev 18, .ch 19]) .nil .nil) .nil)))
def sc134 : T (List Sc) := (.node none (.node none (.node (some [.ev 0, .ev 1, .ev 2, .ev 3, .ev 4, .ev 5, .ev 6, .ev 7, .ev 8, .ev 9, .ev 10, .ev 11, .ev 12, .ch 13, .re 2, .re 3, .ev 14, .ch 15]) .nil .nil) .nil) (.node none .nil .nil))
def sc135 : T (List Sc) := (.node none (.node none (.node none (.node none (.node none .nil .nil) (.node (some [.ev 0, .ev 1, .ev 2, .ev 3, .ev 4, .ev 5, .ev 6, .ev 7, .ev 8, .ev 9, .ev 10, .ev 11, .ev 12, .ev 13, .ev 14, .ch 15, .re 2, .re 3, .re 4, .ev 16, .ch 17]) .nil .nil)) (.node (some [.ev 0, .ev 1, .ev 2, .ev 3, .ev 4, .ev 5, .ev 6, .ev 7, .ev 8, .ev 9, .ev 10, .ev 11, .ev 12, .ev 13, .ev 14, .ch 15, .re 2, .re 3, .re 4, .ev 16, .ch 17]) (.node none .nil .nil) .nil)) (.node (some [.ev 0, .ev 1, .ev 2, .ev 3, .ev 4, .ev 5, .ev 6, .ev 7, .ev 8, .ev 9, .ev 10, .ev 11, .ev 12, .ev 13, .ch 14, .ev 15, .ev 16, .ev 17]) (.node none (.node (some [.ev 0, .ev 1, .ev 2, .ev 3, .ev 4, .ev 5, .ev 6, .ev 7, .ev 8, .ev 9, .ev 10, .ev 11, .ev 12, .ev 13, .ev 14, .ch 15, .re 2, .re 3, .re 4, .ev 16, .ch 17]) .nil .nil) .nil) (.node none (.node none .nil .nil) .nil))) (.node none (.node none (.node none (.node (some [.ev 0, .ev 1, .ev 2, .ev 3, .ev 4, .ev 5, .ev 6, .ev 7, .ev 8, .ev 9, .ch 10, .ev 11, .ev 12]) .nil .nil) .nil) (.node none (.node none .nil .nil) .nil)) (.node none (.node none (.node none .nil .nil) .nil) (.node none (.node (some [.ev 0, .ev 1, .ev 2, .ev 3, .ev 4, .ev 5, .ev 6, .ev 7, .ev 8, .ev 9, .ch 10, .ev 11, .ev 12]) .nil .nil) .nil))))
def sc136 : T (List Sc) := (.node none (.node (some [.ev 0, .ev 1, .ev 2, .ev 3, .ev 4, .ev 5, .ev 6, .ev 7, .ev 8, .ev 9, .ev 10, .ev 11, .ev 12, .ch 13, .re 2, .re 3, .ev 14, .ch 15]) (.node (some [.ev 0, .ev 1, .ev 2, .ev 3, .ev 4, .ev 5, .ev 6, .ev 7, .ev 8, .ev 9, .ev 10, .ev 11, .ev 12, .ch 13, .ev 14, .ev 15, .ev 16]) (.node none .nil .nil) .nil) (.node (some [.ev 0, .ev 1, .ev 2, .ev 3, .ev 4, .ev 5, .ev 6, .ev 7, .ev 8, .ev 9, .ev 10, .ev 11, .ev 12, .ch 13, .ev 14, .ev 15]) .nil .nil)) (.node none (.node none (.node (some [.ev 0, .ev 1, .ev 2, .ev 3, .ev 4, .ev 5, .ev 6, .ev 7, .ev 8, .ev 9, .ev 10, .ev 11, .ev 12, .ch 13, .re 2, .re 3, .ev 14, .ch 15]) .nil .nil) .nil) (.node none .nil .nil)))
def sc137 : T (List Sc) := (.node none (.node (some [.ev 0, .ev 1, .ev 2, .ev 3, .ev 4, .ev 5, .ev 6, .ev 7, .ev 8, .ev 9, .ev 10, .ev 11, .ev 12, .ch 13, .re 2, .re 3, .ev 14, .ch 15]) (.node (some [.ev 0, .ev 1, .ev 2, .ev 3, .ev 4, .ev 5, .ev 6, .ev 7, .ev 8, .ev 9, .ev 10, .ev 11, .ev 12, .ch 13, .ev 14, .ev 15]) (.node none (.node (some [.ev 0, .ev 1, .ev 2, .ev 3, .ev 4, .ev 5, .ev 6, .ev 7, .ev 8, .ev 9, .ev 10, .ev 11, .ev 12, .ch 13, .ev 14, .ev 15, .ev 16]) .nil .nil) .nil) (.node none (.node none .nil .nil) .nil)) (.node (some [.ev 0, .ev 1, .ev 2, .ev 3, .ev 4, .ev 5, .ev 6, .ev 7, .ev 8, .ev 9, .ev 10, .ev 11, .ev 12, .ch 13, .ev 14, .ev 15, .ev 16]) (.node none (.node none .nil .nil) .nil) (.node (some [.ev 0, .ev 1, .ev 2, .ev 3, .ev 4, .ev 5, .ev 6, .ev 7, .ev 8, .ev 9, .ev 10, .ev 11, .ev 12, .ch 13, .ev 14, .ev 15]) (.node (some [.ev 0, .ev 1, .ev 2, .ev 3, .ev 4, .ev 5, .ev 6, .ev 7, .ev 8, .ev 9, .ev 10, .ev 11, .ev 12, .ch 13, .re 2, .re 3, .ev 14, .ch 15]) .nil .nil) .nil))) (.node none (.node none (.node (some [.ev 0, .ev 1, .ev 2, .ev 3, .ev 4, .ev 5, .ev 6, .ev 7, .ev 8, .ev 9, .ev 10, .ev 11, .ev 12, .ch 13, .re 2, .re 3, .ev 14, .ch 15]) (.node none .nil .nil) .nil) (.node none (.node none .nil .nil) .nil)) (.node none (.node (some [.ev 0, .ev 1, .ev 2, .ev 3, .ev 4, .ev 5, .ev 6, .ev 7, .ev 8, .ev 9, .ev 10, .ev 11, .ev 12, .ch 13, .re 2, .re 3, .ev 14, .ch 15]) (.node (some [.ev 0, .ev 1, .ev 2, .ev 3, .ev 4, .ev 5, .ev 6, .ev 7, .ev 8, .ev 9, .ev 10, .ev 11, .ev 12, .ch 13, .re 2, .re 3, .ev 14, .ch 15]) .nil .nil) .nil) (.node none .nil .nil))))
def sc147 : T (List Sc) := (.node none (.node (some [.ev 0, .ev 1, .ev 5, .ev 6, .ev 10, .ev 11, .ch 2, .ev 3, .ev 4, .re 5, .re 6, .re 10, .re 11, .ch 7, .re 3, .re 4, .ev 8, .ev 9, .re 10, .re 11, .ch 12, .re 3, .re 4, .re 8, .re 9, .ev 13, .ev 14, .ev 15]) .nil .nil) .nil)
def sc149 : T (List Sc) := (.node none (.node (some [.ev 0, .ev 1, .ev 4, .ev 5, .ch 2, .ev 3, .re 4, .re 5, .ch 6, .re 3, .ev 7, .ev 8]) .nil .nil) .nil)
def sc151 : T (List Sc) := (.node none (.node (some [.ev 0, .ev 1, .ev 4, .ev 5, .ch 2, .ev 3, .re 4, .re 5, .ch 6, .re 3, .ev 7, .ev 8]) .nil .nil) .nil)
def sc158 : T (List Sc) := (.node none (.node none (.node none (.node none .nil .nil) (.node none .nil .nil)) (.node none (.node none .nil .nil) .nil)) (.node none (.node none (.node none .nil .nil) (.node (some [.ev 0, .ev 1, .ev 2, .ev 3, .ev 4, .ev 5, .ev 6, .ev 7, .ch 8, .ch 9]) .nil .nil)) (.node none (.node none .nil .nil) .nil)))
def sc160 : T (List Sc) := (.node (some [.ev 0, .ev 1, .ev 2, .ev 3, .ev 4, .ev 5, .ev 6, .ev 7, .ev 9, .ev 10, .ev 11, .ev 12, .ev 13, .ch 8, .re 9, .re 10, .re 11, .re 12, .re 13, .ev 14, .ev 15]) .nil .nil)
def sc161 : T (List Sc) := (.node none (.node none (.node none (.node none .nil .nil) (.node none .nil .nil)) (.node none (.node none .nil .nil) (.node none .nil .nil))) (.node none (.node none (.node none .nil .nil) (.node none .nil .nil)) (.node none (.node none .nil .nil) (.node (some [.ev 0, .ch 1, .ev 2, .ev 3, .ev 6, .ev 7, .ev 8, .ch 4, .ev 5, .re 6, .re 7, .re 8, .ev 9, .ev 10]) .nil .nil))))
def sc165 : T (List Sc) := (.node none (.node none (.node none .nil .nil) (.node none .nil .nil)) (.node none (.node none .nil .nil) (.node (some [.ev 0, .ev 1, .ev 2, .ev 3, .ev 4, .ev 5, .ev 6, .ev 7, .ev 8]) .nil .nil)))
def sc166 : T (List Sc) := (.node none (.node none (.node none (.node none (.node none .nil .nil) (.node (some [.ev 0, .ev 1, .ev 2, .ev 3, .ev 4, .ev 5, .ev 6, .ev 7, .ev 8, .ev 9, .ev 10, .ev 11, .ev 12, .ev 13, .ev 14, .ev 15, .ev 16, .ev 17, .ch 18, .re 0, .re 1, .re 2, .re 3, .re 4, .ev 19, .ch 20]) .nil .nil)) (.node none (.node none .nil .nil) (.node none .nil .nil))) (.node none (.node (some [.ev 0, .ev 1, .ev 2, .ev 3, .ev 4, .ev 5, .ev 6, .ev 7, .ch 8, .re 0, .ev 9, .ev 10, .ch 11]) (.node none .nil .nil) (.node none .nil .nil)) (.node none (.node (some [.ev 0, .ev 1, .ev 2, .ev 3, .ev 4, .ev 5, .ev 6, .ev 7, .ev 8, .ev 9, .ev 10, .ev 11]) .nil .nil) (.node (some [.ev 0, .ev 1, .ev 2, .ev 3, .ev 4, .ev 5, .ev 6, .ev 7, .ev 8, .ev 9, .ev 10, .ev 11, .ev 12, .ev 13, .ev 14, .ch 15, .re 0, .re 1, .re 2, .re 3, .re 4, .ev 16, .ch 17]) .nil .nil)))) (.node none (.node none (.node (some [.ev 0, .ev 1, .ev 2, .ev 3, .ev 4, .ev 5, .ev 6, .ev 7, .ev 8, .ev 9, .ev 10, .ch 11]) (.node (some [.ev 0, .ev 1, .ev 2, .ev 3, .ev 4, .ev 5, .ev 6, .ev 7, .ev 8, .ev 9]) .nil .nil) (.node none .nil .nil)) (.node none (.node none .nil .nil) (.node none .nil .nil))) (.node (some [.ev 0, .ev 1, .ev 2, .ev 3, .ev 4, .ev 5, .ev 6, .ev 7, .ev 8, .ev 9, .ev 10, .ev 11]) (.node none (.node none .nil .nil) (.node none .nil .nil)) (.node none (.node none .nil .nil) .nil))))
def sc170 : T (List Sc) := (.node none (.node none (.node none (.node none (.node none .nil .nil) (.node none .nil .nil)) (.node none (.node none .nil .nil) .nil)) (.node none (.node none (.node none .nil .nil) (.node (some [.ev 0, .ev 1, .ev 2, .ev 3, .ev 4, .ev 5, .ch 6, .ch 7]) .nil .nil)) (.node none (.node none .nil .nil) .nil))) (.node none (.node none (.node none (.node none .nil .nil) (.node none .nil .nil)) (.node none (.node none .nil .nil) .nil)) (.node none (.node none (.node none .nil .nil) .nil) (.node none (.node none .nil .nil) .nil))))
def sc173 : T (List Sc) := (.node none (.node none .nil .nil) (.node (some [.ev 0, .ev 1, .ev 2, .ev 3, .ev 4, .ev 5, .ev 6, .ev 7, .ev 8, .ev 9, .ev 10, .ev 12, .ev 13, .ch 11, .re 12, .re 13, .ch 14, .ev 15]) .nil .nil))
def sc174 : T (List Sc) := (.node none (.node none (.node none .nil .nil) (.node (some [.ev 0, .ev 1, .ev 2, .ev 3, .ev 4, .ev 7, .ev 8, .ch 5, .ev 6, .re 7, .re 8, .ev 9, .ev 10]) .nil .nil)) (.node none (.node none .nil .nil) .nil))
def sc175 : T (List Sc) := (.node none (.node none (.node none (.node (some [.ev 0, .ev 1, .ev 2, .ev 3, .ev 4, .ev 5, .ev 6, .ev 7, .ev 8, .ev 11, .ev 12, .ev 13, .ch 9, .re 0, .re 1, .re 2, .re 3, .re 4, .re 11, .re 12, .re 13, .ch 10, .re 0, .re 1, .re 2, .re 3, .re 11, .re 12, .re 13, .ev 14, .ch 15]) .nil .nil) .nil) (.node none .nil .nil)) (.node none (.node none .nil .nil) (.node none .nil .nil)))
def sc177 : T (List Sc) := (.node none (.node none (.node none .nil .nil) (.node (some [.ev 0, .ev 1, .ev 2, .ev 3, .ev 4, .ch 5, .ev 6, .ev 7, .ev 8, .ev 9, .ev 10]) .nil .nil)) (.node none (.node none .nil .nil) .nil))
def sc178 : T (List Sc) := (.node none (.node none (.node none (.node none (.node none .nil .nil) .nil) (.node (some [.ev 0, .ev 1, .ev 2, .ev 3, .ev 4, .ch 5, .re 0, .re 1, .ch 6, .ev 7]) .nil .nil)) (.node none (.node none (.node (some [.ev 0, .ev 1, .ev 2, .ev 3, .ev 4, .ev 5, .ev 6, .ch 7, .re 0, .re 1, .ch 8, .ev 9]) .nil .nil) .nil) (.node none .nil .nil))) (.node none (.node none (.node none (.node none .nil .nil) .nil) (.node none .nil .nil)) (.node none (.node none .nil .nil) (.node none .nil .nil))))
def sc179 : T (List Sc) := (.node none (.node none (.node none (.node none (.node none .nil .nil) .nil) (.node none .nil .nil)) (.node none (.node none (.node (some [.ev 0, .ev 1, .ev 2, .ev 3, .ev 4, .ev 5, .ev 6, .ev 7, .ch 8]) .nil .nil) .nil) (.node none .nil .nil))) (.node none (.node none (.node none (.node (some [.ev 0, .ev 1, .ev 2, .ev 3, .ev 4, .ev 5, .ev 6, .ev 7, .ev 8, .ev 9, .ch 10, .re 0, .re 1, .ev 11, .ev 12, .ev 13, .ev 14, .ev 15, .ev 16, .ev 17, .ev 18]) .nil .nil) .nil) (.node none .nil .nil)) (.node none (.node none (.node (some [.ev 0, .ev 1, .ev 2, .ev 3, .ev 4, .ev 5, .ev 6, .ev 7, .ch 8]) .nil .nil) .nil) (.node none .nil .nil))))
def sc187 : T (List Sc) := (.node none (.node none (.node (some [.ev 0, .ev 1, .ev 2, .ev 3, .ev 4, .ev 5, .ev 6, .ev 8, .ev 9, .ev 10, .ev 11, .ch 7, .re 0, .re 1, .re 2, .re 3, .re 8, .re 9, .re 10, .re 11, .ch 12, .re 0, .re 1, .re 2, .re 3, .ch 13]) (.node (some [.ev 0, .ev 1, .ev 2, .ev 4, .ev 5, .ev 6, .ch 3, .re 4, .re 5, .re 6, .ch 7, .ev 8, .ch 9]) .nil .nil) .nil) (.node none .nil .nil)) (.node none (.node none (.node (some [.ev 0, .ev 1, .ev 2, .ev 4, .ev 5, .ev 6, .ch 3, .re 4, .re 5, .re 6, .ch 7, .ev 8, .ch 9]) .nil .nil) .nil) (.node none .nil .nil)))
def sc189 : T (List Sc) := (.node none (.node (some [.ev 0, .ev 1, .ev 2, .ev 3, .ev 4, .ev 5, .ev 6, .ev 7, .ev 8, .ev 9, .ev 10, .ev 11, .ev 12, .ev 13, .ev 14, .ev 15, .ev 16, .ch 17, .re 8, .re 9, .re 10, .re 11, .re 12, .re 13, .re 14, .ch 18]) (.node none (.node none .nil .nil) .nil) (.node none (.node (some [.ev 0, .ev 1, .ev 2, .ev 3, .ev 4, .ev 5, .ev 6, .ev 8, .ev 9, .ev 10, .ev 11, .ev 12, .ev 13, .ch 7, .re 0, .re 1, .re 2, .re 3, .re 8, .re 9, .re 10, .re 11, .re 12, .re 13, .ch 14]) .nil .nil) .nil)) (.node none (.node none (.node none .nil .nil) .nil) (.node (some [.ev 0, .ev 1, .ev 2, .ev 3, .ev 4, .ev 5, .ev 6, .ev 7, .ev 8, .ev 9, .ev 10, .ev 11, .ev 12, .ev 13, .ev 14, .ev 15, .ev 16, .ev 17, .ev 18, .ch 19, .ev 20, .ev 21]) .nil .nil)))
def sc190 : T (List Sc) := (.node none (.node none (.node none (.node none .nil .nil) (.node (some [.ev 0, .ev 1, .ev 2, .ev 3, .ev 4, .ev 5, .ev 6, .ev 7, .ev 8, .ev 9, .ch 10]) .nil .nil)) (.node none (.node none .nil .nil) .nil)) (.node none (.node none (.node none .nil .nil) (.node (some [.ev 0, .ev 1, .ev 2, .ev 3, .ev 4, .ev 5, .ev 6, .ev 7, .ev 8, .ev 9, .ev 10, .ev 11]) .nil .nil)) (.node (some [.ev 0, .ev 1, .ev 2, .ev 3, .ev 4, .ev 5, .ev 6, .ev 7, .ev 8, .ev 9, .ev 10, .ev 11, .ev 12]) (.node (some [.ev 0, .ev 1, .ev 2, .ev 3, .ev 4, .ev 5, .ev 6, .ev 7, .ev 8]) .nil .nil) .nil)))
def sc191 : T (List Sc) := (.node none (.node none .nil .nil) (.node (some [.ev 0, .ev 1, .ev 2, .ev 3, .ev 4, .ev 5, .ev 6, .ch 7, .re 0, .ev 8, .ev 9, .ch 10]) .nil .nil))
def sc195 : T (List Sc) := (.node none (.node (some [.ev 0, .ev 1, .ev 2, .ev 3, .ev 4, .ev 5, .ev 6, .ev 7, .ev 8, .ev 9, .ev 10]) .nil .nil) (.node (some [.ev 0, .ev 1, .ev 2, .ev 3, .ev 4, .ev 5, .ev 6, .ev 7, .ev 8, .ev 9, .ev 10, .ev 11, .ev 12, .ev 13, .ev 14, .ch 15]) .nil .nil))
def sc196 : T (List Sc) := (.node none (.node (some [.ev 0, .ev 1, .ev 2, .ev 3, .ev 4, .ev 5, .ev 6, .ev 7, .ev 8, .ev 9]) .nil .nil) .nil)
def sc197 : T (List Sc) := (.node none (.node none (.node (some [.ev 0, .ev 1, .ev 2, .ev 3, .ev 4, .ev 5, .ev 6, .ev 7, .ev 8, .ev 9, .ev 10, .ev 11, .ev 12, .ev 13, .ev 14, .ev 15, .ev 16, .ev 17, .ev 18, .ch 19, .ev 20, .ev 21]) .nil .nil) (.node (some [.ev 0, .ev 1, .ev 2, .ev 3, .ev 4, .ev 5, .ev 6, .ev 7, .ev 8, .ev 9, .ev 10, .ev 11, .ev 12, .ch 13, .ev 14, .ev 15]) .nil .nil)) (.node none (.node none .nil .nil) (.node (some [.ev 0, .ev 1, .ev 2, .ev 3, .ev 4, .ev 5, .ev 6, .ev 7, .ev 8, .ev 9, .ev 10, .ev 11, .ev 12, .ev 13, .ev 14, .ev 15, .ev 16, .ev 17, .ev 18, .ev 19, .ev 20, .ch 21, .re 4, .re 5, .re 6, .re 7, .ev 22, .ch 23]) .nil .nil)))
def sc199 : T (List Sc) := (.node none (.node (some [.ev 0, .ev 1, .ev 2, .ev 3, .ev 4, .ev 5, .ev 6, .ev 7, .ev 8, .ch 9]) (.node (some [.ev 0, .ev 1, .ev 2, .ev 3, .ev 4, .ev 5, .ev 6, .ev 7, .ev 8, .ch 9]) .nil .nil) .nil) (.node (some [.ev 0, .ev 1, .ev 2, .ev 3, .ev 4, .ev 5, .ev 6, .ev 7, .ev 8, .ch 9]) .nil .nil))
def sc218 : T (List Sc) := (.node none (.node none (.node (some [.ev 0, .ev 1, .ev 2, .ev 3, .ev 4, .ev 5, .ch 6, .ev 7, .ev 8, .ev 9, .ev 10, .ev 11]) .nil .nil) .nil) (.node (some [.ev 0, .ev 1, .ev 2, .ev 3, .ev 4, .ev 5, .ch 6, .ev 7, .ch 8]) .nil .nil))
def sc219 : T (List Sc) := (.node none (.node none (.node none (.node (some [.ev 0, .ev 1, .ev 2, .ev 4, .ev 5, .ev 6, .ch 3, .re 4, .re 5, .re 6, .ch 7, .ev 8, .ch 9]) .nil .nil) .nil) (.node none .nil .nil)) (.node none (.node none (.node (some [.ev 0, .ev 1, .ev 2, .ev 4, .ev 5, .ev 6, .ch 3, .re 4, .re 5, .re 6, .ch 7, .ev 8, .ch 9]) .nil .nil) .nil) (.node none .nil .nil)))
def sc222 : T (List Sc) := (.node none (.node none (.node none .nil .nil) (.node none .nil .nil)) (.node none (.node none .nil .nil) (.node (some [.ev 0, .ev 1, .ev 2, .ev 3, .ev 4, .ev 5, .ev 6, .ev 7, .ev 8]) .nil .nil)))
def sc229 : T (List Sc) := (.node none (.node (some [.ev 0, .ev 1, .ev 2, .ev 3, .ev 4, .ev 5, .ev 6, .ev 7, .ev 8, .ev 10, .ch 9, .re 0, .re 1, .re 2, .re 3, .re 10, .ch 11]) .nil .nil) (.node (some [.ev 0, .ev 1, .ev 2, .ev 3, .ev 5, .ev 6, .ev 7, .ev 8, .ev 9, .ch 4, .re 5, .re 6, .re 7, .re 8, .re 9, .ev 10]) .nil .nil))
def sc230 : T (List Sc) := (.node none (.node none (.node (some [.ev 0, .ev 1, .ev 2, .ev 3, .ev 4, .ev 5, .ch 6]) (.node (some [.ev 0, .ev 1, .ev 2, .ev 3, .ev 4, .ev 5, .ev 6, .ev 7, .ev 8, .ev 9]) .nil .nil) .nil) (.node none .nil .nil)) (.node none (.node none .nil .nil) (.node none .nil .nil)))
def sc232 : T (List Sc) := (.node none (.node none (.node (some [.ev 0, .ev 1, .ev 2, .ev 3, .ev 4, .ev 5, .ev 6, .ev 7, .ev 8, .ev 9, .ev 10, .ev 11, .ev 12, .ev 13, .ch 14, .re 7, .re 8, .re 9, .re 10, .re 11, .re 12, .re 13, .ev 15]) .nil .nil) .nil) (.node none .nil .nil))
def sc237 : T (List Sc) := (.node none (.node (some [.ev 0, .ev 1, .ev 2, .ev 3, .ev 4, .ev 5, .ev 6, .ev 7, .ev 8, .ev 9, .ev 10]) (.node none (.node (some [.ev 0, .ev 1, .ev 2, .ev 3, .ev 4, .ev 5, .ev 6, .ev 7, .ev 8, .ev 9, .ev 10, .ev 11, .ev 12, .ev 13, .ev 14, .ev 15, .ev 16, .ev 17, .ev 18, .ev 19, .ch 20, .ev 21, .ev 22]) .nil .nil) (.node (some [.ev 0, .ev 1, .ev 2, .ev 3, .ev 4, .ev 5, .ev 6, .ev 7, .ev 8, .ev 9, .ev 10, .ev 11, .ev 12, .ev 13, .ev 14, .ev 15, .ev 16, .ev 17, .ev 18, .ev 19, .ev 20, .ev 21, .ev 22, .ev 23, .ev 24, .ev 25, .ev 26, .ev 27, .ev 28, .ch 29, .ev 30, .ev 31]) .nil .nil)) (.node none (.node none .nil .nil) .nil)) (.node none (.node none (.node none .nil .nil) .nil) (.node none (.node none .nil .nil) .nil)))
def sc238 : T (List Sc) := (.node none (.node none (.node none (.node none .nil .nil) .nil) (.node none .nil .nil)) (.node none (.node (some [.ev 0, .ev 1, .ev 2, .ev 3, .ev 4, .ev 5, .ev 6, .ev 7, .ev 8, .ev 9, .ev 10]) (.node (some [.ev 0, .ev 1, .ev 2, .ev 3, .ev 4, .ev 5, .ev 6, .ev 7]) .nil .nil) .nil) (.node none .nil .nil)))
def sc241 : T (List Sc) := (.node none (.node none (.node (some [.ev 0, .ev 1, .ev 2, .ev 3, .ev 4, .ev 5, .ev 6, .ev 7, .ev 8]) .nil .nil) .nil) (.node none .nil .nil))
def sc245 : T (List Sc) := (.node none (.node (some [.ev 0, .ev 1, .ev 2, .ev 3, .ev 4, .ev 5, .ev 6, .ev 7, .ev 8, .ch 9, .ev 10]) .nil .nil) .nil)
def sc258 : T (List Sc) := (.node none (.node none (.node (some [.ev 0, .ev 1, .ev 2, .ev 3, .ev 4, .ev 5, .ev 6, .ev 7, .ev 8, .ev 9, .ch 10, .re 8, .ev 11]) (.node (some [.ev 0, .ev 1, .ev 2, .ev 3, .ev 4, .ev 5, .ev 6, .ev 7, .ev 9, .ev 10, .ev 11, .ev 12, .ev 13, .ch 8, .re 0, .re 1, .re 9, .re 10, .re 11, .re 12, .ch 14, .re 0, .re 1, .ev 15, .ev 16, .ch 17, .re 1, .ev 18, .ev 19, .ch 20]) .nil .nil) (.node (some [.ev 0, .ev 1, .ev 2, .ev 3, .ev 4, .ev 5, .ev 6, .ev 7, .ev 8, .ev 9, .ev 10, .ev 11, .ch 12, .re 0, .ev 13, .ev 14]) .nil .nil)) (.node none (.node none .nil .nil) .nil)) (.node none (.node none (.node none .nil .nil) .nil) (.node (some [.ev 0, .ev 1, .ev 2, .ev 3, .ev 4, .ev 5, .ch 6]) (.node (some [.ev 0, .ev 1, .ev 2, .ev 3, .ev 4, .ev 5, .ev 6, .ch 7, .ev 8, .ev 10, .ch 9, .re 10, .ch 11]) .nil .nil) .nil)))
def sc261 : T (List Sc) := (.node none (.node none (.node none (.node (some [.ev 0, .ev 1, .ev 2, .ev 3, .ev 4, .ev 5, .ch 6, .re 0, .re 1, .re 2, .ev 7, .ev 8, .ch 9]) .nil .nil) .nil) (.node none .nil .nil)) (.node (some [.ev 0, .ev 1, .ev 2, .ev 4, .ev 5, .ch 3, .re 4, .re 5, .ev 7, .ch 6, .re 7, .ch 8, .ev 9, .ch 10]) (.node none .nil .nil) (.node none .nil .nil)))
def sc262 : T (List Sc) := (.node none (.node none (.node none (.node none .nil .nil) .nil) (.node none (.node (some [.ev 0, .ev 1, .ev 2, .ev 3, .ev 4, .ev 5, .ev 6, .ev 8, .ev 9, .ev 10, .ch 7, .re 0, .re 1, .re 2, .re 3, .re 8, .re 9, .re 10, .ch 11, .ev 12]) .nil .nil) .nil)) (.node none (.node none (.node none .nil .nil) .nil) (.node none .nil .nil)))
def sc263 : T (List Sc) := (.node none (.node none (.node none (.node none .nil .nil) .nil) (.node none (.node none .nil .nil) .nil)) (.node none (.node none (.node none .nil .nil) .nil) (.node none (.node (some [.ev 0, .ev 1, .ch 2, .re 0, .ev 3, .ch 4, .re 3, .ev 5]) .nil .nil) .nil)))
def sc271 : T (List Sc) := (.node none (.node none (.node none (.node none (.node none .nil .nil) .nil) (.node none .nil .nil)) (.node none (.node none (.node (some [.ev 0, .ev 1, .ev 2, .ev 3, .ev 4, .ev 5, .ev 6, .ev 7, .ev 8, .ev 9, .ev 10, .ev 11, .ch 12, .ev 13, .ev 14]) .nil .nil) .nil) (.node none .nil .nil))) (.node none (.node none (.node none (.node none .nil .nil) .nil) (.node none .nil .nil)) (.node none (.node none .nil .nil) (.node none .nil .nil))))
def sc277 : T (List Sc) := (.node none (.node none (.node none (.node none (.node none .nil .nil) .nil) (.node none .nil .nil)) (.node none (.node none (.node (some [.ev 0, .ev 1, .ev 2, .ev 3, .ev 4, .ev 5, .ev 6, .ev 7, .ev 8, .ev 9, .ev 10, .ev 11, .ch 12, .ev 13, .ev 14]) .nil .nil) .nil) (.node none .nil .nil))) (.node none (.node none (.node none (.node none .nil .nil) .nil) (.node none .nil .nil)) (.node none (.node none .nil .nil) (.node none .nil .nil))))
def sc280 : T (List Sc) := (.node none (.node none (.node none .nil .nil) (.node (some [.ev 0, .ev 1, .ev 2, .ev 3, .ev 4, .ev 5, .ev 6, .ch 7, .re 0, .ev 8, .ev 9, .ch 10]) .nil .nil)) (.node none (.node none .nil .nil) .nil))
def sc284 : T (List Sc) := (.node none (.node none (.node none .nil .nil) (.node none .nil .nil)) (.node none (.node (some [.ev 0, .ev 1, .ev 2, .ev 3, .ev 4, .ev 5, .ev 6, .ev 7, .ev 8, .ev 9, .ev 10, .ev 11, .ev 12, .ch 13, .ev 14]) .nil .nil) (.node (some [.ev 0, .ev 1, .ev 2, .ev 3, .ev 4, .ev 5, .ev 6, .ev 7, .ev 8, .ev 9, .ev 10, .ev 11, .ev 12, .ev 13, .ev 14, .ch 15, .re 2, .re 3, .re 4, .ev 16, .ch 17]) .nil .nil)))
def sc285 : T (List Sc) := (.node none (.node none (.node none (.node none .nil .nil) .nil) (.node none (.node none .nil .nil) .nil)) (.node none (.node none (.node none .nil .nil) .nil) (.node none (.node (some [.ev 0, .ev 1, .ev 2, .ev 3, .ev 4, .ev 5, .ev 6, .ev 7, .ev 8, .ev 9, .ev 10, .ev 11, .ev 12, .ev 13, .ev 14, .ev 15, .ev 16, .ch 17, .re 2, .re 3, .re 4, .re 5, .ev 18, .ch 19]) .nil .nil) .nil)))
def sc286 : T (List Sc) := (.node none (.node none (.node none (.node none .nil .nil) .nil) (.node none (.node none .nil .nil) .nil)) (.node none (.node none (.node none .nil .nil) .nil) (.node none (.node (some [.ev 0, .ev 1, .ev 2, .ev 3, .ev 4, .ev 5, .ev 6, .ev 7, .ev 8, .ev 9, .ev 10, .ev 11, .ev 12, .ev 13, .ev 14, .ev 15, .ev 16, .ch 17, .re 2, .re 3, .re 4, .re 5, .ev 18, .ch 19]) .nil .nil) .nil)))
def sc288 : T (List Sc) := (.node none (.node none (.node (some [.ev 0, .ev 1, .ev 2, .ev 3, .ev 4, .ev 5, .ev 6, .ev 7, .ev 8, .ev 9, .ev 10, .ev 11, .ev 12, .ch 13, .re 2, .re 3, .ev 14, .ch 15]) .nil .nil) .nil) (.node none .nil .nil))
def sc289 : T (List Sc) := (.node none (.node none (.node none (.node none (.node none .nil .nil) (.node (some [.ev 0, .ev 1, .ev 2, .ev 3, .ev 4, .ev 5, .ev 6, .ev 7, .ev 8, .ev 9, .ev 10, .ev 11, .ev 12, .ev 13, .ev 14, .ch 15, .re 2, .re 3, .re 4, .ev 16, .ch 17]) .nil .nil)) (.node (some [.ev 0, .ev 1, .ev 2, .ev 3, .ev 4, .ev 5, .ev 6, .ev 7, .ev 8, .ev 9, .ev 10, .ev 11, .ev 12, .ev 13, .ev 14, .ch 15, .re 2, .re 3, .re 4, .ev 16, .ch 17]) (.node none .nil .nil) .nil)) (.node (some [.ev 0, .ev 1, .ev 2, .ev 3, .ev 4, .ev 5, .ev 6, .ev 7, .ev 8, .ev 9, .ev 10, .ev 11, .ev 12, .ch 13, .ev 14, .ev 15]) (.node none (.node (some [.ev 0, .ev 1, .ev 2, .ev 3, .ev 4, .ev 5, .ev 6, .ev 7, .ev 8, .ev 9, .ev 10, .ev 11, .ev 12, .ev 13, .ev 14, .ch 15, .re 2, .re 3, .re 4, .ev 16, .ch 17]) .nil .nil) .nil) (.node none (.node none .nil .nil) .nil))) (.node none (.node none (.node none (.node (some [.ev 0, .ev 1, .ev 2, .ev 3, .ev 4, .ev 5, .ev 6, .ev 7, .ev 8, .ch 9, .ev 10]) .nil .nil) .nil) (.node none (.node none .nil .nil) .nil)) (.node none (.node none (.node none .nil .nil) .nil) (.node none (.node (some [.ev 0, .ev 1, .ev 2, .ev 3, .ev 4, .ev 5, .ev 6, .ev 7, .ev 8, .ch 9, .ev 10]) .nil .nil) .nil))))
def sc291 : T (List Sc) := (.node none (.node (some [.ev 0, .ev 1, .ev 2, .ev 3, .ev 4, .ev 5, .ev 6, .ev 7, .ev 8, .ev 9, .ev 10, .ev 11, .ev 12, .ch 13, .re 2, .re 3, .ev 14, .ch 15]) (.node (some [.ev 0, .ev 1, .ev 2, .ev 3, .ev 4, .ev 5, .ev 6, .ev 7, .ev 8, .ev 9, .ev 10, .ev 11, .ch 12, .ev 13, .ev 14]) (.node none .nil .nil) .nil) (.node (some [.ev 0, .ev 1, .ev 2, .ev 3, .ev 4, .ev 5, .ev 6, .ev 7, .ev 8, .ev 9, .ev 10, .ev 11, .ch 12, .ev 13]) .nil .nil)) (.node none (.node none (.node (some [.ev 0, .ev 1, .ev 2, .ev 3, .ev 4, .ev 5, .ev 6, .ev 7, .ev 8, .ev 9, .ev 10, .ev 11, .ev 12, .ch 13, .re 2, .re 3, .ev 14, .ch 15]) .nil .nil) .nil) (.node none .nil .nil)))
def sc292 : T (List Sc) := (.node none (.node (some [.ev 0, .ev 1, .ev 2, .ev 3, .ev 4, .ev 5, .ev 6, .ev 7, .ev 8, .ev 9, .ev 10, .ev 11, .ev 12, .ch 13, .re 2, .re 3, .ev 14, .ch 15]) (.node (some [.ev 0, .ev 1, .ev 2, .ev 3, .ev 4, .ev 5, .ev 6, .ev 7, .ev 8, .ev 9, .ev 10, .ev 11, .ch 12, .ev 13]) (.node none (.node (some [.ev 0, .ev 1, .ev 2, .ev 3, .ev 4, .ev 5, .ev 6, .ev 7, .ev 8, .ev 9, .ev 10, .ev 11, .ch 12, .ev 13, .ev 14]) .nil .nil) .nil) (.node none (.node none .nil .nil) .nil)) (.node (some [.ev 0, .ev 1, .ev 2, .ev 3, .ev 4, .ev 5, .ev 6, .ev 7, .ev 8, .ev 9, .ev 10, .ev 11, .ch 12, .ev 13, .ev 14]) (.node none (.node none .nil .nil) .nil) (.node (some [.ev 0, .ev 1, .ev 2, .ev 3, .ev 4, .ev 5, .ev 6, .ev 7, .ev 8, .ev 9, .ev 10, .ev 11, .ch 12, .ev 13]) (.node (some [.ev 0, .ev 1, .ev 2, .ev 3, .ev 4, .ev 5, .ev 6, .ev 7, .ev 8, .ev 9, .ev 10, .ev 11, .ev 12, .ch 13, .re 2, .re 3, .ev 14, .ch 15]) .nil .nil) .nil))) (.node none (.node none (.node (some [.ev 0, .ev 1, .ev 2, .ev 3, .ev 4, .ev 5, .ev 6, .ev 7, .ev 8, .ev 9, .ev 10, .ev 11, .ev 12, .ch 13, .re 2, .re 3, .ev 14, .ch 15]) (.node none .nil .nil) .nil) (.node none (.node none .nil .nil) .nil)) (.node none (.node (some [.ev 0, .ev 1, .ev 2, .ev 3, .ev 4, .ev 5, .ev 6, .ev 7, .ev 8, .ev 9, .ev 10, .ev 11, .ev 12, .ch 13, .re 2, .re 3, .ev 14, .ch 15]) (.node (some [.ev 0, .ev 1, .ev 2, .ev 3, .ev 4, .ev 5, .ev 6, .ev 7, .ev 8, .ev 9, .ev 10, .ev 11, .ev 12, .ch 13, .re 2, .re 3, .ev 14, .ch 15]) .nil .nil) .nil) (.node none .nil .nil))))
def sc297 : T (List Sc) := (.node none (.node none (.node none .nil .nil) (.node none .nil .nil)) (.node none (.node (some [.ev 0, .ev 1, .ev 2, .ev 3, .ev 4, .ev 5, .ev 6, .ev 7, .ev 8, .ev 9, .ev 10, .ev 11, .ev 12, .ch 13, .ev 14]) .nil .nil) (.node (some [.ev 0, .ev 1, .ev 2, .ev 3, .ev 4, .ev 5, .ev 6, .ev 7, .ev 8, .ev 9, .ev 10, .ev 11, .ev 12, .ev 13, .ev 14, .ch 15, .re 2, .re 3, .re 4, .ev 16, .ch 17]) .nil .nil)))
def sc298 : T (List Sc) := (.node none (.node none (.node none (.node none .nil .nil) .nil) (.node none (.node none .nil .nil) .nil)) (.node none (.node none (.node none .nil .nil) .nil) (.node none (.node (some [.ev 0, .ev 1, .ev 2, .ev 3, .ev 4, .ev 5, .ev 6, .ev 7, .ev 8, .ev 9, .ev 10, .ev 11, .ev 12, .ev 13, .ev 14, .ev 15, .ev 16, .ch 17, .re 2, .re 3, .re 4, .re 5, .ev 18, .ch 19]) .nil .nil) .nil)))
def sc299 : T (List Sc) := (.node none (.node none (.node none (.node none .nil .nil) .nil) (.node none (.node none .nil .nil) .nil)) (.node none (.node none (.node none .nil .nil) .nil) (.node none (.node (some [.ev 0, .ev 1, .ev 2, .ev 3, .ev 4, .ev 5, .ev 6, .ev 7, .ev 8, .ev 9, .ev 10, .ev 11, .ev 12, .ev 13, .ev 14, .ev 15, .ev 16, .ch 17, .re 2, .re 3, .re 4, .re 5, .ev 18, .ch 19]) .nil .nil) .nil)))
def sc301 : T (List Sc) := (.node none (.node none (.node (some [.ev 0, .ev 1, .ev 2, .ev 3, .ev 4, .ev 5, .ev 6, .ev 7, .ev 8, .ev 9, .ev 10, .ev 11, .ev 12, .ch 13, .re 2, .re 3, .ev 14, .ch 15]) .nil .nil) .nil) (.node none .nil .nil))
def sc302 : T (List Sc) := (.node none (.node none (.node none (.node none (.node none .nil .nil) (.node (some [.ev 0, .ev 1, .ev 2, .ev 3, .ev 4, .ev 5, .ev 6, .ev 7, .ev 8, .ev 9, .ev 10, .ev 11, .ev 12, .ev 13, .ev 14, .ch 15, .re 2, .re 3, .re 4, .ev 16, .ch 17]) .nil .nil)) (.node (some [.ev 0, .ev 1, .ev 2, .ev 3, .ev 4, .ev 5, .ev 6, .ev 7, .ev 8, .ev 9, .ev 10, .ev 11, .ev 12, .ev 13, .ev 14, .ch 15, .re 2, .re 3, .re 4, .ev 16, .ch 17]) (.node none .nil .nil) .nil)) (.node (some [.ev 0, .ev 1, .ev 2, .ev 3, .ev 4, .ev 5, .ev 6, .ev 7, .ev 8, .ev 9, .ev 10, .ev 11, .ev 12, .ch 13, .ev 14, .ev 15]) (.node none (.node (some [.ev 0, .ev 1, .ev 2, .ev 3, .ev 4, .ev 5, .ev 6, .ev 7, .ev 8, .ev 9, .ev 10, .ev 11, .ev 12, .ev 13, .ev 14, .ch 15, .re 2, .re 3, .re 4, .ev 16, .ch 17]) .nil .nil) .nil) (.node none (.node none .nil .nil) .nil))) (.node none (.node none (.node none (.node (some [.ev 0, .ev 1, .ev 2, .ev 3, .ev 4, .ev 5, .ev 6, .ev 7, .ev 8, .ch 9, .ev 10]) .nil .nil) .nil) (.node none (.node none .nil .nil) .nil)) (.node none (.node none (.node none .nil .nil) .nil) (.node none (.node (some [.ev 0, .ev 1, .ev 2, .ev 3, .ev 4, .ev 5, .ev 6, .ev 7, .ev 8, .ch 9, .ev 10]) .nil .nil) .nil))))
def sc303 : T (List Sc) := (.node none (.node (some [.ev 0, .ev 1, .ev 2, .ev 3, .ev 4, .ev 5, .ev 6, .ev 7, .ev 8, .ev 9, .ev 10, .ev 11, .ev 12, .ch 13, .re 2, .re 3, .ev 14, .ch 15]) (.node (some [.ev 0, .ev 1, .ev 2, .ev 3, .ev 4, .ev 5, .ev 6, .ev 7, .ev 8, .ev 9, .ev 10, .ev 11, .ch 12, .ev 13, .ev 14]) (.node none .nil .nil) .nil) (.node (some [.ev 0, .ev 1, .ev 2, .ev 3, .ev 4, .ev 5, .ev 6, .ev 7, .ev 8, .ev 9, .ev 10, .ev 11, .ch 12, .ev 13]) .nil .nil)) (.node none (.node none (.node (some [.ev 0, .ev 1, .ev 2, .ev 3, .ev 4, .ev 5, .ev 6, .ev 7, .ev 8, .ev 9, .ev 10, .ev 11, .ev 12, .ch 13, .re 2, .re 3, .ev 14, .ch 15]) .nil .nil) .nil) (.node none .nil .nil)))
def sc304 : T (List Sc) := (.node none (.node (some [.ev 0, .ev 1, .ev 2, .ev 3, .ev 4, .ev 5, .ev 6, .ev 7, .ev 8, .ev 9, .ev 10, .ev 11, .ev 12, .ch 13, .re 2, .re 3, .ev 14, .ch 15]) (.node (some [.ev 0, .ev 1, .ev 2, .ev 3, .ev 4, .ev 5, .ev 6, .ev 7, .ev 8, .ev 9, .ev 10, .ev 11, .ch 12, .ev 13]) (.node none (.node (some [.ev 0, .ev 1, .ev 2, .ev 3, .ev 4, .ev 5, .ev 6, .ev 7, .ev 8, .ev 9, .ev 10, .ev 11, .ch 12, .ev 13, .ev 14]) .nil .nil) .nil) (.node none (.node none .nil .nil) .nil)) (.node (some [.ev 0, .ev 1, .ev 2, .ev 3, .ev 4, .ev 5, .ev 6, .ev 7, .ev 8, .ev 9, .ev 10, .ev 11, .ch 12, .ev 13, .ev 14]) (.node none (.node none .nil .nil) .nil) (.node (some [.ev 0, .ev 1, .ev 2, .ev 3, .ev 4, .ev 5, .ev 6, .ev 7, .ev 8, .ev 9, .ev 10, .ev 11, .ch 12, .ev 13]) (.node (some [.ev 0, .ev 1, .ev 2, .ev 3, .ev 4, .ev 5, .ev 6, .ev 7, .ev 8, .ev 9, .ev 10, .ev 11, .ev 12, .ch 13, .re 2, .re 3, .ev 14, .ch 15]) .nil .nil) .nil))) (.node none (.node none (.node (some [.ev 0, .ev 1, .ev 2, .ev 3, .ev 4, .ev 5, .ev 6, .ev 7, .ev 8, .ev 9, .ev 10, .ev 11, .ev 12, .ch 13, .re 2, .re 3, .ev 14, .ch 15]) (.node none .nil .nil) .nil) (.node none (.node none .nil .nil) .nil)) (.node none (.node (some [.ev 0, .ev 1, .ev 2, .ev 3, .ev 4, .ev 5, .ev 6, .ev 7, .ev 8, .ev 9, .ev 10, .ev 11, .ev 12, .ch 13, .re 2, .re 3, .ev 14, .ch 15]) (.node (some [.ev 0, .ev 1, .ev 2, .ev 3, .ev 4, .ev 5, .ev 6, .ev 7, .ev 8, .ev 9, .ev 10, .ev 11, .ev 12, .ch 13, .re 2, .re 3, .ev 14, .ch 15]) .nil .nil) .nil) (.node none .nil .nil))))
def sc307 : T (List Sc) := (.node none (.node none (.node none .nil .nil) .nil) (.node none (.node (some [.ev 0, .ev 1, .ev 2, .ev 3, .ev 4, .ev 5, .ev 6, .ev 7, .ev 8, .ev 9, .ev 10, .ev 11, .ev 12, .ev 13, .ev 14, .ev 15, .ev 16, .ev 17, .ev 18, .ev 19, .ev 20, .ev 21, .ev 22]) .nil .nil) .nil))
def sc308 : T (List Sc) := (.node none (.node none (.node none .nil .nil) (.node (some [.ev 0, .ev 1, .ev 2, .ev 3, .ev 4, .ch 5, .ev 6]) .nil .nil)) (.node none (.node none .nil .nil) .nil))
def sc309 : T (List Sc) := (.node none (.node none (.node (some [.ev 0, .ev 1, .ev 2, .ev 3, .ev 4, .ev 5, .ev 6, .ev 7, .ev 8, .ev 9, .ev 10, .ev 11, .ev 12, .ev 13, .ev 14, .ev 15, .ev 16, .ev 17, .ch 18, .ev 19]) .nil .nil) (.node (some [.ev 0, .ev 1, .ev 2, .ev 3, .ev 4, .ev 5, .ev 6, .ev 7, .ev 8, .ev 9, .ev 10, .ev 11, .ch 12, .ev 13]) .nil .nil)) (.node none (.node none .nil .nil) (.node (some [.ev 0, .ev 1, .ev 2, .ev 3, .ev 4, .ev 5, .ev 6, .ev 7, .ev 8, .ev 9, .ev 10, .ev 11, .ev 12, .ev 13, .ev 14, .ev 15, .ev 16, .ev 17, .ev 18, .ev 19, .ev 20, .ch 21, .re 4, .re 5, .re 6, .re 7, .ev 22, .ch 23]) .nil .nil)))
def sc314 : T (List Sc) := (.node none (.node none (.node (some [.ev 0, .ev 1, .ev 2, .ev 3, .ev 4, .ev 5, .ev 6, .ev 7, .ev 8, .ev 9, .ev 10, .ev 11, .ev 12, .ev 13, .ev 14, .ev 15, .ev 16, .ev 17, .ch 18, .ev 19]) .nil .nil) (.node (some [.ev 0, .ev 1, .ev 2, .ev 3, .ev 4, .ev 5, .ev 6, .ev 7, .ev 8, .ev 9, .ev 10, .ev 11, .ch 12, .ev 13]) .nil .nil)) (.node none (.node none .nil .nil) (.node (some [.ev 0, .ev 1, .ev 2, .ev 3, .ev 4, .ev 5, .ev 6, .ev 7, .ev 8, .ev 9, .ev 10, .ev 11, .ev 12, .ev 13, .ev 14, .ev 15, .ev 16, .ev 17, .ev 18, .ev 19, .ev 20, .ch 21, .re 4, .re 5, .re 6, .re 7, .ev 22, .ch 23]) .nil .nil)))
def sc317 : T (List Sc) := (.node none (.node (some [.ev 0, .ev 1, .ev 2, .ev 3, .ev 4, .ev 5, .ev 6, .ev 7, .ch 8]) .nil .nil) .nil)
def sc318 : T (List Sc) := (.node none (.node (some [.ev 0, .ev 1, .ev 2, .ev 3, .ev 4, .ev 5, .ev 6, .ev 7, .ch 8]) .nil .nil) .nil)
noncomputable def scripts : T (T (List Sc)) := (.node none (.node none (.node (some sc3) (.node none (.node none (.node none (.node none (.node (some sc127) (.node none .nil .nil) .nil) (.node (some sc191) (.node none .nil .nil) .nil)) (.node none (.node none (.node none .nil .nil) .nil) (.node none .nil .nil))) (.node (some sc47) (.node none (.node none (.node (some sc271) .nil .nil) .nil) (.node none (.node none .nil .nil) .nil)) (.node none (.node (some sc175) (.node (some sc303) .nil .nil) .nil) (.node none .nil .nil)))) (.node none (.node none (.node none (.node (some sc135) (.node (some sc263) .nil .nil) .nil) (.node (some sc199) (.node none .nil .nil) .nil)) (.node none (.node none (.node none .nil .nil) .nil) (.node none .nil .nil))) (.node none (.node none (.node (some sc151) (.node none .nil .nil) .nil) (.node none (.node none .nil .nil) .nil)) (.node (some sc119) (.node none (.node none .nil .nil) .nil) (.node none .nil .nil))))) (.node none (.node (some sc19) (.node none (.node none (.node (some sc131) (.node none .nil .nil) .nil) (.node (some sc195) (.node none .nil .nil) .nil)) (.node none (.node none (.node (some sc291) .nil .nil) .nil) (.node none .nil .nil))) (.node none (.node none (.node (some sc147) (.node none .nil .nil) .nil) (.node none (.node none .nil .nil) .nil)) (.node none (.node (some sc179) (.node (some sc307) .nil .nil) .nil) (.node none .nil .nil)))) (.node (some sc27) (.node none (.node none (.node none (.node none .nil .nil) .nil) (.node none (.node none .nil .nil) .nil)) (.node (some sc107) (.node none (.node (some sc299) .nil .nil) .nil) (.node none .nil .nil))) (.node (some sc59) (.node (some sc91) (.node none (.node none .nil .nil) .nil) (.node (some sc219) .nil .nil)) (.node none (.node (some sc187) (.node none .nil .nil) .nil) (.node none .nil .nil)))))) (.node (some sc5) (.node none (.node (some sc17) (.node none (.node none (.node none (.node none .nil .nil) .nil) (.node none (.node none .nil .nil) .nil)) (.node none (.node (some sc161) (.node (some sc289) .nil .nil) .nil) (.node none .nil .nil))) (.node none (.node none (.node none (.node none .nil .nil) .nil) (.node none (.node none .nil .nil) .nil)) (.node (some sc113) (.node (some sc177) (.node none .nil .nil) .nil) (.node (some sc241) .nil .nil)))) (.node (some sc25) (.node none (.node none (.node (some sc137) (.node none .nil .nil) .nil) (.node none (.node none .nil .nil) .nil)) (.node none (.node none (.node (some sc297) .nil .nil) .nil) (.node none .nil .nil))) (.node none (.node none (.node none (.node none .nil .nil) .nil) (.node none (.node none .nil .nil) .nil)) (.node none (.node none (.node none .nil .nil) .nil) (.node none .nil .nil))))) (.node none (.node none (.node (some sc37) (.node (some sc69) (.node none (.node (some sc261) .nil .nil) .nil) (.node (some sc197) (.node none .nil .nil) .nil)) (.node none (.node (some sc165) (.node none .nil .nil) .nil) (.node (some sc229) .nil .nil))) (.node none (.node none (.node (some sc149) (.node (some sc277) .nil .nil) .nil) (.node none (.node none .nil .nil) .nil)) (.node (some sc117) (.node none (.node (some sc309) .nil .nil) .nil) (.node (some sc245) .nil .nil)))) (.node none (.node none (.node none (.node none (.node none .nil .nil) .nil) (.node none (.node none .nil .nil) .nil)) (.node (some sc109) (.node (some sc173) (.node (some sc301) .nil .nil) .nil) (.node (some sc237) .nil .nil))) (.node (some sc61) (.node (some sc93) (.node none (.node (some sc285) .nil .nil) .nil) (.node none .nil .nil)) (.node none (.node (some sc189) (.node (some sc317) .nil .nil) .nil) (.node none .nil .nil))))))) (.node none (.node none (.node none (.node (some sc16) (.node (some sc32) (.node none (.node none (.node none .nil .nil) .nil) (.node none (.node none .nil .nil) .nil)) (.node none (.node (some sc160) (.node (some sc288) .nil .nil) .nil) (.node none .nil .nil))) (.node none (.node none (.node none (.node none .nil .nil) .nil) (.node none (.node none .nil .nil) .nil)) (.node none (.node none (.node (some sc304) .nil .nil) .nil) (.node none .nil .nil)))) (.node none (.node none (.node (some sc72) (.node (some sc136) (.node none .nil .nil) .nil) (.node none (.node none .nil .nil) .nil)) (.node none (.node none (.node none .nil .nil) .nil) (.node (some sc232) .nil .nil))) (.node none (.node none (.node none (.node (some sc280) .nil .nil) .nil) (.node none (.node none .nil .nil) .nil)) (.node (some sc120) (.node none (.node none .nil .nil) .nil) (.node none .nil .nil))))) (.node (some sc12) (.node none (.node none (.node (some sc68) (.node (some sc132) (.node none .nil .nil) .nil) (.node (some sc196) (.node none .nil .nil) .nil)) (.node none (.node none (.node (some sc292) .nil .nil) .nil) (.node none .nil .nil))) (.node none (.node none (.node none (.node none .nil .nil) .nil) (.node none (.node none .nil .nil) .nil)) (.node none (.node none (.node (some sc308) .nil .nil) .nil) (.node none .nil .nil)))) (.node none (.node none (.node none (.node none (.node none .nil .nil) .nil) (.node none (.node none .nil .nil) .nil)) (.node (some sc108) (.node none (.node none .nil .nil) .nil) (.node none .nil .nil))) (.node (some sc60) (.node none (.node none (.node (some sc284) .nil .nil) .nil) (.node none .nil .nil)) (.node (some sc124) (.node none (.node none .nil .nil) .nil) (.node none .nil .nil)))))) (.node none (.node none (.node none (.node none (.node none (.node (some sc130) (.node (some sc258) .nil .nil) .nil) (.node none (.node none .nil .nil) .nil)) (.node none (.node none (.node none .nil .nil) .nil) (.node none .nil .nil))) (.node none (.node none (.node none (.node none .nil .nil) .nil) (.node none (.node none .nil .nil) .nil)) (.node none (.node (some sc178) (.node none .nil .nil) .nil) (.node none .nil .nil)))) (.node (some sc26) (.node none (.node none (.node none (.node none .nil .nil) .nil) (.node none (.node none .nil .nil) .nil)) (.node (some sc106) (.node (some sc170) (.node (some sc298) .nil .nil) .nil) (.node none .nil .nil))) (.node (some sc58) (.node (some sc90) (.node none (.node none .nil .nil) .nil) (.node (some sc218) .nil .nil)) (.node none (.node none (.node (some sc314) .nil .nil) .nil) (.node none .nil .nil))))) (.node none (.node (some sc22) (.node none (.node none (.node (some sc134) (.node (some sc262) .nil .nil) .nil) (.node none (.node none .nil .nil) .nil)) (.node none (.node (some sc166) (.node none .nil .nil) .nil) (.node (some sc230) .nil .nil))) (.node (some sc54) (.node none (.node none (.node none .nil .nil) .nil) (.node none (.node none .nil .nil) .nil)) (.node none (.node none (.node none .nil .nil) .nil) (.node none .nil .nil)))) (.node none (.node none (.node none (.node none (.node none .nil .nil) .nil) (.node none (.node none .nil .nil) .nil)) (.node none (.node (some sc174) (.node (some sc302) .nil .nil) .nil) (.node (some sc238) .nil .nil))) (.node none (.node none (.node (some sc158) (.node (some sc286) .nil .nil) .nil) (.node (some sc222) .nil .nil)) (.node none (.node (some sc190) (.node (some sc318) .nil .nil) .nil) (.node none .nil .nil))))))))
def nglobals : Nat := 3
theorem ty3 : tys.get 3 = some { kind := (.int .i64), size := 1, bytes := 8, zero := [(.int .i64 0)] } := by kernel_rfl
theorem ty4 : tys.get 4 = some { kind := .bool, size := 1, bytes := 1, zero := [(.bool false)] } := by kernel_rfl
theorem ty5 : tys.get 5 = some { kind := (.int .u8), size := 1, bytes := 1, zero := [(.int .u8 0)] } := by kernel_rfl
theorem ty9 : tys.get 9 = some { kind := .string, size := 1, bytes := 16, zero := [(.str [])] } := by kernel_rfl
theorem ty22 : tys.get 22 = some { kind := (.slice 9), size := 1, bytes := 24, zero := [(.base (.slice none 0 0))] } := by kernel_rfl
theorem ty23 : tys.get 23 = some { kind := (.slice 67), size := 1, bytes := 24, zero := [(.base (.slice none 0 0))] } := by kernel_rfl
theorem ty25 : tys.get 25 = some { kind := (.struct [(0, 4, 1, true), (1, 4, 1, true), (2, 22, 1, true), (3, 23, 1, true)]), size := 4, bytes := 56, zero := [(.bool false), (.bool false), (.base (.slice none 0 0)), (.base (.slice none 0 0))] } := by kernel_rfl
theorem ty26 : tys.get 26 = some { kind := (.slice 40), size := 1, bytes := 24, zero := [(.base (.slice none 0 0))] } := by kernel_rfl
theorem ty28 : tys.get 28 = some { kind := (.struct [(0, 4, 1, true), (1, 26, 1, true)]), size := 2, bytes := 32, zero := [(.bool false), (.base (.slice none 0 0))] } := by kernel_rfl
theorem ty40 : tys.get 40 = some { kind := (.slice 47), size := 1, bytes := 24, zero := [(.base (.slice none 0 0))] } := by kernel_rfl
theorem ty45 : tys.get 45 = some { kind := (.int .i64), size := 1, bytes := 8, zero := [(.int .i64 0)] } := by kernel_rfl
theorem ty47 : tys.get 47 = some { kind := (.struct [(0, 45, 1, true), (1, 9, 1, true), (2, 9, 1, true)]), size := 3, bytes := 40, zero := [(.int .i64 0), (.str []), (.str [])] } := by kernel_rfl
theorem ty49 : tys.get 49 = some { kind := (.struct [(0, 9, 1, true), (1, 47, 3, true)]), size := 4, bytes := 56, zero := [(.str []), (.int .i64 0), (.str []), (.str [])] } := by kernel_rfl
theorem ty51 : tys.get 51 = some { kind := (.array 3 49), size := 12, bytes := 168, zero := [(.str []), (.int .i64 0), (.str []), (.str []), (.str []), (.int .i64 0), (.str []), (.str []), (.str []), (.int .i64 0), (.str []), (.str [])] } := by kernel_rfl
theorem ty53 : tys.get 53 = some { kind := (.struct [(0, 51, 12, true), (12, 23, 1, true)]), size := 13, bytes := 192, zero := [(.str []), (.int .i64 0), (.str []), (.str []), (.str []), (.int .i64 0), (.str []), (.str []), (.str []), (.int .i64 0), (.str []), (.str []), (.base (.slice none 0 0))] } := by kernel_rfl
theorem ty54 : tys.get 54 = some { kind := (.slice 53), size := 1, bytes := 24, zero := [(.base (.slice none 0 0))] } := by kernel_rfl
theorem ty65 : tys.get 65 = some { kind := (.int .i64), size := 1, bytes := 8, zero := [(.int .i64 0)] } := by kernel_rfl
theorem ty67 : tys.get 67 = some { kind := (.struct [(0, 65, 1, true), (1, 51, 12, true), (13, 49, 4, true), (17, 49, 4, true)]), size := 21, bytes := 288, zero := [(.int .i64 0), (.str []), (.int .i64 0), (.str []), (.str []), (.str []), (.int .i64 0), (.str []), (.str []), (.str []), (.int .i64 0), (.str []), (.str []), (.str []), (.int .i64 0), (.str []), (.str []), (.str []), (.int .i64 0), (.str []), (.str [])] } := by kernel_rfl
theorem ty71 : tys.get 71 = some { kind := (.struct [(0, 9, 1, true)]), size := 1, bytes := 16, zero := [(.str [])] } := by kernel_rfl
theorem ty72 : tys.get 72 = some { kind := (.map 4 71), size := 1, bytes := 8, zero := [(.base (.map none))] } := by kernel_rfl
theorem ty74 : tys.get 74 = some { kind := .func, size := 1, bytes := 8, zero := [(.base .nilFunc)] } := by kernel_rfl
theorem ty89 : tys.get 89 = some { kind := (.map 9 3), size := 1, bytes := 8, zero := [(.base (.map none))] } := by kernel_rfl
theorem ty96 : tys.get 96 = some { kind := (.map 45 74), size := 1, bytes := 8, zero := [(.base (.map none))] } := by kernel_rfl
theorem ty141 : tys.get 141 = some { kind := (.slice 3), size := 1, bytes := 24, zero := [(.base (.slice none 0 0))] } := by kernel_rfl
theorem ty163 : tys.get 163 = some { kind := (.slice 49), size := 1, bytes := 24, zero := [(.base (.slice none 0 0))] } := by kernel_rfl
theorem ty165 : tys.get 165 = some { kind := (.slice 5), size := 1, bytes := 24, zero := [(.base (.slice none 0 0))] } := by kernel_rfl
theorem ty173 : tys.get 173 = some { kind := .func, size := 1, bytes := 8, zero := [(.base .nilFunc)] } := by kernel_rfl
theorem ty174 : tys.get 174 = some { kind := (.slice 268), size := 1, bytes := 24, zero := [(.base (.slice none 0 0))] } := by kernel_rfl
theorem ty258 : tys.get 258 = some { kind := (.map 65 173), size := 1, bytes := 8, zero := [(.base (.map none))] } := by kernel_rfl
theorem ty268 : tys.get 268 = some { kind := (.struct [(0, 3, 1, true), (1, 3, 1, true)]), size := 2, bytes := 16, zero := [(.int .i64 0), (.int .i64 0)] } := by kernel_rfl
theorem ty341 : tys.get 341 = some { kind := (.map 5 5), size := 1, bytes := 8, zero := [(.base (.map none))] } := by kernel_rfl
theorem fn3 : fns.get 3 = some Tryz.f3 := by kernel_rfl
theorem fz3 : Tryz.f3.ntmps = 96 := by kernel_rfl
theorem fn4 : fns.get 4 = some Tryz.f4 := by kernel_rfl
theorem fz4 : Tryz.f4.ntmps = 40 := by kernel_rfl
theorem fn5 : fns.get 5 = some Tryz.f5 := by kernel_rfl
theorem fz5 : Tryz.f5.ntmps = 66 := by kernel_rfl
theorem fn7 : fns.get 7 = some Tryz.f7 := by kernel_rfl
theorem fz7 : Tryz.f7.ntmps = 46 := by kernel_rfl
theorem fn8 : fns.get 8 = some Tryz.f8 := by kernel_rfl
theorem fz8 : Tryz.f8.ntmps = 47 := by kernel_rfl
theorem fn9 : fns.get 9 = some Tryz.f9 := by kernel_rfl
theorem fz9 : Tryz.f9.ntmps = 4 := by kernel_rfl
theorem fn10 : fns.get 10 = some Tryz.f10 := by kernel_rfl
theorem fz10 : Tryz.f10.ntmps = 8 := by kernel_rfl
theorem fn11 : fns.get 11 = some Tryz.f11 := by kernel_rfl
theorem fz11 : Tryz.f11.ntmps = 30 := by kernel_rfl
theorem fn12 : fns.get 12 = some Tryz.f12 := by kernel_rfl
theorem fz12 : Tryz.f12.ntmps = 78 := by kernel_rfl
theorem fn18 : fns.get 18 = some Tryz.f18 := by kernel_rfl
theorem fz18 : Tryz.f18.ntmps = 103 := by kernel_rfl
theorem fn19 : fns.get 19 = some Tryz.f19 := by kernel_rfl
theorem fz19 : Tryz.f19.ntmps = 131 := by kernel_rfl
theorem fn20 : fns.get 20 = some Tryz.f20 := by kernel_rfl
theorem fz20 : Tryz.f20.ntmps = 9 := by kernel_rfl
theorem fn21 : fns.get 21 = some Tryz.f21 := by kernel_rfl
theorem fz21 : Tryz.f21.ntmps = 6 := by kernel_rfl
theorem fn22 : fns.get 22 = some Tryz.f22 := by kernel_rfl
theorem fz22 : Tryz.f22.ntmps = 15 := by kernel_rfl
theorem fn23 : fns.get 23 = some Tryz.f23 := by kernel_rfl
theorem fz23 : Tryz.f23.ntmps = 26 := by kernel_rfl
theorem fn24 : fns.get 24 = some Tryz.f24 := by kernel_rfl
theorem fz24 : Tryz.f24.ntmps = 64 := by kernel_rfl
theorem fn25 : fns.get 25 = some Tryz.f25 := by kernel_rfl
theorem fz25 : Tryz.f25.ntmps = 38 := by kernel_rfl
theorem fn26 : fns.get 26 = some Tryz.f26 := by kernel_rfl
theorem fz26 : Tryz.f26.ntmps = 34 := by kernel_rfl
theorem fn33 : fns.get 33 = some Tryz.f33 := by kernel_rfl
theorem fz33 : Tryz.f33.ntmps = 9 := by kernel_rfl
theorem fn34 : fns.get 34 = some Tryz.f34 := by kernel_rfl
theorem fz34 : Tryz.f34.ntmps = 31 := by kernel_rfl
theorem fn35 : fns.get 35 = some Tryz.f35 := by kernel_rfl
theorem fz35 : Tryz.f35.ntmps = 47 := by kernel_rfl
theorem fn36 : fns.get 36 = some Tryz.f36 := by kernel_rfl
theorem fz36 : Tryz.f36.ntmps = 50 := by kernel_rfl
theorem fn37 : fns.get 37 = some Tryz.f37 := by kernel_rfl
theorem fz37 : Tryz.f37.ntmps = 88 := by kernel_rfl
theorem fn38 : fns.get 38 = some Tryz.f38 := by kernel_rfl
theorem fz38 : Tryz.f38.ntmps = 18 := by kernel_rfl
theorem fn39 : fns.get 39 = some Tryz.f39 := by kernel_rfl
theorem fz39 : Tryz.f39.ntmps = 19 := by kernel_rfl
theorem fn40 : fns.get 40 = some Tryz.f40 := by kernel_rfl
theorem fz40 : Tryz.f40.ntmps = 3 := by kernel_rfl
theorem fn41 : fns.get 41 = some Tryz.f41 := by kernel_rfl
theorem fz41 : Tryz.f41.ntmps = 9 := by kernel_rfl
theorem fn43 : fns.get 43 = some Tryz.f43 := by kernel_rfl
theorem fz43 : Tryz.f43.ntmps = 14 := by kernel_rfl
theorem fn44 : fns.get 44 = some Tryz.f44 := by kernel_rfl
theorem fz44 : Tryz.f44.ntmps = 51 := by kernel_rfl
theorem fn45 : fns.get 45 = some Tryz.f45 := by kernel_rfl
theorem fz45 : Tryz.f45.ntmps = 39 := by kernel_rfl
theorem fn46 : fns.get 46 = some Tryz.f46 := by kernel_rfl
theorem fz46 : Tryz.f46.ntmps = 66 := by kernel_rfl
theorem fn47 : fns.get 47 = some Tryz.f47 := by kernel_rfl
theorem fz47 : Tryz.f47.ntmps = 84 := by kernel_rfl
theorem fn74 : fns.get 74 = some Tryz.f74 := by kernel_rfl
theorem fz74 : Tryz.f74.ntmps = 40 := by kernel_rfl
theorem fn75 : fns.get 75 = some Tryz.f75 := by kernel_rfl
theorem fz75 : Tryz.f75.ntmps = 13 := by kernel_rfl
theorem fn76 : fns.get 76 = some Tryz.f76 := by kernel_rfl
theorem fz76 : Tryz.f76.ntmps = 18 := by kernel_rfl
theorem fn77 : fns.get 77 = some Tryz.f77 := by kernel_rfl
theorem fz77 : Tryz.f77.ntmps = 9 := by kernel_rfl
theorem fn78 : fns.get 78 = some Tryz.f78 := by kernel_rfl
theorem fz78 : Tryz.f78.ntmps = 16 := by kernel_rfl
theorem fn79 : fns.get 79 = some Tryz.f79 := by kernel_rfl
theorem fz79 : Tryz.f79.ntmps = 18 := by kernel_rfl
theorem fn80 : fns.get 80 = some Tryz.f80 := by kernel_rfl
theorem fz80 : Tryz.f80.ntmps = 18 := by kernel_rfl
theorem fn81 : fns.get 81 = some Tryz.f81 := by kernel_rfl
theorem fz81 : Tryz.f81.ntmps = 11 := by kernel_rfl
theorem fn82 : fns.get 82 = some Tryz.f82 := by kernel_rfl
theorem fz82 : Tryz.f82.ntmps = 34 := by kernel_rfl
theorem fn83 : fns.get 83 = some Tryz.f83 := by kernel_rfl
theorem fz83 : Tryz.f83.ntmps = 11 := by kernel_rfl
theorem fn84 : fns.get 84 = some Tryz.f84 := by kernel_rfl
theorem fz84 : Tryz.f84.ntmps = 34 := by kernel_rfl
theorem fn85 : fns.get 85 = some Tryz.f85 := by kernel_rfl
theorem fz85 : Tryz.f85.ntmps = 11 := by kernel_rfl
theorem fn86 : fns.get 86 = some Tryz.f86 := by kernel_rfl
theorem fz86 : Tryz.f86.ntmps = 10 := by kernel_rfl
theorem fn87 : fns.get 87 = some Tryz.f87 := by kernel_rfl
theorem fz87 : Tryz.f87.ntmps = 11 := by kernel_rfl
theorem fn88 : fns.get 88 = some Tryz.f88 := by kernel_rfl
theorem fz88 : Tryz.f88.ntmps = 45 := by kernel_rfl
theorem fn89 : fns.get 89 = some Tryz.f89 := by kernel_rfl
theorem fz89 : Tryz.f89.ntmps = 16 := by kernel_rfl
theorem fn90 : fns.get 90 = some Tryz.f90 := by kernel_rfl
theorem fz90 : Tryz.f90.ntmps = 38 := by kernel_rfl
theorem fn94 : fns.get 94 = some Tryz.f94 := by kernel_rfl
theorem fz94 : Tryz.f94.ntmps = 37 := by kernel_rfl
theorem fn95 : fns.get 95 = some Tryz.f95 := by kernel_rfl
theorem fz95 : Tryz.f95.ntmps = 17 := by kernel_rfl
theorem fn96 : fns.get 96 = some Tryz.f96 := by kernel_rfl
theorem fz96 : Tryz.f96.ntmps = 17 := by kernel_rfl
theorem fn97 : fns.get 97 = some Tryz.f97 := by kernel_rfl
theorem fz97 : Tryz.f97.ntmps = 9 := by kernel_rfl
theorem fn112 : fns.get 112 = some Tryz.f112 := by kernel_rfl
theorem fz112 : Tryz.f112.ntmps = 19 := by kernel_rfl
theorem fn144 : fns.get 144 = some Tryz.f144 := by kernel_rfl
theorem fz144 : Tryz.f144.ntmps = 16 := by kernel_rfl
theorem fn145 : fns.get 145 = some Tryz.f145 := by kernel_rfl
theorem fz145 : Tryz.f145.ntmps = 18 := by kernel_rfl
theorem fn146 : fns.get 146 = some Tryz.f146 := by kernel_rfl
theorem fz146 : Tryz.f146.ntmps = 5 := by kernel_rfl
theorem fn147 : fns.get 147 = some Tryz.f147 := by kernel_rfl
theorem fz147 : Tryz.f147.ntmps = 18 := by kernel_rfl
theorem fn148 : fns.get 148 = some Tryz.f148 := by kernel_rfl
theorem fz148 : Tryz.f148.ntmps = 6 := by kernel_rfl
theorem fn149 : fns.get 149 = some Tryz.f149 := by kernel_rfl
theorem fz149 : Tryz.f149.ntmps = 10 := by kernel_rfl
theorem fn150 : fns.get 150 = some Tryz.f150 := by kernel_rfl
theorem fz150 : Tryz.f150.ntmps = 18 := by kernel_rfl
theorem fn151 : fns.get 151 = some Tryz.f151 := by kernel_rfl
theorem fz151 : Tryz.f151.ntmps = 10 := by kernel_rfl
theorem fn152 : fns.get 152 = some Tryz.f152 := by kernel_rfl
theorem fz152 : Tryz.f152.ntmps = 18 := by kernel_rfl
theorem fn153 : fns.get 153 = some Tryz.f153 := by kernel_rfl
theorem fz153 : Tryz.f153.ntmps = 4 := by kernel_rfl
theorem fn154 : fns.get 154 = some Tryz.f154 := by kernel_rfl
theorem fz154 : Tryz.f154.ntmps = 8 := by kernel_rfl
theorem fn155 : fns.get 155 = some Tryz.f155 := by kernel_rfl
theorem fz155 : Tryz.f155.ntmps = 17 := by kernel_rfl
theorem fn156 : fns.get 156 = some Tryz.f156 := by kernel_rfl
theorem fz156 : Tryz.f156.ntmps = 9 := by kernel_rfl
theorem fn157 : fns.get 157 = some Tryz.f157 := by kernel_rfl
theorem fz157 : Tryz.f157.ntmps = 8 := by kernel_rfl
theorem fn158 : fns.get 158 = some Tryz.f158 := by kernel_rfl
theorem fz158 : Tryz.f158.ntmps = 57 := by kernel_rfl
theorem fn161 : fns.get 161 = some Tryz.f161 := by kernel_rfl
theorem fz161 : Tryz.f161.ntmps = 60 := by kernel_rfl
theorem fn204 : fns.get 204 = some Tryz.f204 := by kernel_rfl
theorem fz204 : Tryz.f204.ntmps = 48 := by kernel_rfl
theorem fn205 : fns.get 205 = some Tryz.f205 := by kernel_rfl
theorem fz205 : Tryz.f205.ntmps = 12 := by kernel_rfl
theorem fn206 : fns.get 206 = some Tryz.f206 := by kernel_rfl
theorem fz206 : Tryz.f206.ntmps = 31 := by kernel_rfl
theorem fn207 : fns.get 207 = some Tryz.f207 := by kernel_rfl
theorem fz207 : Tryz.f207.ntmps = 56 := by kernel_rfl
theorem fn208 : fns.get 208 = some Tryz.f208 := by kernel_rfl
theorem fz208 : Tryz.f208.ntmps = 8 := by kernel_rfl
theorem fn209 : fns.get 209 = some Tryz.f209 := by kernel_rfl
theorem fz209 : Tryz.f209.ntmps = 66 := by kernel_rfl
theorem fn212 : fns.get 212 = some Tryz.f212 := by kernel_rfl
theorem fz212 : Tryz.f212.ntmps = 17 := by kernel_rfl
theorem fn213 : fns.get 213 = some Tryz.f213 := by kernel_rfl
theorem fz213 : Tryz.f213.ntmps = 54 := by kernel_rfl
theorem fn247 : fns.get 247 = some Tryz.f247 := by kernel_rfl
theorem fz247 : Tryz.f247.ntmps = 39 := by kernel_rfl
theorem fn248 : fns.get 248 = some Tryz.f248 := by kernel_rfl
theorem fz248 : Tryz.f248.ntmps = 17 := by kernel_rfl
theorem fn249 : fns.get 249 = some Tryz.f249 := by kernel_rfl
theorem fn251 : fns.get 251 = some Tryz.f251 := by kernel_rfl
theorem fz251 : Tryz.f251.ntmps = 34 := by kernel_rfl
theorem fn252 : fns.get 252 = some Tryz.f252 := by kernel_rfl
theorem fz252 : Tryz.f252.ntmps = 8 := by kernel_rfl
theorem fn274 : fns.get 274 = some Tryz.f274 := by kernel_rfl
theorem fn275 : fns.get 275 = some Tryz.f275 := by kernel_rfl
theorem fz275 : Tryz.f275.ntmps = 143 := by kernel_rfl
theorem sr3_10 : (scripts.get 3) = some sc3 := by kernel_rfl
theorem ss3_10 : sc3.get 10 = some [.ev 0, .ev 1, .ev 2, .ev 3, .ev 4, .ev 5, .ev 6, .ev 7, .ev 8] := by kernel_rfl
theorem sk3_10 : scOk tys (opsOf Tryz.f3 10) [.ev 0, .ev 1, .ev 2, .ev 3, .ev 4, .ev 5, .ev 6, .ev 7, .ev 8] = true := by kernel_rfl
theorem sr5_8 : (scripts.get 5) = some sc5 := by kernel_rfl
theorem ss5_8 : sc5.get 8 = some [.ev 0, .ev 1, .ev 2, .ev 3, .ev 4, .ev 5, .ev 6, .ev 7, .ev 8, .ev 9, .ev 10, .ev 11, .ev 12, .ev 13, .ev 14, .ev 15, .ev 16, .ev 17, .ev 18, .ev 19, .ev 20, .ev 21, .ev 22, .ev 23, .ch 24] := by kernel_rfl
theorem sk5_8 : scOk tys (opsOf Tryz.f5 8) [.ev 0, .ev 1, .ev 2, .ev 3, .ev 4, .ev 5, .ev 6, .ev 7, .ev 8, .ev 9, .ev 10, .ev 11, .ev 12, .ev 13, .ev 14, .ev 15, .ev 16, .ev 17, .ev 18, .ev 19, .ev 20, .ev 21, .ev 22, .ev 23, .ch 24] = true := by kernel_rfl
theorem sr12_10 : (scripts.get 12) = some sc12 := by kernel_rfl
theorem ss12_10 : sc12.get 10 = some [.ev 0, .ev 1, .ev 2, .ev 5, .ev 6, .ev 7, .ev 8, .ev 9, .ev 10, .ch 3, .re 0, .ev 4, .re 5, .re 6, .re 7, .re 8, .re 9, .re 10, .ch 11, .re 0, .re 4, .ev 12, .ch 13] := by kernel_rfl
theorem sk12_10 : scOk tys (opsOf Tryz.f12 10) [.ev 0, .ev 1, .ev 2, .ev 5, .ev 6, .ev 7, .ev 8, .ev 9, .ev 10, .ch 3, .re 0, .ev 4, .re 5, .re 6, .re 7, .re 8, .re 9, .re 10, .ch 11, .re 0, .re 4, .ev 12, .ch 13] = true := by kernel_rfl
theorem sr19_13 : (scripts.get 19) = some sc19 := by kernel_rfl
theorem ss19_13 : sc19.get 13 = some [.ev 0, .ev 2, .ev 3, .ch 1, .re 2, .re 3, .ch 4, .ev 5, .ev 6] := by kernel_rfl
theorem sk19_13 : scOk tys (opsOf Tryz.f19 13) [.ev 0, .ev 2, .ev 3, .ch 1, .re 2, .re 3, .ch 4, .ev 5, .ev 6] = true := by kernel_rfl
theorem sr19_22 : (scripts.get 19) = some sc19 := by kernel_rfl
theorem ss19_22 : sc19.get 22 = some [.ev 0, .ev 1, .ev 2, .ev 3, .ev 4, .ev 5, .ch 6, .ev 7, .ev 8, .ev 9, .ev 10, .ev 11, .ev 12, .ev 13, .ev 14, .ev 15, .ev 16, .ev 17, .ch 18, .ev 19] := by kernel_rfl
theorem sk19_22 : scOk tys (opsOf Tryz.f19 22) [.ev 0, .ev 1, .ev 2, .ev 3, .ev 4, .ev 5, .ch 6, .ev 7, .ev 8, .ev 9, .ev 10, .ev 11, .ev 12, .ev 13, .ev 14, .ev 15, .ev 16, .ev 17, .ch 18, .ev 19] = true := by kernel_rfl
theorem sr22_1 : (scripts.get 22) = some sc22 := by kernel_rfl
theorem ss22_1 : sc22.get 1 = some [.ev 1, .ev 2, .ch 0, .re 1, .re 2, .ev 3, .ev 4] := by kernel_rfl
theorem sk22_1 : scOk tys (opsOf Tryz.f22 1) [.ev 1, .ev 2, .ch 0, .re 1, .re 2, .ev 3, .ev 4] = true := by kernel_rfl
theorem sr25_7 : (scripts.get 25) = some sc25 := by kernel_rfl
theorem ss25_7 : sc25.get 7 = some [.ev 0, .ev 1, .ev 4, .ev 5, .ch 2, .ev 3, .re 4, .re 5, .ev 6, .ev 7] := by kernel_rfl
theorem sk25_7 : scOk tys (opsOf Tryz.f25 7) [.ev 0, .ev 1, .ev 4, .ev 5, .ch 2, .ev 3, .re 4, .re 5, .ev 6, .ev 7] = true := by kernel_rfl
theorem sr25_9 : (scripts.get 25) = some sc25 := by kernel_rfl
theorem ss25_9 : sc25.get 9 = some [.ev 0, .ev 1, .ev 4, .ev 5, .ch 2, .ev 3, .re 4, .re 5, .ev 6, .ev 7, .ev 8] := by kernel_rfl
theorem sk25_9 : scOk tys (opsOf Tryz.f25 9) [.ev 0, .ev 1, .ev 4, .ev 5, .ch 2, .ev 3, .re 4, .re 5, .ev 6, .ev 7, .ev 8] = true := by kernel_rfl
theorem sr26_5 : (scripts.get 26) = some sc26 := by kernel_rfl
theorem ss26_5 : sc26.get 5 = some [.ev 0, .ev 1, .ev 2, .ev 3, .ev 4, .ev 5, .ev 6, .ev 7, .ev 8, .ev 9, .ev 10, .ev 11, .ev 12, .ev 13, .ev 14, .ev 15, .ev 16, .ev 17, .ev 18, .ev 19, .ev 20, .ev 21, .ev 22, .ev 23, .ch 24] := by kernel_rfl
theorem sk26_5 : scOk tys (opsOf Tryz.f26 5) [.ev 0, .ev 1, .ev 2, .ev 3, .ev 4, .ev 5, .ev 6, .ev 7, .ev 8, .ev 9, .ev 10, .ev 11, .ev 12, .ev 13, .ev 14, .ev 15, .ev 16, .ev 17, .ev 18, .ev 19, .ev 20, .ev 21, .ev 22, .ev 23, .ch 24] = true := by kernel_rfl
theorem sr37_5 : (scripts.get 37) = some sc37 := by kernel_rfl
theorem ss37_5 : sc37.get 5 = some [.ev 0, .ev 1, .ev 2, .ev 3, .ev 4, .ev 5, .ev 6, .ev 7, .ev 8, .ev 9, .ev 10, .ev 11] := by kernel_rfl
theorem sk37_5 : scOk tys (opsOf Tryz.f37 5) [.ev 0, .ev 1, .ev 2, .ev 3, .ev 4, .ev 5, .ev 6, .ev 7, .ev 8, .ev 9, .ev 10, .ev 11] = true := by kernel_rfl
theorem sr37_7 : (scripts.get 37) = some sc37 := by kernel_rfl
theorem ss37_7 : sc37.get 7 = some [.ev 0, .ev 1, .ev 2, .ev 3, .ev 4, .ev 5, .ev 6, .ev 7, .ev 8, .ev 9, .ev 10, .ev 11, .ev 12, .ev 13, .ev 14, .ev 15, .ev 16, .ev 17, .ev 18, .ev 19] := by kernel_rfl
theorem sk37_7 : scOk tys (opsOf Tryz.f37 7) [.ev 0, .ev 1, .ev 2, .ev 3, .ev 4, .ev 5, .ev 6, .ev 7, .ev 8, .ev 9, .ev 10, .ev 11, .ev 12, .ev 13, .ev 14, .ev 15, .ev 16, .ev 17, .ev 18, .ev 19] = true := by kernel_rfl
theorem sr47_21 : (scripts.get 47) = some sc47 := by kernel_rfl
theorem ss47_21 : sc47.get 21 = some [.ev 0, .ev 1, .ev 2, .ev 3, .ev 4, .ev 5, .ev 6, .ev 7, .ev 8, .ev 9, .ch 10, .ch 11] := by kernel_rfl
theorem sk47_21 : scOk tys (opsOf Tryz.f47 21) [.ev 0, .ev 1, .ev 2, .ev 3, .ev 4, .ev 5, .ev 6, .ev 7, .ev 8, .ev 9, .ch 10, .ch 11] = true := by kernel_rfl
theorem sr90_7 : (scripts.get 90) = some sc90 := by kernel_rfl
theorem ss90_7 : sc90.get 7 = some [.ev 0, .ev 1, .ev 4, .ev 5, .ch 2, .ev 3, .re 4, .re 5, .ev 6, .ev 7] := by kernel_rfl
theorem sk90_7 : scOk tys (opsOf Tryz.f90 7) [.ev 0, .ev 1, .ev 4, .ev 5, .ch 2, .ev 3, .re 4, .re 5, .ev 6, .ev 7] = true := by kernel_rfl
theorem sr90_9 : (scripts.get 90) = some sc90 := by kernel_rfl
theorem ss90_9 : sc90.get 9 = some [.ev 0, .ev 1, .ev 4, .ev 5, .ch 2, .ev 3, .re 4, .re 5, .ev 6, .ev 7, .ev 8] := by kernel_rfl
theorem sk90_9 : scOk tys (opsOf Tryz.f90 9) [.ev 0, .ev 1, .ev 4, .ev 5, .ch 2, .ev 3, .re 4, .re 5, .ev 6, .ev 7, .ev 8] = true := by kernel_rfl
theorem sr147_1 : (scripts.get 147) = some sc147 := by kernel_rfl
theorem ss147_1 : sc147.get 1 = some [.ev 0, .ev 1, .ev 5, .ev 6, .ev 10, .ev 11, .ch 2, .ev 3, .ev 4, .re 5, .re 6, .re 10, .re 11, .ch 7, .re 3, .re 4, .ev 8, .ev 9, .re 10, .re 11, .ch 12, .re 3, .re 4, .re 8, .re 9, .ev 13, .ev 14, .ev 15] := by kernel_rfl
theorem sk147_1 : scOk tys (opsOf Tryz.f147 1) [.ev 0, .ev 1, .ev 5, .ev 6, .ev 10, .ev 11, .ch 2, .ev 3, .ev 4, .re 5, .re 6, .re 10, .re 11, .ch 7, .re 3, .re 4, .ev 8, .ev 9, .re 10, .re 11, .ch 12, .re 3, .re 4, .re 8, .re 9, .ev 13, .ev 14, .ev 15] = true := by kernel_rfl
theorem sr149_1 : (scripts.get 149) = some sc149 := by kernel_rfl
theorem ss149_1 : sc149.get 1 = some [.ev 0, .ev 1, .ev 4, .ev 5, .ch 2, .ev 3, .re 4, .re 5, .ch 6, .re 3, .ev 7, .ev 8] := by kernel_rfl
theorem sk149_1 : scOk tys (opsOf Tryz.f149 1) [.ev 0, .ev 1, .ev 4, .ev 5, .ch 2, .ev 3, .re 4, .re 5, .ch 6, .re 3, .ev 7, .ev 8] = true := by kernel_rfl
theorem sr151_1 : (scripts.get 151) = some sc151 := by kernel_rfl
theorem ss151_1 : sc151.get 1 = some [.ev 0, .ev 1, .ev 4, .ev 5, .ch 2, .ev 3, .re 4, .re 5, .ch 6, .re 3, .ev 7, .ev 8] := by kernel_rfl
theorem sk151_1 : scOk tys (opsOf Tryz.f151 1) [.ev 0, .ev 1, .ev 4, .ev 5, .ch 2, .ev 3, .re 4, .re 5, .ch 6, .re 3, .ev 7, .ev 8] = true := by kernel_rfl
theorem sr158_12 : (scripts.get 158) = some sc158 := by kernel_rfl
theorem ss158_12 : sc158.get 12 = some [.ev 0, .ev 1, .ev 2, .ev 3, .ev 4, .ev 5, .ev 6, .ev 7, .ch 8, .ch 9] := by kernel_rfl
theorem sk158_12 : scOk tys (opsOf Tryz.f158 12) [.ev 0, .ev 1, .ev 2, .ev 3, .ev 4, .ev 5, .ev 6, .ev 7, .ch 8, .ch 9] = true := by kernel_rfl
theorem sr161_14 : (scripts.get 161) = some sc161 := by kernel_rfl
theorem ss161_14 : sc161.get 14 = some [.ev 0, .ch 1, .ev 2, .ev 3, .ev 6, .ev 7, .ev 8, .ch 4, .ev 5, .re 6, .re 7, .re 8, .ev 9, .ev 10] := by kernel_rfl
theorem sk161_14 : scOk tys (opsOf Tryz.f161 14) [.ev 0, .ch 1, .ev 2, .ev 3, .ev 6, .ev 7, .ev 8, .ch 4, .ev 5, .re 6, .re 7, .re 8, .ev 9, .ev 10] = true := by kernel_rfl
noncomputable def exts : T Ext := T.setK (T.setK (T.setK (T.blank 10) 249 (some .indexByte) .nil id) 274 (some .count) .nil id) 246 (some .cmp) .nil id
noncomputable def env0 : Env := { ext := exts, tys, fns, scripts, subs := .nil, subF := fun _ _ _ _ => bad 0, comb := fun _ => bad 0, hook := hookJ 42 6 }
theorem e0_tys : env0.tys = tys := rfl
theorem e0_fns : env0.fns = fns := rfl
theorem e0_scripts : env0.scripts = scripts := rfl
theorem e0_hook {f : Nat} {a : List V} {h : T O} (hf : or (Nat.beq f 42) (Nat.beq f 6) = false := by rfl) : env0.hook f a h = none := hookJ_none hf
theorem e0_subs {f : Nat} : env0.subs.get f = none := rfl
theorem e0_ext249 : env0.ext.get 249 = some .indexByte := by kernel_rfl
theorem e0_ext274 : env0.ext.get 274 = some .count := by kernel_rfl
theorem e0_ext246 : env0.ext.get 246 = some .cmp := by kernel_rfl
/-- the walk's own small rules, in one -/
def mBase := And.intro @Bool.true_or <| And.intro @Bool.or_true <| And.intro @Bool.false_or <| And.intro @Bool.or_false <| And.intro @Bool.and_true <| And.intro @Bool.true_and <| And.intro @or_false <| And.intro @false_or <| And.intro @or_self <| And.intro @or_true <| And.intro @true_or <| And.intro @pair_eta <| And.intro @popK_dreg <| And.intro @Int.cast_ofNat_Int <| And.intro @popK_reg <| And.intro @popK_nil <| And.intro @fL_eq <| And.intro @Nat.zero_add <| And.intro @Nat.add_zero <| And.intro @W_ite <| And.intro @argT_get <| And.intro @ofT_get <| And.intro @e0_tys <| And.intro @e0_fns <| And.intro @e0_scripts <| And.intro @Int.toNat_natCast <| And.intro @not_true_eq_false <| And.intro @not_false_eq_true <| And.intro @and_true <| And.intro @true_and <| And.intro @List.flatten_cons.{0} <| And.intro @List.flatten_nil.{0} <| And.intro @List.replicate_succ.{0} <| And.intro @List.replicate_zero.{0} <| And.intro @List.take_succ_cons.{0} <| And.intro @List.take_zero.{0} <| And.intro @List.take_nil.{0} <| And.intro @List.drop_succ_cons.{0} <| And.intro @List.drop_zero.{0} <| And.intro @List.drop_nil.{0} <| And.intro @List.length_append.{0} <| And.intro @List.nil_append.{0} <| And.intro @List.append_nil.{0} <| And.intro @List.cons_append.{0} <| And.intro @fNat_eq <| And.intro @fInt_eq <| And.intro @fB_eq <| And.intro @spine_eq <| And.intro @T.get_put <| And.intro @List.getElem?_cons.{0} <| And.intro @List.toList_toArray.{0} <| And.intro @List.length_cons.{0} <| And.intro @List.length_nil.{0} <| @nth_eq
/-- the walk's rules, in one -/
def mAll := And.intro mVal <| And.intro mBase <| And.intro @resultsK_eq <| And.intro @wantU <| And.intro @ty141 <| And.intro @ty163 <| And.intro @ty165 <| And.intro @ty173 <| And.intro @ty174 <| And.intro @ty22 <| And.intro @ty23 <| And.intro @ty25 <| And.intro @ty258 <| And.intro @ty26 <| And.intro @ty268 <| And.intro @ty28 <| And.intro @ty3 <| And.intro @ty341 <| And.intro @ty4 <| And.intro @ty40 <| And.intro @ty45 <| And.intro @ty47 <| And.intro @ty49 <| And.intro @ty5 <| And.intro @ty51 <| And.intro @ty53 <| And.intro @ty54 <| And.intro @ty65 <| And.intro @ty67 <| And.intro @ty71 <| And.intro @ty72 <| And.intro @ty74 <| And.intro @ty89 <| And.intro @ty9 <| @ty96
end Go.Mir
