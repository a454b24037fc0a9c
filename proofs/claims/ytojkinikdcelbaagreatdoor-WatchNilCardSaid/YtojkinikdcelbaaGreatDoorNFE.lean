/- The closed facts of the row of watchNil, together. No statement of the program is proved here. -/
import Derived.Test.YtojkinikdcelbaaGreatDoorRows
import Derived.ProofKit
import Derived.Test.YtojkinikdcelbaaGreatDoorNKE
import Derived.Test.YtojkinikdcelbaaGreatDoorNKA
set_option linter.unusedSimpArgs false
set_option linter.unusedVariables false
set_option linter.defProp false
namespace Go.Proofs.YtojkinikdcelbaaGreatDoor.watchNil
open Go.ChangeShapes Go.WideShapes Go.ChangeAt Go.RowKit
def clos : List FuncId := [4, 10, 28, 29, 47, 48, 69, 104, 169, 265, 103, 165, 247, 248, 349, 199, 264, 249, 250, 185, 299, 400, 401, 501, 502, 560, 561, 596, 573, 559, 378, 343, 455, 402, 403, 503, 504, 404, 405, 406, 407, 505, 562, 597, 237, 160, 241, 157, 238, 159, 240, 344, 345, 346, 456, 408, 251, 350, 109, 180, 252, 253, 122, 123, 216, 351, 460, 352, 80, 106, 179, 53, 254, 255, 87, 256, 257, 353, 111, 181, 258, 107, 259, 260, 261, 354, 262, 355, 188, 283, 375, 266, 357, 461, 356, 173, 282, 280, 86, 140, 141, 373, 480, 481, 547, 482, 219, 220, 483, 548, 549, 593, 484, 485, 486, 487, 358, 374, 67, 99, 162, 100, 163, 243, 98, 263, 166, 167, 168, 170, 57, 88, 142, 143, 144, 145, 89, 146, 147, 148, 149, 58, 150, 151, 90, 152, 153, 91, 171, 225, 227, 92, 154, 224, 226, 187, 304, 412, 511, 305, 306, 228, 335, 449, 450, 229, 230, 231, 232, 272, 337, 366, 365, 476, 372, 452, 362, 310, 83, 130, 363, 467, 364, 468, 469, 542, 35, 54, 84, 55, 85, 131, 137, 223, 132, 218, 133, 134, 221, 222, 334, 135, 136, 138, 139, 471, 470, 472, 473, 474, 475, 543, 336, 451, 267, 244, 359, 462, 536, 384, 535, 295, 391, 587, 622, 588, 623, 537, 360, 361, 245, 347, 465, 459, 540, 466, 541, 464, 463, 538, 589, 590, 277, 367, 368, 369, 276, 370, 477, 544, 545, 496, 555, 556, 557, 595, 478, 546, 592, 479, 539, 591, 624, 625, 348, 458, 534, 457, 532, 585, 533, 586, 613, 619, 631, 614, 628, 615, 616, 629, 630, 633, 617, 618, 620, 621, 278, 172, 268, 269, 270, 271, 273, 274, 275, 279, 371, 281, 174, 284, 376, 488, 175, 176, 121, 102, 164, 246, 70, 71, 72, 73, 105, 177, 285, 287, 286, 377, 289, 380, 489, 550, 382, 491, 553, 594, 381, 490, 551, 552, 288, 379, 178, 215, 324, 435, 525, 436, 526, 527, 574, 575, 604, 605, 582, 627, 632, 609, 576, 606, 607, 610, 577, 578, 608, 579, 580, 611, 581, 612, 434, 329, 330, 439, 528, 583, 584, 331, 440, 529, 441, 444, 442, 530, 443, 446, 327, 332, 445, 531, 326, 437, 447, 328, 438, 108, 110, 74, 112, 182, 290, 33, 49, 81, 124, 125, 128, 217, 333, 448, 126, 127, 129, 50, 51, 82, 383, 492, 291, 292, 385, 294, 389, 390, 388, 293, 387, 386, 494, 493, 554, 495, 296, 392, 497, 41, 183, 297, 158, 93, 155, 239, 342, 60, 64, 184, 298, 96, 393, 498, 394, 395, 499, 500, 558, 396, 397, 398, 399, 43, 66, 75, 113, 115, 114, 186, 300, 201, 301, 409, 302, 303, 203, 316, 317, 410, 506, 507, 563, 417, 517, 518, 519, 520, 411, 508, 564, 510, 509, 116, 189, 307, 190, 191, 308, 413, 315, 414, 512, 513, 415, 514, 565, 566, 598, 599, 600, 601, 567, 602, 603, 626, 568, 569, 570, 192, 193, 309, 194, 311, 416, 516, 515, 571, 418, 419, 420, 421, 422, 312, 423, 424, 195, 313, 314, 117, 196, 197, 198, 76, 118, 200, 202, 204, 205, 318, 425, 426, 521, 427, 428, 522, 523, 572, 429, 430, 431, 432, 206, 319, 207, 320, 321, 208, 209, 210, 322, 433, 524, 77, 120, 119, 211, 323, 212, 213, 214, 325, 78, 79, 30, 31, 32, 21, 40, 61, 94, 156, 233, 234, 338, 339, 235, 236, 340, 341, 453, 454, 62, 95, 63, 23, 22, 42, 65, 97, 161, 242, 14, 36, 56, 11, 34, 52, 12, 13, 15, 37, 16, 38, 18, 17, 39, 59, 19, 6]
theorem cl : Tryz.prog.closure 4 = clos := by kernel_rfl
theorem gl : ((clos.flatMap fun g => ((Tryz.prog.funcs[g]?).bind (·.body)).elim [] Code.globalsNamed).eraseDups).filterMap (fun g => (Tryz.prog.globals[g]?).map (·.name)) = ["unicode/utf8.first", "unicode/utf8.acceptRanges", "internal/bytealg.MaxLen", "strings.asciiSpace", "unicode.White_Space", "unicode.asciiFold", "unicode.caseOrbit", "unicode.CaseRanges", "internal/strconv.uint64pow10", "math/bits.deBruijn32tab", "math/bits.deBruijn64tab"] := by kernel_rfl
theorem el : (clos.filterMap fun g => (Tryz.prog.funcs[g]?).bind fun fn => if fn.body.isNone then entryReads.lookup fn.name else none) = ["internal/bytealg.MaxLen"] := by kernel_rfl
theorem k12 : ((Rows.watchNilRow.named == Tryz.prog.varsNamed 4)) = true := by
  unfold Program.varsNamed
  rw [cl, gl, el]
  kernel_rfl
theorem k9 : ((Rows.watchNilRow.inPlace == Tryz.prog.inPlace 4)) = true := by
  unfold Program.inPlace
  rw [cl]
  kernel_rfl
theorem uf : Tryz.prog.unfollowed 4 = true := by
  unfold Program.unfollowed
  rw [cl]
  kernel_rfl
theorem k10 : ((Rows.watchNilRow.unfollowed == Tryz.prog.unfollowed 4)) = true := by
  rw [uf]
  kernel_rfl
theorem k11 : ((Rows.watchNilRow.recurses == Tryz.prog.recurses 4)) = true := by
  unfold Program.recurses
  rw [uf]
  kernel_rfl
end Go.Proofs.YtojkinikdcelbaaGreatDoor.watchNil
namespace Go.Proofs.YtojkinikdcelbaaGreatDoor.watchNil
open Go.ChangeShapes Go.WideShapes Go.ChangeAt Go.RowKit
set_option maxRecDepth 100000 in
theorem facts : joinedFacts Tryz.prog 4 Tryz.f4 Rows.watchNilSpec Rows.watchNilRow = true :=
  Bool.and_eq_true_iff.2 ⟨Bool.and_eq_true_iff.2 ⟨Bool.and_eq_true_iff.2 ⟨Bool.and_eq_true_iff.2 ⟨Bool.and_eq_true_iff.2 ⟨Bool.and_eq_true_iff.2 ⟨Bool.and_eq_true_iff.2 ⟨Bool.and_eq_true_iff.2 ⟨Bool.and_eq_true_iff.2 ⟨Bool.and_eq_true_iff.2 ⟨Bool.and_eq_true_iff.2 ⟨Bool.and_eq_true_iff.2 ⟨Bool.and_eq_true_iff.2 ⟨Bool.and_eq_true_iff.2 ⟨Bool.and_eq_true_iff.2 ⟨Bool.and_eq_true_iff.2 ⟨Bool.and_eq_true_iff.2 ⟨Bool.and_eq_true_iff.2 ⟨Bool.and_eq_true_iff.2 ⟨Bool.and_eq_true_iff.2 ⟨Bool.and_eq_true_iff.2 ⟨Bool.and_eq_true_iff.2 ⟨Bool.and_eq_true_iff.2 ⟨Bool.and_eq_true_iff.2 ⟨Bool.and_eq_true_iff.2 ⟨Bool.and_eq_true_iff.2 ⟨Bool.and_eq_true_iff.2 ⟨Bool.and_eq_true_iff.2 ⟨Bool.and_eq_true_iff.2 ⟨Bool.and_eq_true_iff.2 ⟨Bool.and_eq_true_iff.2 ⟨k0, k1⟩, k2⟩, k3⟩, k4⟩, k5⟩, k6⟩, k7⟩, k8⟩, k9⟩, k10⟩, k11⟩, k12⟩, k13⟩, k14⟩, k15⟩, k16⟩, k17⟩, k18⟩, k19⟩, k20⟩, k21⟩, k22⟩, k23⟩, k24⟩, k25⟩, k26⟩, k27⟩, k28⟩, k29⟩, k30⟩, k31⟩
end Go.Proofs.YtojkinikdcelbaaGreatDoor.watchNil
