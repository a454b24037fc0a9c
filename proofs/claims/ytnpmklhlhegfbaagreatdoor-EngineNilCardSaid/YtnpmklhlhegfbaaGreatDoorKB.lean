/- The closed facts of the row of engineNil: what its calls come to, and the variables that they name. No statement of the program is proved here. -/
import Derived.Test.YtnpmklhlhegfbaaGreatDoorRows
import Derived.ProofKit
namespace Go.Proofs.YtnpmklhlhegfbaaGreatDoor.engineNil
open Go.ChangeShapes Go.WideShapes Go.ChangeAt Go.RowKit
def clos : List FuncId := [3, 4, 15, 16, 35, 81, 162, 265, 80, 158, 248, 249, 362, 188, 264, 250, 251, 98, 205, 331, 332, 433, 200, 317, 318, 422, 319, 320, 380, 468, 521, 333, 334, 434, 435, 335, 336, 337, 338, 436, 503, 542, 571, 206, 340, 543, 572, 544, 432, 500, 501, 502, 541, 339, 252, 363, 85, 170, 253, 73, 143, 221, 344, 144, 222, 145, 146, 23, 66, 119, 254, 255, 63, 256, 257, 364, 30, 76, 258, 83, 259, 260, 261, 365, 262, 366, 22, 64, 115, 65, 117, 214, 116, 21, 62, 155, 72, 141, 142, 237, 351, 352, 442, 353, 217, 218, 354, 443, 444, 506, 355, 356, 357, 358, 118, 215, 293, 403, 482, 75, 150, 231, 402, 263, 159, 160, 161, 163, 25, 67, 120, 121, 122, 123, 68, 124, 125, 126, 127, 132, 128, 129, 69, 130, 131, 70, 164, 239, 241, 78, 156, 238, 240, 177, 298, 407, 488, 299, 300, 242, 359, 445, 446, 243, 244, 245, 246, 271, 361, 374, 373, 464, 236, 448, 370, 304, 213, 306, 371, 454, 372, 455, 457, 516, 456, 514, 559, 515, 560, 581, 563, 589, 582, 592, 583, 584, 593, 594, 595, 585, 586, 587, 588, 459, 458, 460, 461, 462, 463, 517, 360, 447, 266, 151, 367, 449, 508, 350, 507, 288, 391, 554, 577, 555, 578, 509, 368, 369, 152, 232, 452, 349, 512, 453, 513, 451, 450, 510, 556, 557, 276, 375, 376, 377, 275, 378, 465, 518, 519, 476, 527, 528, 529, 564, 466, 520, 561, 467, 511, 558, 579, 580, 234, 348, 441, 347, 439, 504, 440, 505, 545, 551, 576, 546, 573, 547, 548, 574, 575, 591, 549, 550, 552, 553, 277, 165, 267, 268, 269, 270, 272, 273, 274, 154, 235, 278, 31, 77, 153, 233, 166, 167, 24, 79, 157, 247, 36, 37, 38, 39, 82, 168, 279, 281, 280, 379, 282, 381, 469, 522, 383, 471, 525, 562, 382, 470, 523, 524, 204, 330, 169, 18, 46, 95, 201, 96, 202, 203, 321, 322, 423, 424, 329, 499, 540, 428, 323, 425, 426, 429, 324, 325, 427, 326, 327, 430, 328, 431, 421, 52, 53, 100, 207, 341, 342, 54, 101, 208, 102, 105, 103, 209, 104, 107, 50, 55, 106, 210, 48, 97, 108, 51, 99, 84, 86, 40, 87, 171, 283, 61, 112, 148, 224, 147, 223, 290, 393, 478, 225, 226, 227, 113, 114, 212, 384, 472, 284, 285, 385, 287, 389, 390, 388, 286, 387, 386, 474, 473, 526, 475, 289, 392, 477, 172, 173, 149, 228, 345, 437, 346, 438, 229, 230, 174, 291, 394, 395, 479, 396, 397, 480, 481, 530, 398, 399, 400, 401, 175, 292, 41, 88, 7, 89, 176, 294, 49, 295, 404, 296, 297, 191, 311, 312, 405, 483, 484, 531, 412, 494, 495, 496, 497, 406, 485, 532, 487, 486, 90, 178, 301, 179, 180, 302, 408, 310, 409, 489, 490, 410, 491, 533, 534, 565, 566, 567, 568, 535, 569, 570, 590, 536, 537, 538, 181, 182, 303, 183, 305, 411, 493, 492, 539, 413, 414, 415, 416, 417, 307, 418, 419, 184, 308, 309, 91, 185, 186, 187, 42, 92, 189, 190, 192, 26, 71, 133, 134, 216, 135, 136, 219, 220, 343, 137, 138, 139, 140, 27, 74, 193, 313, 314, 194, 195, 196, 315, 420, 498, 43, 94, 93, 197, 316, 198, 199, 17, 47, 44, 45, 5, 19, 56, 57, 109, 110, 58, 59, 60, 111, 211, 20, 6, 8, 9, 10, 11, 28, 29, 13, 12, 32, 14, 33, 34]
theorem cl : Tryz.prog.closure 3 = clos := by kernel_rfl
theorem gl : ((clos.flatMap fun g => ((Tryz.prog.funcs[g]?).bind (·.body)).elim [] Code.globalsNamed).eraseDups).filterMap (fun g => (Tryz.prog.globals[g]?).map (·.name)) = ["unicode/utf8.first", "unicode/utf8.acceptRanges", "internal/bytealg.MaxLen", "strings.asciiSpace", "unicode.White_Space", "unicode.asciiFold", "unicode.caseOrbit", "unicode.CaseRanges"] := by kernel_rfl
theorem el : (clos.filterMap fun g => (Tryz.prog.funcs[g]?).bind fun fn => if fn.body.isNone then entryReads.lookup fn.name else none) = ["internal/bytealg.MaxLen"] := by kernel_rfl
theorem k12 : ((Rows.engineNilRow.named == Tryz.prog.varsNamed 3)) = true := by
  unfold Program.varsNamed
  rw [cl, gl, el]
  kernel_rfl
theorem k9 : ((Rows.engineNilRow.inPlace == Tryz.prog.inPlace 3)) = true := by
  unfold Program.inPlace
  rw [cl]
  kernel_rfl
theorem uf : Tryz.prog.unfollowed 3 = true := by
  unfold Program.unfollowed
  rw [cl]
  kernel_rfl
theorem k10 : ((Rows.engineNilRow.unfollowed == Tryz.prog.unfollowed 3)) = true := by
  rw [uf]
  kernel_rfl
theorem k11 : ((Rows.engineNilRow.recurses == Tryz.prog.recurses 3)) = true := by
  unfold Program.recurses
  rw [uf]
  kernel_rfl
end Go.Proofs.YtnpmklhlhegfbaaGreatDoor.engineNil
