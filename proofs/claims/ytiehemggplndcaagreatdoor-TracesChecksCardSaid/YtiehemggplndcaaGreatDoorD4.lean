/-
  What TracesChecks's row must say of the program: closed facts, each by itself. Conditions: none.
-/
import Derived.Test.YtiehemggplndcaaGreatDoorCards
import Derived.JoinedOf
import Derived.SevenTiedAt
import Derived.KernelRfl
namespace Go.Mg
open Go Go.Proofs Go.Proofs.YtiehemggplndcaaGreatDoor
set_option maxRecDepth 100000
theorem cl5 : Tryz.prog.closure 5 = [5, 10, 6, 20, 19, 14, 34, 21, 45, 46, 47, 48, 35, 23, 52, 76, 106, 95, 53, 77, 54, 55, 70, 97, 36, 43, 73, 98, 131, 99, 132, 133, 169, 100, 134, 170, 217, 171, 101, 135, 102, 136, 172, 173, 218, 44, 74, 75, 103, 104, 137, 174, 219, 271, 341, 272, 273, 220, 274, 175, 176, 177, 178, 205, 221, 275, 342, 276, 343, 179, 222, 223, 277, 278, 224, 279, 280, 180, 225, 281, 226, 227, 181, 228, 282, 265, 266, 283, 344, 190, 247, 249, 248, 323, 380, 381, 411, 398, 420, 419, 412, 284, 345, 388, 346, 347, 349, 208, 348, 229, 285, 306, 250, 324, 325, 286, 350, 389, 390, 267, 338, 339, 387, 415, 430, 445, 452, 454, 416, 432, 433, 431, 446, 340, 287, 351, 391, 244, 321, 379, 417, 413, 366, 365, 394, 352, 353, 354, 392, 393, 418, 434, 288, 182, 230, 289, 355, 356, 290, 156, 207, 231, 291, 183, 232, 292, 357, 233, 293, 358, 234, 138, 184, 150, 206, 185, 235, 236, 294, 322, 359, 382, 245, 246, 191, 237, 243, 255, 295, 307, 317, 364, 378, 410, 377, 406, 428, 444, 153, 427, 436, 437, 447, 438, 448, 449, 439, 450, 451, 453, 440, 441, 442, 443, 407, 408, 429, 409, 241, 298, 360, 361, 362, 300, 301, 367, 368, 395, 302, 326, 369, 396, 397, 304, 371, 372, 399, 400, 422, 435, 421, 401, 402, 423, 424, 403, 425, 303, 370, 333, 335, 385, 414, 186, 203, 238, 296, 297, 239, 299, 305, 313, 376, 316, 312, 374, 405, 426, 318, 363, 251, 139, 187, 188, 189, 240, 308, 309, 373, 404, 310, 311, 375, 314, 315, 242, 319, 332, 334, 384, 260, 331, 320, 192, 252, 253, 327, 254, 328, 383, 140, 193, 141, 194, 257, 256, 142, 143, 195, 258, 330, 329, 259, 144, 196, 261, 145, 197, 262, 198, 263, 336, 337, 386, 199, 264, 200, 146, 147, 201, 148, 202, 149, 204, 268, 269, 105, 15, 37, 38, 25, 57, 59, 80, 81, 60, 71, 72, 11, 28, 64, 84, 113, 114, 152, 154, 115, 116, 155, 27, 61, 82, 111, 83, 112, 62, 63, 26, 16, 39, 40, 9, 17, 12, 29, 65, 85, 66, 86, 87, 88, 117, 157, 209, 158, 159, 160, 210, 67, 89, 118, 161, 211, 31, 32, 33, 69, 94, 128, 122, 96, 129, 164, 212, 213, 130, 165, 214, 166, 167, 216, 270, 215, 168, 30, 68, 90, 119, 120, 121, 162, 91, 92, 123, 163, 124, 125, 126, 93, 127, 22, 49, 51, 50, 18, 41, 42, 56, 78, 107, 108, 151, 109, 58, 79, 110, 24, 13] := by kernel_rfl
theorem Ut : Tryz.prog.inPlace 5 = ["slices.overlaps[polder/api.SpSpan]", "internal/abi.NoEscape", "internal/bytealg.MakeNoZero", "internal/bytealg.CountString", "internal/bytealg.IndexByteString", "internal/bytealg.IndexString"] := by
 unfold Program.inPlace; rw [cl5]; kernel_rfl
theorem mF : Tryz.prog.unfollowed 5 = true := by
 unfold Program.unfollowed; rw [cl5]; kernel_rfl
theorem Pt : Tryz.prog.recurses 5 = true := by
 unfold Program.recurses; rw [mF]; rfl
theorem qwr : Tryz.prog.varsNamed 5 = ["math/bits.deBruijn64tab", "math/bits.deBruijn32tab", "internal/strconv.uint64pow10", "internal/bytealg.MaxLen", "unicode/utf8.first", "unicode/utf8.acceptRanges", "strconv.ErrSyntax", "strconv.ErrRange"] := by
 unfold Program.varsNamed; rw [cl5]; kernel_rfl
theorem qv1 : Tryz.prog.goes 5 = false := by
 unfold Program.goes; rw [cl5, mF]; kernel_rfl
theorem qvq : Tryz.prog.funcNamed "polder/polderlaw32.TracesChecks" = some 5 := by kernel_rfl
theorem EI : false = Rows.tracesChecksRow.goesBy Tryz.prog := by
 show false = ((Tryz.prog.funcNamed "polder/polderlaw32.TracesChecks").any Tryz.prog.goes || false)
 rw [qvq, Option.any_some, qv1]; rfl
theorem EN : joinedFacts Tryz.prog 5 Tryz.f5 Rows.tracesChecksSpec Rows.tracesChecksRow = true := by
 unfold joinedFacts
 rw [Ut, mF, Pt, qwr]
 kernel_rfl
end Go.Mg
