/-
  What SpoilKnown's row must say of the program: closed facts, each by itself. Conditions: none.
-/
import Derived.Test.YtbcclmpmljpbcaaGreatDoorCards
import Derived.JoinedOf
import Derived.SevenTiedAt
import Derived.KernelRfl
namespace Go.Mg
open Go Go.Proofs Go.Proofs.YtbcclmpmljpbcaaGreatDoor
set_option maxRecDepth 100000
theorem cl3 : Tryz.prog.closure 3 = [3, 5, 16, 37, 82, 38, 83, 84, 158, 39, 85, 159, 223, 58, 40, 86, 41, 87, 160, 161, 224, 17, 42, 43, 88, 162, 225, 291, 374, 292, 293, 226, 294, 163, 164, 112, 165, 110, 227, 295, 375, 296, 376, 166, 106, 195, 269, 270, 228, 297, 298, 167, 229, 299, 230, 231, 168, 232, 300, 102, 105, 301, 377, 177, 108, 252, 251, 109, 198, 199, 273, 274, 368, 423, 275, 302, 378, 424, 379, 380, 382, 311, 381, 233, 303, 326, 253, 343, 344, 304, 383, 425, 426, 266, 356, 357, 417, 448, 461, 475, 480, 482, 449, 463, 464, 462, 476, 358, 305, 384, 427, 248, 341, 411, 451, 446, 398, 397, 430, 385, 386, 387, 428, 429, 452, 465, 306, 169, 234, 307, 388, 389, 308, 236, 310, 235, 309, 170, 237, 312, 390, 238, 313, 391, 239, 89, 171, 101, 192, 172, 240, 241, 314, 342, 392, 412, 249, 250, 178, 242, 53, 54, 315, 327, 337, 396, 410, 445, 409, 441, 272, 367, 278, 459, 467, 468, 477, 469, 419, 420, 470, 478, 479, 481, 471, 472, 473, 474, 442, 443, 460, 444, 246, 318, 393, 394, 52, 320, 321, 399, 400, 431, 322, 345, 401, 432, 433, 324, 403, 404, 434, 435, 454, 466, 453, 436, 437, 455, 456, 438, 457, 323, 402, 351, 353, 415, 447, 173, 190, 243, 316, 317, 244, 319, 325, 333, 408, 336, 332, 406, 440, 458, 338, 395, 254, 90, 174, 175, 176, 245, 328, 329, 405, 439, 330, 331, 407, 334, 335, 247, 339, 350, 352, 414, 261, 349, 340, 179, 255, 51, 111, 256, 346, 413, 91, 180, 92, 181, 258, 257, 93, 94, 182, 259, 348, 347, 260, 95, 183, 262, 96, 184, 263, 185, 264, 354, 355, 416, 186, 265, 187, 97, 98, 188, 99, 189, 100, 191, 267, 268, 44, 18, 45, 104, 194, 103, 193, 46, 107, 196, 271, 359, 360, 418, 361, 362, 421, 422, 450, 363, 364, 365, 366, 197, 47, 48, 49, 50, 6, 19, 25, 69, 115, 116, 117, 202, 203, 118, 119, 120, 121, 204, 276, 369, 370, 122, 123, 124, 125, 126, 127, 128, 205, 206, 129, 130, 207, 208, 131, 132, 133, 134, 70, 135, 136, 137, 138, 139, 140, 141, 142, 143, 144, 145, 146, 147, 148, 149, 7, 20, 55, 56, 57, 59, 60, 61, 62, 63, 8, 22, 65, 21, 64, 23, 9, 10, 27, 72, 26, 71, 150, 209, 210, 277, 279, 211, 212, 280, 24, 66, 113, 200, 114, 201, 67, 68, 11, 28, 73, 151, 213, 214, 281, 152, 215, 153, 216, 282, 371, 283, 284, 285, 372, 29, 74, 154, 217, 75, 76, 155, 218, 286, 287, 156, 219, 288, 220, 221, 290, 373, 289, 222, 31, 30, 12] := by kernel_rfl
theorem inPlace3 : Tryz.prog.inPlace 3 = ["slices.overlaps[polder/api.SpSpan]", "internal/abi.NoEscape", "internal/bytealg.MakeNoZero", "internal/bytealg.CountString", "internal/bytealg.IndexByteString", "internal/bytealg.IndexString"] := by
  unfold Program.inPlace; rw [cl3]; kernel_rfl
theorem unfollowed3 : Tryz.prog.unfollowed 3 = true := by
  unfold Program.unfollowed; rw [cl3]; kernel_rfl
theorem recurses3 : Tryz.prog.recurses 3 = true := by
  unfold Program.recurses; rw [unfollowed3]; rfl
theorem named3 : Tryz.prog.varsNamed 3 = ["math/bits.deBruijn64tab", "math/bits.deBruijn32tab", "internal/strconv.uint64pow10", "unicode/utf8.first", "unicode/utf8.acceptRanges", "internal/bytealg.MaxLen", "strconv.ErrSyntax", "strconv.ErrRange"] := by
  unfold Program.varsNamed; rw [cl3]; kernel_rfl
theorem goes3 : Tryz.prog.goes 3 = false := by
  unfold Program.goes; rw [cl3, unfollowed3]; kernel_rfl
theorem name3 : Tryz.prog.funcNamed "polder/polderlaw29.SpoilKnown" = some 3 := by kernel_rfl
theorem goesBy3 : false = Rows.spoilKnownRow.goesBy Tryz.prog := by
  show false = ((Tryz.prog.funcNamed "polder/polderlaw29.SpoilKnown").any Tryz.prog.goes || false)
  rw [name3, Option.any_some, goes3]; rfl
theorem joined3 : joinedFacts Tryz.prog 3 Tryz.f3 Rows.spoilKnownSpec Rows.spoilKnownRow = true := by
  unfold joinedFacts
  rw [inPlace3, unfollowed3, recurses3, named3]
  kernel_rfl
end Go.Mg
