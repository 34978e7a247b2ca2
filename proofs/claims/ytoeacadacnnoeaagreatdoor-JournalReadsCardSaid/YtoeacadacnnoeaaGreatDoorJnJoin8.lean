/-
  What JournalReads's row must say of the program: closed facts, each by itself. Conditions: none.
-/
import Derived.Test.YtoeacadacnnoeaaGreatDoorCards
import Derived.JoinedOf
import Derived.SevenTiedAt
import Derived.KernelRfl
namespace Go.Mg
open Go Go.Proofs Go.Proofs.YtoeacadacnnoeaaGreatDoor
set_option maxRecDepth 100000
theorem cl8 : Tryz.prog.closure 8 = [8, 15, 18, 56, 104, 105, 57, 106, 58, 107, 54, 53, 52, 99, 154, 100, 155, 156, 210, 101, 157, 211, 290, 95, 102, 158, 103, 159, 212, 213, 291, 11, 28, 34, 76, 114, 161, 214, 292, 215, 216, 162, 217, 115, 116, 75, 117, 70, 163, 218, 293, 219, 294, 118, 96, 149, 203, 204, 164, 220, 221, 119, 165, 222, 166, 167, 120, 168, 29, 68, 69, 223, 295, 129, 71, 187, 186, 98, 152, 153, 207, 208, 289, 340, 209, 224, 296, 341, 297, 298, 300, 233, 299, 169, 225, 248, 188, 265, 266, 226, 301, 342, 343, 200, 276, 277, 334, 365, 378, 392, 397, 399, 366, 380, 381, 379, 393, 278, 227, 302, 344, 183, 263, 329, 368, 363, 316, 315, 347, 303, 304, 305, 345, 346, 369, 382, 228, 121, 170, 229, 306, 307, 230, 172, 232, 171, 231, 122, 173, 234, 308, 174, 235, 309, 113, 77, 123, 89, 144, 124, 175, 176, 236, 264, 310, 330, 184, 185, 130, 177, 50, 51, 237, 249, 259, 314, 328, 362, 327, 358, 206, 287, 288, 376, 384, 385, 394, 386, 336, 337, 387, 395, 396, 398, 388, 389, 390, 391, 359, 360, 377, 361, 181, 240, 311, 312, 49, 242, 243, 317, 318, 348, 244, 267, 319, 349, 350, 246, 321, 322, 351, 352, 371, 383, 370, 353, 354, 372, 373, 355, 374, 245, 320, 273, 275, 333, 364, 125, 142, 178, 238, 239, 179, 241, 247, 255, 326, 258, 254, 324, 357, 375, 260, 313, 189, 78, 126, 127, 128, 180, 250, 251, 323, 356, 252, 253, 325, 256, 257, 182, 261, 272, 274, 332, 196, 271, 262, 131, 190, 33, 74, 191, 268, 331, 79, 132, 80, 133, 193, 192, 81, 82, 134, 194, 270, 269, 195, 83, 135, 197, 84, 136, 198, 137, 32, 72, 73, 112, 138, 199, 139, 85, 86, 140, 87, 141, 88, 143, 201, 202, 35, 13, 43, 94, 148, 93, 147, 44, 97, 150, 205, 279, 280, 335, 281, 282, 338, 339, 367, 283, 284, 285, 286, 151, 45, 46, 47, 48, 55, 16, 12, 36, 90, 145, 37, 91, 146, 38, 92, 39, 40, 41, 42, 21, 61, 62, 63, 64, 110, 111, 24, 66, 109, 160, 67, 22, 17, 25, 65, 26, 20, 23, 27, 60, 108] := by kernel_rfl
theorem inPlace8 : Tryz.prog.inPlace 8 = ["slices.overlaps[polder/api.SpSpan]"] := by
  unfold Program.inPlace; rw [cl8]; kernel_rfl
theorem unfollowed8 : Tryz.prog.unfollowed 8 = true := by
  unfold Program.unfollowed; rw [cl8]; kernel_rfl
theorem recurses8 : Tryz.prog.recurses 8 = true := by
  unfold Program.recurses; rw [unfollowed8]; rfl
theorem named8 : Tryz.prog.varsNamed 8 = ["math/bits.deBruijn64tab", "math/bits.deBruijn32tab"] := by
  unfold Program.varsNamed; rw [cl8]; kernel_rfl
theorem goes8 : Tryz.prog.goes 8 = false := by
  unfold Program.goes; rw [cl8, unfollowed8]; kernel_rfl
theorem name8 : Tryz.prog.funcNamed "polder/polderlaw27.JournalReads" = some 8 := by kernel_rfl
theorem goesBy8 : false = Rows.journalReadsRow.goesBy Tryz.prog := by
  show false = ((Tryz.prog.funcNamed "polder/polderlaw27.JournalReads").any Tryz.prog.goes || false)
  rw [name8, Option.any_some, goes8]; rfl
theorem joined8 : joinedFacts Tryz.prog 8 Tryz.f8 Rows.journalReadsSpec Rows.journalReadsRow = true := by
  unfold joinedFacts
  rw [inPlace8, unfollowed8, recurses8, named8]
  kernel_rfl
end Go.Mg
