/-
  What TracesLives's row must say of the program: closed facts, each by itself. Conditions: none.
-/
import Derived.Test.YtdelhnefoccnbaaGreatDoorCards
import Derived.JoinedOf
import Derived.SevenTiedAt
import Derived.KernelRfl
namespace Go.Mg
open Go Go.Proofs Go.Proofs.YtdelhnefoccnbaaGreatDoor
set_option maxRecDepth 100000
theorem cl4 : Tryz.prog.closure 4 = [4, 6, 7, 13, 17, 16, 31, 32, 46, 47, 48, 49, 33, 50, 57, 22, 38, 39, 58, 71, 59, 60, 51, 61, 34, 35, 52, 62, 72, 63, 73, 74, 92, 64, 75, 93, 130, 94, 65, 76, 66, 77, 95, 96, 131, 36, 53, 54, 67, 68, 78, 97, 132, 184, 256, 185, 186, 133, 187, 98, 99, 100, 101, 128, 134, 188, 257, 189, 258, 102, 135, 136, 190, 191, 137, 192, 193, 103, 138, 194, 139, 140, 104, 141, 195, 179, 180, 196, 259, 113, 161, 163, 162, 238, 295, 296, 326, 313, 335, 334, 327, 197, 260, 303, 261, 262, 264, 206, 263, 142, 198, 221, 164, 239, 240, 199, 265, 304, 305, 181, 253, 254, 302, 330, 345, 361, 368, 370, 331, 347, 348, 346, 362, 255, 200, 266, 306, 158, 236, 294, 332, 328, 281, 280, 309, 267, 268, 269, 307, 308, 333, 349, 201, 105, 143, 202, 270, 271, 203, 145, 205, 144, 204, 106, 146, 207, 272, 147, 208, 273, 148, 79, 107, 91, 129, 108, 149, 150, 209, 237, 274, 297, 159, 160, 114, 151, 157, 169, 210, 222, 232, 279, 293, 325, 292, 321, 343, 359, 360, 342, 351, 352, 363, 353, 364, 365, 354, 366, 367, 369, 355, 356, 357, 358, 322, 323, 344, 324, 155, 213, 275, 276, 277, 215, 216, 282, 283, 310, 217, 241, 284, 311, 312, 219, 286, 287, 314, 315, 337, 350, 336, 316, 317, 338, 339, 318, 340, 218, 285, 248, 250, 300, 329, 109, 126, 152, 211, 212, 153, 214, 220, 228, 291, 231, 227, 289, 320, 341, 233, 278, 165, 80, 110, 111, 112, 154, 223, 224, 288, 319, 225, 226, 290, 229, 230, 156, 234, 247, 249, 299, 174, 246, 235, 115, 166, 167, 242, 168, 243, 298, 81, 116, 82, 117, 171, 170, 83, 84, 118, 172, 245, 244, 173, 85, 119, 175, 86, 120, 176, 121, 177, 251, 252, 301, 122, 178, 123, 87, 88, 124, 89, 125, 90, 127, 182, 183, 69, 9, 19, 21, 20, 37, 23, 10, 24, 40, 41, 55, 56, 25, 42, 43, 70, 26, 44, 8, 18, 11, 27, 12] := by kernel_rfl
theorem inPlace4 : Tryz.prog.inPlace 4 = ["slices.overlaps[polder/api.SpSpan]"] := by
  unfold Program.inPlace; rw [cl4]; kernel_rfl
theorem unfollowed4 : Tryz.prog.unfollowed 4 = true := by
  unfold Program.unfollowed; rw [cl4]; kernel_rfl
theorem recurses4 : Tryz.prog.recurses 4 = true := by
  unfold Program.recurses; rw [unfollowed4]; rfl
theorem named4 : Tryz.prog.varsNamed 4 = ["math/bits.deBruijn64tab", "math/bits.deBruijn32tab"] := by
  unfold Program.varsNamed; rw [cl4]; kernel_rfl
theorem goes4 : Tryz.prog.goes 4 = false := by
  unfold Program.goes; rw [cl4, unfollowed4]; kernel_rfl
theorem name4 : Tryz.prog.funcNamed "polder/polderlaw32.TracesLives" = some 4 := by kernel_rfl
theorem goesBy4 : false = Rows.tracesLivesRow.goesBy Tryz.prog := by
  show false = ((Tryz.prog.funcNamed "polder/polderlaw32.TracesLives").any Tryz.prog.goes || false)
  rw [name4, Option.any_some, goes4]; rfl
theorem joined4 : joinedFacts Tryz.prog 4 Tryz.f4 Rows.tracesLivesSpec Rows.tracesLivesRow = true := by
  unfold joinedFacts
  rw [inPlace4, unfollowed4, recurses4, named4]
  kernel_rfl
end Go.Mg
