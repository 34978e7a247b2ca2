/-
  What AuditPrints's row must say of the program: closed facts, each by itself. Conditions: none.
-/
import Derived.Test.YtmlimaopoghcmaaGreatDoorCards
import Derived.JoinedOf
import Derived.SevenTiedAt
import Derived.KernelRfl
namespace Go.Mg
open Go Go.Proofs Go.Proofs.YtmlimaopoghcmaaGreatDoor
set_option maxRecDepth 100000
theorem cl3 : Tryz.prog.closure 3 = [3, 4, 7, 18, 43, 82, 44, 83, 84, 143, 45, 85, 144, 214, 105, 46, 86, 47, 87, 145, 146, 215, 19, 48, 49, 88, 147, 137, 209, 276, 210, 211, 216, 277, 135, 148, 113, 149, 111, 217, 278, 338, 279, 339, 150, 107, 178, 253, 254, 218, 280, 281, 151, 219, 190, 220, 221, 152, 222, 282, 102, 106, 283, 340, 161, 109, 238, 237, 110, 181, 182, 257, 258, 333, 371, 259, 123, 197, 269, 198, 199, 201, 213, 200, 223, 128, 203, 205, 271, 272, 284, 341, 374, 375, 250, 184, 323, 365, 183, 260, 334, 372, 393, 391, 401, 402, 400, 412, 186, 285, 342, 376, 129, 204, 270, 394, 273, 274, 337, 373, 343, 344, 345, 377, 378, 395, 403, 286, 153, 224, 191, 263, 264, 189, 142, 212, 225, 261, 154, 226, 287, 346, 227, 288, 347, 228, 89, 155, 101, 175, 156, 229, 230, 64, 130, 131, 206, 133, 132, 162, 231, 59, 60, 289, 299, 308, 351, 360, 389, 359, 386, 256, 332, 139, 399, 404, 405, 413, 406, 367, 368, 407, 414, 415, 416, 408, 409, 410, 411, 387, 268, 336, 388, 235, 292, 348, 349, 58, 294, 134, 207, 208, 275, 295, 312, 352, 379, 380, 297, 195, 354, 381, 196, 267, 335, 266, 382, 383, 396, 397, 384, 398, 296, 353, 318, 320, 363, 390, 157, 173, 232, 290, 291, 233, 293, 298, 304, 358, 307, 303, 356, 192, 265, 309, 350, 239, 90, 158, 159, 160, 234, 75, 300, 355, 385, 301, 302, 357, 305, 306, 236, 310, 317, 319, 362, 246, 316, 311, 163, 240, 57, 112, 241, 313, 361, 91, 164, 92, 165, 243, 242, 93, 94, 166, 244, 315, 314, 245, 95, 167, 247, 96, 125, 202, 168, 248, 321, 322, 364, 169, 249, 170, 97, 98, 171, 99, 172, 100, 174, 251, 252, 50, 20, 51, 104, 177, 103, 176, 52, 108, 179, 255, 324, 325, 366, 326, 327, 369, 370, 392, 328, 329, 330, 331, 180, 53, 54, 55, 56, 8, 21, 61, 114, 115, 185, 187, 116, 117, 188, 262, 118, 119, 193, 194, 120, 121, 122, 124, 126, 127, 62, 63, 65, 9, 22, 11, 23, 24, 25, 67, 68, 66, 26, 70, 69, 136, 27, 28, 29, 30, 31, 72, 71, 32, 73, 33, 74, 34, 76, 35, 36, 37, 38, 39, 40, 5, 12, 41, 77, 13, 14, 42, 78, 79, 138, 140, 80, 81, 141, 15, 10, 6, 16, 17] := by kernel_rfl
theorem inPlace3 : Tryz.prog.inPlace 3 = ["slices.overlaps[polder/api.SpSpan]", "internal/abi.NoEscape"] := by
  unfold Program.inPlace; rw [cl3]; kernel_rfl
theorem unfollowed3 : Tryz.prog.unfollowed 3 = true := by
  unfold Program.unfollowed; rw [cl3]; kernel_rfl
theorem recurses3 : Tryz.prog.recurses 3 = true := by
  unfold Program.recurses; rw [unfollowed3]; rfl
theorem named3 : Tryz.prog.varsNamed 3 = ["math/bits.deBruijn64tab", "math/bits.deBruijn32tab", "internal/strconv.uint64pow10"] := by
  unfold Program.varsNamed; rw [cl3]; kernel_rfl
theorem goes3 : Tryz.prog.goes 3 = false := by
  unfold Program.goes; rw [cl3, unfollowed3]; kernel_rfl
theorem name3 : Tryz.prog.funcNamed "polder/polderlaw28.AuditPrints" = some 3 := by kernel_rfl
theorem goesBy3 : false = Rows.auditPrintsRow.goesBy Tryz.prog := by
  show false = ((Tryz.prog.funcNamed "polder/polderlaw28.AuditPrints").any Tryz.prog.goes || false)
  rw [name3, Option.any_some, goes3]; rfl
theorem joined3 : joinedFacts Tryz.prog 3 Tryz.f3 Rows.auditPrintsSpec Rows.auditPrintsRow = true := by
  unfold joinedFacts
  rw [inPlace3, unfollowed3, recurses3, named3]
  kernel_rfl
end Go.Mg
