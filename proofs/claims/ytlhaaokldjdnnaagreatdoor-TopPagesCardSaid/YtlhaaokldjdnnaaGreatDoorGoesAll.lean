/-
  Parts, one behind the other: No function of the program starts a goroutine: what the card asks ('goes'). No condition. | The closed facts of the row, in parts: which functions the call can come to, and what follows. No condition.
-/
import Derived.Test.YtlhaaokldjdnnaaGreatDoorRows
import GoSem.ClaimGoes
import Derived.KernelRfl
import Derived.JoinedOf
namespace Go.Proofs.YtlhaaokldjdnnaaGreatDoor
set_option linter.unusedVariables false
set_option linter.unusedSimpArgs false

theorem noneGoes : Tryz.prog.funcs.any Func.goes = false := by kernel_rfl
theorem goes_of_none {P : Program} (h : P.funcs.any Func.goes = false) (f : FuncId) : P.goes f = false := by
  unfold Program.goes
  rw [h, Bool.and_false, Bool.or_false]
  rw [List.any_eq_false]
  intro g _ hg
  cases hx : P.funcs[g]? with
  | none => rw [hx] at hg; simp at hg
  | some fn =>
    rw [hx] at hg
    have hm : fn ∈ P.funcs := Array.mem_of_getElem? hx
    rw [Array.any_eq_false'] at h
    exact h fn hm (by simpa using hg)
theorem goesAt_of_none {P : Program} (h : P.funcs.any Func.goes = false) (func : String) : P.goesAt .entering func = false := by
  unfold Program.goesAt Program.goesFrom
  simp only [Bool.or_false]
  cases P.funcNamed func with
  | none => rfl
  | some f =>
    rw [Option.any_some]
    exact goes_of_none h f
theorem goes_row : false = Rows.topPagesRow.goesBy Tryz.pinned.checked.prog :=
  (goesAt_of_none (P := Tryz.prog) noneGoes "tidegate/tidegatetop.TopPages").symm
end Go.Proofs.YtlhaaokldjdnnaaGreatDoor
namespace Go.Proofs.YtlhaaokldjdnnaaGreatDoor
set_option linter.unusedVariables false
set_option linter.unusedSimpArgs false
set_option maxRecDepth 100000

def reached : List FuncId := [3, 4, 5, 12, 26, 13, 14, 15, 6, 16, 28, 27, 43, 17, 44, 30, 29, 45, 46, 59, 75, 99, 136, 100, 137, 193, 194, 246, 313, 247, 314, 363, 364, 308, 233, 309, 361, 248, 315, 316, 249, 317, 365, 398, 399, 400, 366, 367, 368, 195, 250, 76, 102, 103, 141, 199, 251, 252, 318, 319, 369, 377, 408, 434, 218, 293, 320, 370, 346, 258, 326, 234, 327, 376, 407, 328, 329, 257, 323, 373, 404, 430, 431, 454, 405, 432, 330, 324, 374, 277, 325, 375, 406, 433, 202, 256, 259, 260, 331, 231, 253, 321, 371, 401, 402, 140, 198, 143, 200, 254, 142, 144, 201, 255, 322, 372, 403, 426, 427, 272, 450, 451, 428, 429, 452, 453, 466, 467, 145, 203, 261, 101, 139, 138, 196, 197, 60, 61, 7, 19, 33, 18, 32, 20, 34, 47, 48, 62, 77, 105, 148, 104, 146, 204, 147, 206, 271, 205, 262, 268, 337, 263, 332, 264, 333, 334, 265, 335, 336, 378, 266, 267, 269, 270, 78, 38, 55, 54, 72, 90, 93, 79, 106, 63, 80, 81, 83, 21, 35, 107, 149, 150, 8, 22, 36, 37, 49, 64, 85, 109, 152, 208, 274, 340, 384, 210, 207, 273, 338, 379, 385, 276, 223, 303, 350, 356, 342, 343, 286, 302, 357, 304, 358, 344, 386, 390, 300, 349, 387, 345, 380, 409, 301, 410, 411, 351, 435, 455, 415, 412, 437, 436, 164, 214, 339, 381, 382, 413, 383, 414, 438, 153, 154, 209, 275, 341, 155, 110, 118, 163, 111, 114, 112, 156, 211, 278, 279, 347, 388, 389, 157, 113, 158, 212, 159, 160, 213, 280, 161, 86, 115, 116, 117, 162, 119, 120, 121, 165, 215, 282, 283, 284, 310, 285, 287, 288, 289, 290, 281, 348, 221, 291, 166, 50, 52, 66, 91, 51, 65, 87, 122, 123, 167, 217, 216, 292, 168, 219, 295, 294, 352, 391, 392, 393, 296, 297, 298, 354, 353, 169, 220, 299, 355, 394, 416, 417, 395, 170, 222, 224, 225, 305, 88, 124, 171, 226, 306, 359, 396, 419, 439, 456, 468, 469, 476, 470, 421, 440, 457, 458, 472, 471, 477, 441, 420, 422, 442, 443, 459, 473, 444, 423, 445, 446, 462, 461, 463, 460, 474, 192, 245, 475, 418, 227, 307, 360, 397, 425, 448, 449, 424, 447, 465, 464, 172, 173, 228, 229, 71, 89, 125, 53, 67, 92, 126, 127, 128, 132, 184, 129, 134, 68, 69, 70, 40, 41, 56, 39, 9, 23, 24, 25, 42, 57, 73, 94, 95, 58, 74, 96, 130, 131, 174, 175, 230, 177, 176, 178, 232, 179, 180, 181, 182, 183, 97, 133, 185, 235, 236, 237, 238, 239, 240, 241, 244, 243, 311, 362, 186, 242, 312, 187, 191, 188, 189, 190, 98, 135, 10, 82, 108, 151, 84, 31, 11]
theorem closureIs : Tryz.prog.closure 3 = reached := by kernel_rfl
theorem inPlaceIs : Tryz.prog.inPlace 3 = Rows.topPagesRow.inPlace := by
  unfold Program.inPlace
  rw [closureIs]
  kernel_rfl
theorem unfollowedIs : Tryz.prog.unfollowed 3 = true := by
  unfold Program.unfollowed
  rw [closureIs]
  kernel_rfl
theorem recursesIs : Tryz.prog.recurses 3 = true := by
  unfold Program.recurses
  rw [unfollowedIs, Bool.true_or]
theorem varsIs : Tryz.prog.varsNamed 3 = Rows.topPagesRow.named := by
  unfold Program.varsNamed
  rw [closureIs]
  kernel_rfl
theorem facts : joinedFacts Tryz.prog 3 Tryz.f3 Rows.topPagesSpec Rows.topPagesRow = true := by
  unfold joinedFacts
  rw [inPlaceIs, unfollowedIs, recursesIs, varsIs]
  kernel_rfl
end Go.Proofs.YtlhaaokldjdnnaaGreatDoor
