/-
  The plans of this program's regions that draw their order, printed by planprint.py; each is shown to fit.
-/
import Derived.Test.YtlhaaokldjdnnaaGreatDoorEvCodeAll
import Derived.Test.YtlhaaokldjdnnaaGreatDoorProg
import Derived.KernelRfl
namespace Go.Proofs.YtlhaaokldjdnnaaGreatDoor.Ev
open Go.RowKit
set_option linter.unusedVariables false
set_option linter.unusedSimpArgs false
abbrev a (i : Nat) (p : Plan) : Plan := .one i true p
abbrev b (i : Nat) (p : Plan) : Plan := .one i false p
def look {α : Type} (i : Nat) : List (Nat × α) → Option α
  | [] => none
  | (j, x) :: l => if i = j then some x else look i l
def pl5 : List (Nat × Plan) := [(8, (a 0 (a 1 (a 2 (a 3 (a 4 (a 5 (a 6 (a 7 (a 9 (a 10 (a 11 (a 12 (b 8 (b 13 (a 14 (a 15 (a 16 (a 17 (a 18 (a 19 (a 20 (a 21 (a 22 (a 23 (a 24 (a 25 (a 26 (a 27 (a 28 .nil))))))))))))))))))))))))))))))]
def pl22 : List (Nat × Plan) := [(13, (a 0 (a 3 (a 4 (a 5 (a 6 (b 1 (.both 2 7 (b 7 (b 8 (a 9 .nil))) (b 2 (b 8 (a 9 .nil)))))))))))]
def pl36 : List (Nat × Plan) := [(5, (a 0 (a 1 (a 2 (a 3 (a 4 (a 5 (a 6 (a 7 (a 9 (.both 8 11 (.both 10 11 (b 11 (b 12 .nil)) (b 10 (b 12 .nil))) (b 8 (b 10 (b 12 .nil))))))))))))))]
def pl40 : List (Nat × Plan) := [(1, (a 0 (a 1 (a 2 (a 3 (a 4 (a 5 (a 6 (a 7 (a 8 (a 9 (a 10 (b 11 (a 12 (a 13 (b 14 .nil))))))))))))))))]
def pl42 : List (Nat × Plan) := [(1, (a 0 (a 1 (a 2 (a 3 (a 4 (a 5 (a 6 (a 8 (a 9 (a 10 (a 11 (b 7 (b 12 (a 13 (a 14 (a 15 .nil))))))))))))))))), (2, (a 0 (a 1 (a 2 (a 3 (a 4 (a 5 (a 6 (b 7 .nil))))))))), (4, (a 0 (a 1 (a 2 (a 3 (a 4 (a 5 (a 6 (b 7 .nil)))))))))]
def pl52 : List (Nat × Plan) := [(3, (a 0 (a 1 (a 2 (a 3 (a 4 (a 5 (a 6 (a 7 (b 8 (b 9 (a 10 .nil))))))))))))]
def pl53 : List (Nat × Plan) := [(5, (a 0 (a 1 (a 2 (a 3 (a 5 (a 6 (a 7 (a 8 (a 10 (a 11 (a 12 (a 13 (a 15 (b 4 (b 9 (b 14 (b 16 (a 17 (a 18 (b 19 .nil)))))))))))))))))))))]
def pl61 : List (Nat × Plan) := [(2, (a 0 (a 1 (a 2 (a 3 (a 4 (a 5 (a 6 (a 7 .nil))))))))), (4, (a 0 (a 1 (a 2 (a 3 (a 4 (a 5 (a 6 (a 7 (a 8 (a 9 (a 10 .nil)))))))))))), (6, (a 0 (a 1 (a 2 (a 3 (a 4 (a 5 (a 6 (a 7 (a 8 (a 9 (a 10 (a 11 (b 12 (a 13 (a 14 (a 15 (b 16 .nil))))))))))))))))))]
def pl63 : List (Nat × Plan) := [(1, (a 0 (a 1 (a 2 (a 3 (a 4 (a 5 (a 6 (a 7 .nil))))))))), (10, (a 0 (a 1 (a 2 (a 3 (a 4 (a 7 (b 5 (a 6 (b 8 .nil)))))))))), (12, (a 0 (a 1 (a 2 (a 3 (a 4 (a 5 (b 6 .nil))))))))]
def pl74 : List (Nat × Plan) := [(6, (a 0 (a 1 (a 2 (a 3 (a 4 (a 5 (a 6 (a 7 (a 8 (b 9 .nil))))))))))), (7, (a 0 (a 1 (a 2 (a 3 (a 4 (a 5 (a 6 (a 7 (a 8 (b 9 .nil)))))))))))]
def pl76 : List (Nat × Plan) := [(2, (a 0 (a 1 (a 2 (a 3 (b 4 (a 5 .nil)))))))]
def pl80 : List (Nat × Plan) := [(3, (a 0 (a 1 (a 2 (a 3 (a 4 (a 5 (a 6 (a 7 (b 8 (a 9 .nil)))))))))))]
def pl81 : List (Nat × Plan) := [(3, (a 0 (a 1 (a 2 (a 3 (a 4 (a 5 (a 6 (a 7 (b 8 (a 9 (b 10 (b 11 (a 12 (a 13 (a 14 (a 15 .nil)))))))))))))))))]
def pl93 : List (Nat × Plan) := [(3, (a 0 (a 1 (a 2 (a 3 (a 4 (a 5 (a 6 (a 7 (a 8 (a 9 (a 10 (a 11 (a 12 (a 13 (a 14 .nil)))))))))))))))), (6, (a 0 (a 1 (a 2 (a 3 (a 4 (a 5 (a 6 (a 7 (a 8 (a 9 (a 10 (a 11 .nil)))))))))))))]
def pl94 : List (Nat × Plan) := [(3, (a 0 (a 1 (a 2 (a 3 (a 4 (a 5 (a 6 (a 7 (a 8 (a 9 .nil)))))))))))]
def pl101 : List (Nat × Plan) := [(6, (a 0 (a 1 (b 2 (b 3 .nil)))))]
def pl103 : List (Nat × Plan) := [(5, (a 0 (a 2 (a 3 (a 6 (a 7 (a 8 (a 9 (a 10 (b 1 (b 4 (a 5 (a 11 (b 12 .nil))))))))))))))]
def pl108 : List (Nat × Plan) := [(3, (a 0 (a 1 (a 2 (a 3 (a 4 (a 5 (a 6 (a 7 (a 8 (b 9 .nil))))))))))), (5, (a 0 (a 1 (a 2 (a 3 (a 4 (a 5 (a 6 (a 7 (a 8 (a 9 .nil)))))))))))]
def pl109 : List (Nat × Plan) := [(3, (a 0 (a 1 (a 2 (a 4 (b 3 (b 5 (a 6 (b 7 .nil)))))))))]
def pl145 : List (Nat × Plan) := [(1, (a 0 (b 1 (a 2 (a 3 (b 4 (a 5 (a 6 (a 7 (a 9 (b 8 (b 10 (a 11 (a 12 (a 13 .nil)))))))))))))))]
def pl156 : List (Nat × Plan) := [(1, (a 0 (a 1 (a 2 (a 3 (a 4 (a 5 (a 7 (a 8 (b 6 (b 9 (a 10 (a 11 .nil)))))))))))))]
def pl174 : List (Nat × Plan) := [(0, (a 0 (a 1 (a 2 (a 3 (a 4 (a 5 (a 6 (a 7 (a 8 (a 9 (a 10 (a 11 (a 12 (a 13 (b 14 .nil))))))))))))))))]
def pl186 : List (Nat × Plan) := [(4, (a 0 (a 1 (a 2 (a 3 (a 4 (b 5 (b 6 (a 7 (a 8 (a 9 (b 10 .nil))))))))))))]
def pl194 : List (Nat × Plan) := [(2, (a 0 (a 1 (a 2 (a 3 (a 5 (a 6 (b 4 (a 7 (a 8 (a 9 (a 10 (a 11 (b 12 (a 13 (a 14 (a 15 (a 16 (a 17 (a 18 (a 19 (a 20 (a 21 .nil)))))))))))))))))))))))]
def pl202 : List (Nat × Plan) := [(3, (a 0 (a 1 (a 2 (a 3 (a 4 (a 5 (a 6 (a 7 (a 8 (a 9 (a 10 (a 11 (a 13 (a 14 (b 12 (a 15 (a 16 (a 17 (a 18 (a 19 (a 21 (a 22 (b 20 (a 23 (a 24 (a 25 (a 26 (a 27 (b 28 (a 29 (a 30 (a 31 .nil))))))))))))))))))))))))))))))))), (4, (a 0 (a 1 (a 2 (a 3 (a 4 (a 5 (a 6 (a 7 (a 8 (a 9 (a 10 (a 12 (a 13 (b 11 (a 14 (a 15 (a 16 (a 17 (a 18 (b 19 (a 20 (a 21 (a 22 (a 23 .nil)))))))))))))))))))))))))]
def pl203 : List (Nat × Plan) := [(1, (a 0 (a 1 (a 2 (a 3 (a 4 (b 5 (a 6 (b 7 .nil)))))))))]
def pl205 : List (Nat × Plan) := [(17, (a 0 (a 1 (a 2 (a 3 (a 4 (a 5 (a 6 (a 7 (a 8 (a 9 (a 10 (a 11 (b 12 (a 13 (a 14 .nil))))))))))))))))]
def pl219 : List (Nat × Plan) := [(1, (a 0 (b 1 (b 2 (a 3 (a 5 (b 4 (b 6 (a 7 (a 8 .nil))))))))))]
def pl230 : List (Nat × Plan) := [(0, (a 0 (a 1 (a 2 (a 3 (a 4 (a 5 (a 6 (a 7 (a 8 (a 9 .nil)))))))))))]
def pl232 : List (Nat × Plan) := [(3, (a 0 (a 1 (a 2 (a 3 (a 4 (a 5 (a 6 (a 7 (a 8 (a 9 (a 10 (a 11 (a 12 .nil))))))))))))))]
def pl244 : List (Nat × Plan) := [(0, (a 0 (a 1 (a 2 (a 3 (a 4 (a 5 (a 6 (a 7 (a 8 (a 9 .nil)))))))))))]
def pl252 : List (Nat × Plan) := [(12, (a 0 (a 1 (a 4 (a 5 (b 2 (b 3 (a 7 (b 6 (b 8 (a 9 (b 10 .nil))))))))))))]
def pl258 : List (Nat × Plan) := [(12, (a 0 (a 1 (a 2 (a 3 (a 4 (a 5 (b 6 (b 7 (b 8 .nil))))))))))]
def pl262 : List (Nat × Plan) := [(4, (a 0 (a 1 (a 2 (a 3 (a 4 (a 5 (a 6 (a 7 (a 8 (a 9 (a 10 (a 11 (a 12 (b 13 (a 14 .nil)))))))))))))))), (6, (a 0 (a 1 (a 2 (a 3 (a 4 (a 5 (a 6 (a 7 (a 8 (a 9 (a 10 (a 11 (a 12 (a 13 (a 14 (b 15 (a 16 (b 17 .nil)))))))))))))))))))]
def pl263 : List (Nat × Plan) := [(10, (a 0 (a 1 (a 2 (a 3 (a 4 (a 5 (a 6 (a 7 (a 8 (a 9 (a 10 (a 11 (a 12 (a 13 (a 14 (a 15 (a 16 (b 17 (a 18 (b 19 .nil)))))))))))))))))))))]
def pl264 : List (Nat × Plan) := [(10, (a 0 (a 1 (a 2 (a 3 (a 4 (a 5 (a 6 (a 7 (a 8 (a 9 (a 10 (a 11 (a 12 (a 13 (a 14 (a 15 (a 16 (b 17 (a 18 (b 19 .nil)))))))))))))))))))))]
def pl266 : List (Nat × Plan) := [(3, (a 0 (a 1 (a 2 (a 3 (a 4 (a 5 (a 6 (a 7 (a 8 (a 9 (a 10 (a 11 (a 12 (b 13 (a 14 (b 15 .nil)))))))))))))))))]
def pl267 : List (Nat × Plan) := [(5, (a 0 (a 1 (a 2 (a 3 (a 4 (a 5 (a 6 (a 7 (a 8 (a 9 (a 10 (a 11 (a 12 (b 13 (a 14 (a 15 .nil))))))))))))))))), (11, (a 0 (a 1 (a 2 (a 3 (a 4 (a 5 (a 6 (a 7 (a 8 (a 9 (a 10 (a 11 (a 12 (a 13 (a 14 (b 15 (a 16 (b 17 .nil))))))))))))))))))), (16, (a 0 (a 1 (a 2 (a 3 (a 4 (a 5 (a 6 (a 7 (a 8 (b 9 (a 10 .nil)))))))))))), (17, (a 0 (a 1 (a 2 (a 3 (a 4 (a 5 (a 6 (a 7 (a 8 (a 9 (a 10 (a 11 (a 12 (a 13 (a 14 (b 15 (a 16 (b 17 .nil))))))))))))))))))), (22, (a 0 (a 1 (a 2 (a 3 (a 4 (a 5 (a 6 (a 7 (a 8 (b 9 (a 10 .nil)))))))))))), (23, (a 0 (a 1 (a 2 (a 3 (a 4 (a 5 (a 6 (a 7 (a 8 (a 9 (a 10 (a 11 (a 12 (a 13 (a 14 (b 15 (a 16 (b 17 .nil)))))))))))))))))))]
def pl269 : List (Nat × Plan) := [(1, (a 0 (a 1 (a 2 (a 3 (a 4 (a 5 (a 6 (a 7 (a 8 (a 9 (a 10 (a 11 (a 12 (b 13 (a 14 (b 15 .nil))))))))))))))))), (3, (a 0 (a 1 (a 2 (a 3 (a 4 (a 5 (a 6 (a 7 (a 8 (a 9 (a 10 (a 11 (b 12 (a 13 (a 14 .nil)))))))))))))))), (5, (a 0 (a 1 (a 2 (a 3 (a 4 (a 5 (a 6 (a 7 (a 8 (a 9 (a 10 (a 11 (b 12 (a 13 .nil))))))))))))))), (8, (a 0 (a 1 (a 2 (a 3 (a 4 (a 5 (a 6 (a 7 (a 8 (a 9 (a 10 (a 11 (a 12 (b 13 (a 14 (b 15 .nil)))))))))))))))))]
def pl270 : List (Nat × Plan) := [(1, (a 0 (a 1 (a 2 (a 3 (a 4 (a 5 (a 6 (a 7 (a 8 (a 9 (a 10 (a 11 (a 12 (b 13 (a 14 (b 15 .nil))))))))))))))))), (3, (a 0 (a 1 (a 2 (a 3 (a 4 (a 5 (a 6 (a 7 (a 8 (a 9 (a 10 (a 11 (b 12 (a 13 .nil))))))))))))))), (5, (a 0 (a 1 (a 2 (a 3 (a 4 (a 5 (a 6 (a 7 (a 8 (a 9 (a 10 (a 11 (b 12 (a 13 (a 14 .nil)))))))))))))))), (8, (a 0 (a 1 (a 2 (a 3 (a 4 (a 5 (a 6 (a 7 (a 8 (a 9 (a 10 (a 11 (a 12 (b 13 (a 14 (b 15 .nil))))))))))))))))), (10, (a 0 (a 1 (a 2 (a 3 (a 4 (a 5 (a 6 (a 7 (a 8 (a 9 (a 10 (a 11 (a 12 (b 13 (a 14 (b 15 .nil))))))))))))))))), (13, (a 0 (a 1 (a 2 (a 3 (a 4 (a 5 (a 6 (a 7 (a 8 (a 9 (a 10 (a 11 (b 12 (a 13 .nil))))))))))))))), (15, (a 0 (a 1 (a 2 (a 3 (a 4 (a 5 (a 6 (a 7 (a 8 (a 9 (a 10 (a 11 (b 12 (a 13 (a 14 .nil)))))))))))))))), (18, (a 0 (a 1 (a 2 (a 3 (a 4 (a 5 (a 6 (a 7 (a 8 (a 9 (a 10 (a 11 (a 12 (b 13 (a 14 (b 15 .nil))))))))))))))))), (21, (a 0 (a 1 (a 2 (a 3 (a 4 (a 5 (a 6 (a 7 (a 8 (a 9 (a 10 (a 11 (a 12 (b 13 (a 14 (b 15 .nil)))))))))))))))))]
def pl277 : List (Nat × Plan) := [(6, (a 0 (a 1 (a 2 (a 4 (a 5 (a 6 (b 3 (b 7 (a 8 .nil))))))))))]
def pl282 : List (Nat × Plan) := [(3, (a 0 (a 1 (b 2 (a 3 (b 4 .nil))))))]
def pl284 : List (Nat × Plan) := [(1, (a 0 (a 1 (a 2 (b 3 (b 4 (b 5 .nil)))))))]
def pl287 : List (Nat × Plan) := [(4, (a 0 (a 1 (a 2 (a 3 (b 4 (a 5 (b 6 .nil))))))))]
def pl288 : List (Nat × Plan) := [(1, (a 0 (a 1 (a 2 (a 3 (b 4 (b 5 .nil)))))))]
def pl289 : List (Nat × Plan) := [(1, (a 0 (a 1 (a 2 (b 3 (b 4 .nil))))))]
def pl295 : List (Nat × Plan) := [(1, (a 0 (a 2 (a 3 (.both 1 4 (a 5 (b 4 (a 6 .nil))) (b 1 (a 5 (a 6 .nil))))))))]
def pl298 : List (Nat × Plan) := [(2, (a 0 (a 1 (b 2 (a 3 (a 4 (a 5 (a 6 (a 8 (a 9 (a 10 (b 7 (a 11 (b 12 (a 13 (a 14 .nil))))))))))))))))]
def pl311 : List (Nat × Plan) := [(4, (a 0 (a 1 (a 2 (a 3 (a 4 (a 5 (a 6 (a 7 (a 8 (a 9 (a 10 (b 11 (a 12 (a 13 .nil)))))))))))))))]
def pl318 : List (Nat × Plan) := [(3, (a 0 (a 1 (a 2 (a 3 (a 4 (a 5 (a 6 (a 7 .nil)))))))))]
def pl326 : List (Nat × Plan) := [(5, (a 0 (a 1 (a 2 (a 3 (a 6 (a 7 (a 8 (a 9 (b 4 (b 5 (a 10 (a 11 .nil)))))))))))))]
def pl329 : List (Nat × Plan) := [(1, (a 0 (a 1 (a 2 (a 3 (a 5 (a 6 (a 7 (a 8 (a 9 (b 4 (b 10 (a 11 .nil)))))))))))))]
def pl332 : List (Nat × Plan) := [(3, (a 0 (a 1 (a 2 (a 3 (a 4 (a 5 (a 6 (a 7 (a 8 (a 9 (a 10 (a 11 (a 12 (a 13 (a 14 (a 15 (a 16 (a 17 (b 18 (a 19 .nil))))))))))))))))))))), (5, (a 0 (a 1 (a 2 (a 3 (a 4 (a 5 (a 6 (a 7 (a 8 (a 9 (a 10 (a 11 (b 12 (a 13 .nil))))))))))))))), (6, (a 0 (a 1 (a 2 (a 3 (a 4 (a 5 (a 6 (a 7 (a 8 (a 9 (a 10 (a 11 (a 12 (a 13 (a 14 (a 15 (a 16 (a 17 (a 18 (a 19 (a 20 (b 21 (a 22 (b 23 .nil)))))))))))))))))))))))))]
def pl334 : List (Nat × Plan) := [(1, (a 0 (a 1 (a 2 (a 3 (a 4 (a 5 (a 6 (a 7 (a 8 (b 9 .nil))))))))))), (2, (a 0 (a 1 (a 2 (a 3 (a 4 (a 5 (a 6 (a 7 (a 8 (b 9 .nil))))))))))), (3, (a 0 (a 1 (a 2 (a 3 (a 4 (a 5 (a 6 (a 7 (a 8 (b 9 .nil)))))))))))]
def pl339 : List (Nat × Plan) := [(2, (a 0 (a 2 (b 1 (b 3 (a 4 .nil))))))]
def pl348 : List (Nat × Plan) := [(0, (a 0 (a 1 (b 2 (a 3 (b 4 .nil))))))]
def pl350 : List (Nat × Plan) := [(3, (a 0 (a 1 (a 2 (a 3 (a 4 (a 5 (a 6 (a 7 (a 8 (a 9 .nil)))))))))))]
def pl365 : List (Nat × Plan) := [(6, (a 0 (a 1 (a 2 (a 3 (a 4 (a 5 (a 6 .nil)))))))), (7, (a 0 (a 1 (a 2 (a 3 (a 4 (a 5 (a 6 (b 7 (a 8 .nil)))))))))), (14, (a 0 (a 1 (a 2 (a 3 (a 4 (a 5 (a 6 (a 7 (a 8 (a 9 (a 10 .nil)))))))))))), (31, (a 0 (a 1 (a 2 (a 3 (a 4 (a 5 (a 6 (a 7 (a 8 (a 9 (a 10 .nil))))))))))))]
def pl369 : List (Nat × Plan) := [(3, (a 0 (a 1 (a 2 (a 3 (a 4 (a 5 (a 6 (a 7 (a 8 (a 9 (a 10 (a 11 .nil)))))))))))))]
def pl375 : List (Nat × Plan) := [(3, (a 0 (a 1 (a 2 (a 3 (a 5 (a 6 (a 7 (a 8 (a 9 (a 11 (b 4 (a 10 (a 12 .nil))))))))))))))]
def pl378 : List (Nat × Plan) := [(1, (a 0 (a 1 (a 2 (a 3 (a 4 (a 5 (a 6 (a 7 (b 8 .nil))))))))))]
def pl388 : List (Nat × Plan) := [(9, (a 0 (a 1 (a 2 (a 3 (a 4 (a 5 (a 6 (a 7 (a 8 (a 9 (a 10 (a 11 (a 12 (a 13 (a 14 (a 15 (a 16 (a 17 (a 18 (a 19 .nil))))))))))))))))))))), (18, (a 0 (a 1 (a 2 (a 3 (a 4 (a 5 (a 6 (a 7 (a 8 (a 9 (a 10 (a 11 (a 12 (a 13 (a 14 (a 15 (a 16 (a 17 (a 18 (a 19 .nil)))))))))))))))))))))]
def pl389 : List (Nat × Plan) := [(9, (a 0 (a 1 (a 2 (a 3 (a 4 (a 5 (a 6 (a 7 (a 8 (a 9 (a 10 (a 11 (a 12 (a 13 (a 14 (a 15 (a 16 (a 17 (a 18 (a 19 .nil)))))))))))))))))))))]
def pl392 : List (Nat × Plan) := [(6, (a 0 (a 1 (a 2 (a 3 (a 4 (a 5 (a 6 (a 7 (a 8 (a 9 (a 10 (a 11 (a 12 .nil))))))))))))))]
def pl393 : List (Nat × Plan) := [(2, (a 0 (a 1 (a 2 (a 3 (a 4 (a 5 (a 6 (a 7 (a 8 (a 9 (b 10 (a 11 (a 12 .nil))))))))))))))]
def pl406 : List (Nat × Plan) := [(0, (a 0 (a 1 (a 2 (a 3 (a 6 (a 9 (a 10 (a 11 (a 12 (a 13 (b 4 (a 5 (a 7 (b 8 (a 14 (a 15 .nil)))))))))))))))))]
def pl411 : List (Nat × Plan) := [(7, (a 0 (a 1 (a 2 (a 3 (a 4 (b 5 (a 6 (a 7 (a 8 (b 9 (a 10 (b 11 (a 12 .nil))))))))))))))]
def pl428 : List (Nat × Plan) := [(7, (a 0 (a 1 (a 2 (a 3 (a 4 (a 5 (a 6 (a 7 (a 8 (a 9 (a 10 (a 11 (b 12 (a 13 (b 14 .nil)))))))))))))))), (8, (a 0 (a 1 (a 2 (a 3 (a 4 (a 5 (a 6 (a 7 (a 8 (a 9 (a 10 (a 11 (b 12 (a 13 (b 14 .nil)))))))))))))))), (9, (a 0 (a 1 (a 2 (a 3 (a 4 (a 5 (a 6 (a 7 (a 8 (a 9 (a 10 (a 11 (b 12 (a 13 (b 14 .nil)))))))))))))))), (10, (a 0 (a 1 (a 2 (a 3 (a 4 (a 5 (a 6 (a 7 (a 8 (a 9 (a 10 (a 11 (b 12 (a 13 (b 14 .nil)))))))))))))))), (17, (a 0 (a 1 (a 2 (a 3 (a 4 (a 5 (a 6 (a 7 (a 8 (a 9 (a 10 (a 11 (b 12 (a 13 (b 14 .nil)))))))))))))))), (18, (a 0 (a 1 (a 2 (a 3 (a 4 (a 5 (a 6 (a 7 (a 8 (a 9 (a 10 (a 11 (b 12 (a 13 (b 14 .nil)))))))))))))))), (23, (a 0 (a 1 (a 2 (a 3 (a 4 (a 5 (a 6 (a 7 (a 8 (a 9 (a 10 (a 11 (b 12 (a 13 (b 14 .nil))))))))))))))))]
def pl446 : List (Nat × Plan) := [(4, (a 0 (a 1 (a 2 (a 4 (a 5 (a 6 (a 7 (.both 3 8 (a 9 (b 8 (a 10 .nil))) (b 3 (a 9 (a 10 .nil)))))))))))), (8, (a 0 (a 1 (a 2 (a 3 (a 4 (a 6 (a 9 (b 5 (a 7 (a 8 (b 10 (a 11 (b 12 .nil))))))))))))))]
def pl449 : List (Nat × Plan) := [(2, (a 0 (a 1 (a 2 (a 3 (a 4 (a 5 (a 6 (a 7 (a 8 (a 9 (a 10 (a 11 (a 12 (a 13 (b 14 .nil))))))))))))))))]
def pl458 : List (Nat × Plan) := [(2, (a 0 (a 2 (a 3 (a 4 (b 1 (a 5 (a 6 .nil))))))))]
def pl460 : List (Nat × Plan) := [(3, (a 0 (a 1 (a 2 (a 5 (a 6 (b 3 (a 4 (a 7 (a 8 .nil))))))))))]
def pl471 : List (Nat × Plan) := [(6, (a 0 (a 1 (a 2 (b 3 .nil)))))]
def pl474 : List (Nat × Plan) := [(1, (a 0 (a 1 (a 2 (a 3 (a 4 (a 5 (a 8 (a 9 (a 10 (b 6 (b 7 (b 11 (a 12 (a 13 .nil))))))))))))))), (2, (a 0 (a 1 (a 2 (a 3 (a 4 (a 5 (a 6 (a 7 (a 8 (a 9 (a 10 (a 11 (a 12 (a 13 (a 14 (a 15 (a 16 (a 18 (a 19 (b 17 (b 20 (a 21 (a 22 .nil))))))))))))))))))))))))]
def planTab : List (Nat × List (Nat × Plan)) := [(5, pl5), (22, pl22), (36, pl36), (40, pl40), (42, pl42), (52, pl52), (53, pl53), (61, pl61), (63, pl63), (74, pl74), (76, pl76), (80, pl80), (81, pl81), (93, pl93), (94, pl94), (101, pl101), (103, pl103), (108, pl108), (109, pl109), (145, pl145), (156, pl156), (174, pl174), (186, pl186), (194, pl194), (202, pl202), (203, pl203), (205, pl205), (219, pl219), (230, pl230), (232, pl232), (244, pl244), (252, pl252), (258, pl258), (262, pl262), (263, pl263), (264, pl264), (266, pl266), (267, pl267), (269, pl269), (270, pl270), (277, pl277), (282, pl282), (284, pl284), (287, pl287), (288, pl288), (289, pl289), (295, pl295), (298, pl298), (311, pl311), (318, pl318), (326, pl326), (329, pl329), (332, pl332), (334, pl334), (339, pl339), (348, pl348), (350, pl350), (365, pl365), (369, pl369), (375, pl375), (378, pl378), (388, pl388), (389, pl389), (392, pl392), (393, pl393), (406, pl406), (411, pl411), (428, pl428), (446, pl446), (449, pl449), (458, pl458), (460, pl460), (471, pl471), (474, pl474)]
def plan (f : FuncId) (id : Nat) : Option Plan := match look f planTab with
  | some l => look id l
  | none => none
def fits (f : Nat) (fn : Func) : Bool := match fn.body with
  | some c => codeOk (plan f) c
  | none => true
theorem fits5 : fits 5 Tryz.f5 = true := by kernel_rfl
theorem fits22 : fits 22 Tryz.f22 = true := by kernel_rfl
theorem fits36 : fits 36 Tryz.f36 = true := by kernel_rfl
theorem fits40 : fits 40 Tryz.f40 = true := by kernel_rfl
theorem fits42 : fits 42 Tryz.f42 = true := by kernel_rfl
theorem fits52 : fits 52 Tryz.f52 = true := by kernel_rfl
theorem fits53 : fits 53 Tryz.f53 = true := by kernel_rfl
theorem fits61 : fits 61 Tryz.f61 = true := by kernel_rfl
theorem fits63 : fits 63 Tryz.f63 = true := by kernel_rfl
theorem fits74 : fits 74 Tryz.f74 = true := by kernel_rfl
theorem fits76 : fits 76 Tryz.f76 = true := by kernel_rfl
theorem fits80 : fits 80 Tryz.f80 = true := by kernel_rfl
theorem fits81 : fits 81 Tryz.f81 = true := by kernel_rfl
theorem fits93 : fits 93 Tryz.f93 = true := by kernel_rfl
theorem fits94 : fits 94 Tryz.f94 = true := by kernel_rfl
theorem fits101 : fits 101 Tryz.f101 = true := by kernel_rfl
theorem fits103 : fits 103 Tryz.f103 = true := by kernel_rfl
theorem fits108 : fits 108 Tryz.f108 = true := by kernel_rfl
theorem fits109 : fits 109 Tryz.f109 = true := by kernel_rfl
theorem fits145 : fits 145 Tryz.f145 = true := by kernel_rfl
theorem fits156 : fits 156 Tryz.f156 = true := by kernel_rfl
theorem fits174 : fits 174 Tryz.f174 = true := by kernel_rfl
theorem fits186 : fits 186 Tryz.f186 = true := by kernel_rfl
theorem fits194 : fits 194 Tryz.f194 = true := by kernel_rfl
theorem fits202 : fits 202 Tryz.f202 = true := by kernel_rfl
theorem fits203 : fits 203 Tryz.f203 = true := by kernel_rfl
theorem fits205 : fits 205 Tryz.f205 = true := by kernel_rfl
theorem fits219 : fits 219 Tryz.f219 = true := by kernel_rfl
theorem fits230 : fits 230 Tryz.f230 = true := by kernel_rfl
theorem fits232 : fits 232 Tryz.f232 = true := by kernel_rfl
theorem fits244 : fits 244 Tryz.f244 = true := by kernel_rfl
theorem fits252 : fits 252 Tryz.f252 = true := by kernel_rfl
theorem fits258 : fits 258 Tryz.f258 = true := by kernel_rfl
theorem fits262 : fits 262 Tryz.f262 = true := by kernel_rfl
theorem fits263 : fits 263 Tryz.f263 = true := by kernel_rfl
theorem fits264 : fits 264 Tryz.f264 = true := by kernel_rfl
theorem fits266 : fits 266 Tryz.f266 = true := by kernel_rfl
theorem fits267 : fits 267 Tryz.f267 = true := by kernel_rfl
theorem fits269 : fits 269 Tryz.f269 = true := by kernel_rfl
theorem fits270 : fits 270 Tryz.f270 = true := by kernel_rfl
theorem fits277 : fits 277 Tryz.f277 = true := by kernel_rfl
theorem fits282 : fits 282 Tryz.f282 = true := by kernel_rfl
theorem fits284 : fits 284 Tryz.f284 = true := by kernel_rfl
theorem fits287 : fits 287 Tryz.f287 = true := by kernel_rfl
theorem fits288 : fits 288 Tryz.f288 = true := by kernel_rfl
theorem fits289 : fits 289 Tryz.f289 = true := by kernel_rfl
theorem fits295 : fits 295 Tryz.f295 = true := by kernel_rfl
theorem fits298 : fits 298 Tryz.f298 = true := by kernel_rfl
theorem fits311 : fits 311 Tryz.f311 = true := by kernel_rfl
theorem fits318 : fits 318 Tryz.f318 = true := by kernel_rfl
theorem fits326 : fits 326 Tryz.f326 = true := by kernel_rfl
theorem fits329 : fits 329 Tryz.f329 = true := by kernel_rfl
theorem fits332 : fits 332 Tryz.f332 = true := by kernel_rfl
theorem fits334 : fits 334 Tryz.f334 = true := by kernel_rfl
theorem fits339 : fits 339 Tryz.f339 = true := by kernel_rfl
theorem fits348 : fits 348 Tryz.f348 = true := by kernel_rfl
theorem fits350 : fits 350 Tryz.f350 = true := by kernel_rfl
theorem fits365 : fits 365 Tryz.f365 = true := by kernel_rfl
theorem fits369 : fits 369 Tryz.f369 = true := by kernel_rfl
theorem fits375 : fits 375 Tryz.f375 = true := by kernel_rfl
theorem fits378 : fits 378 Tryz.f378 = true := by kernel_rfl
theorem fits388 : fits 388 Tryz.f388 = true := by kernel_rfl
theorem fits389 : fits 389 Tryz.f389 = true := by kernel_rfl
theorem fits392 : fits 392 Tryz.f392 = true := by kernel_rfl
theorem fits393 : fits 393 Tryz.f393 = true := by kernel_rfl
theorem fits406 : fits 406 Tryz.f406 = true := by kernel_rfl
theorem fits411 : fits 411 Tryz.f411 = true := by kernel_rfl
theorem fits428 : fits 428 Tryz.f428 = true := by kernel_rfl
theorem fits446 : fits 446 Tryz.f446 = true := by kernel_rfl
theorem fits449 : fits 449 Tryz.f449 = true := by kernel_rfl
theorem fits458 : fits 458 Tryz.f458 = true := by kernel_rfl
theorem fits460 : fits 460 Tryz.f460 = true := by kernel_rfl
theorem fits471 : fits 471 Tryz.f471 = true := by kernel_rfl
theorem fits474 : fits 474 Tryz.f474 = true := by kernel_rfl
theorem codeOk_none : ∀ c : Code, codeOk (fun _ => none) c = true
  | .region id ops true => rfl
  | .region id ops false => rfl
  | .seq a b => by simp [codeOk, codeOk_none a, codeOk_none b]
  | .cond _ a b => by simp [codeOk, codeOk_none a, codeOk_none b]
  | .block _ c => by simp [codeOk, codeOk_none c]
  | .loop c => by simp [codeOk, codeOk_none c]
  | .skip => rfl
  | .ret => rfl
  | .label _ => rfl
  | .exit _ => rfl
  | .scope _ => rfl
  | .rangeFunc .. => rfl
  | .goto _ => rfl
  | .refuse _ => rfl
theorem look_none {α : Type} {i : Nat} : ∀ {l : List (Nat × α)}, i ∉ l.map (·.1) → look i l = none
  | [], _ => rfl
  | (j, x) :: l, h => by
    simp only [List.map_cons, List.mem_cons, not_or] at h
    simp only [look, h.1, if_false]
    exact look_none h.2
theorem plans_fit (f : FuncId) (fn : Func) (body : Code) (hf : Tryz.prog.funcs[f]? = some fn) (hb : fn.body = some body) : codeOk (plan f) body = true := by
  have key : fits f fn = true → codeOk (plan f) body = true := fun h => by
    unfold fits at h
    rw [hb] at h
    exact h
  by_cases hm : f ∈ planTab.map (·.1)
  · apply key
    have hm : f ∈ [5, 22, 36, 40, 42, 52, 53, 61, 63, 74, 76, 80, 81, 93, 94, 101, 103, 108, 109, 145, 156, 174, 186, 194, 202, 203, 205, 219, 230, 232, 244, 252, 258, 262, 263, 264, 266, 267, 269, 270, 277, 282, 284, 287, 288, 289, 295, 298, 311, 318, 326, 329, 332, 334, 339, 348, 350, 365, 369, 375, 378, 388, 389, 392, 393, 406, 411, 428, 446, 449, 458, 460, 471, 474] := hm
    simp only [List.mem_cons, List.not_mem_nil, or_false] at hm
    rcases hm with rfl | rfl | rfl | rfl | rfl | rfl | rfl | rfl | rfl | rfl | rfl | rfl | rfl | rfl | rfl | rfl | rfl | rfl | rfl | rfl | rfl | rfl | rfl | rfl | rfl | rfl | rfl | rfl | rfl | rfl | rfl | rfl | rfl | rfl | rfl | rfl | rfl | rfl | rfl | rfl | rfl | rfl | rfl | rfl | rfl | rfl | rfl | rfl | rfl | rfl | rfl | rfl | rfl | rfl | rfl | rfl | rfl | rfl | rfl | rfl | rfl | rfl | rfl | rfl | rfl | rfl | rfl | rfl | rfl | rfl | rfl | rfl | rfl | rfl
    · rw [Tryz.func5] at hf; cases hf; exact fits5
    · rw [Tryz.func22] at hf; cases hf; exact fits22
    · rw [Tryz.func36] at hf; cases hf; exact fits36
    · rw [Tryz.func40] at hf; cases hf; exact fits40
    · rw [Tryz.func42] at hf; cases hf; exact fits42
    · rw [Tryz.func52] at hf; cases hf; exact fits52
    · rw [Tryz.func53] at hf; cases hf; exact fits53
    · rw [Tryz.func61] at hf; cases hf; exact fits61
    · rw [Tryz.func63] at hf; cases hf; exact fits63
    · rw [Tryz.func74] at hf; cases hf; exact fits74
    · rw [Tryz.func76] at hf; cases hf; exact fits76
    · rw [Tryz.func80] at hf; cases hf; exact fits80
    · rw [Tryz.func81] at hf; cases hf; exact fits81
    · rw [Tryz.func93] at hf; cases hf; exact fits93
    · rw [Tryz.func94] at hf; cases hf; exact fits94
    · rw [Tryz.func101] at hf; cases hf; exact fits101
    · rw [Tryz.func103] at hf; cases hf; exact fits103
    · rw [Tryz.func108] at hf; cases hf; exact fits108
    · rw [Tryz.func109] at hf; cases hf; exact fits109
    · rw [Tryz.func145] at hf; cases hf; exact fits145
    · rw [Tryz.func156] at hf; cases hf; exact fits156
    · rw [Tryz.func174] at hf; cases hf; exact fits174
    · rw [Tryz.func186] at hf; cases hf; exact fits186
    · rw [Tryz.func194] at hf; cases hf; exact fits194
    · rw [Tryz.func202] at hf; cases hf; exact fits202
    · rw [Tryz.func203] at hf; cases hf; exact fits203
    · rw [Tryz.func205] at hf; cases hf; exact fits205
    · rw [Tryz.func219] at hf; cases hf; exact fits219
    · rw [Tryz.func230] at hf; cases hf; exact fits230
    · rw [Tryz.func232] at hf; cases hf; exact fits232
    · rw [Tryz.func244] at hf; cases hf; exact fits244
    · rw [Tryz.func252] at hf; cases hf; exact fits252
    · rw [Tryz.func258] at hf; cases hf; exact fits258
    · rw [Tryz.func262] at hf; cases hf; exact fits262
    · rw [Tryz.func263] at hf; cases hf; exact fits263
    · rw [Tryz.func264] at hf; cases hf; exact fits264
    · rw [Tryz.func266] at hf; cases hf; exact fits266
    · rw [Tryz.func267] at hf; cases hf; exact fits267
    · rw [Tryz.func269] at hf; cases hf; exact fits269
    · rw [Tryz.func270] at hf; cases hf; exact fits270
    · rw [Tryz.func277] at hf; cases hf; exact fits277
    · rw [Tryz.func282] at hf; cases hf; exact fits282
    · rw [Tryz.func284] at hf; cases hf; exact fits284
    · rw [Tryz.func287] at hf; cases hf; exact fits287
    · rw [Tryz.func288] at hf; cases hf; exact fits288
    · rw [Tryz.func289] at hf; cases hf; exact fits289
    · rw [Tryz.func295] at hf; cases hf; exact fits295
    · rw [Tryz.func298] at hf; cases hf; exact fits298
    · rw [Tryz.func311] at hf; cases hf; exact fits311
    · rw [Tryz.func318] at hf; cases hf; exact fits318
    · rw [Tryz.func326] at hf; cases hf; exact fits326
    · rw [Tryz.func329] at hf; cases hf; exact fits329
    · rw [Tryz.func332] at hf; cases hf; exact fits332
    · rw [Tryz.func334] at hf; cases hf; exact fits334
    · rw [Tryz.func339] at hf; cases hf; exact fits339
    · rw [Tryz.func348] at hf; cases hf; exact fits348
    · rw [Tryz.func350] at hf; cases hf; exact fits350
    · rw [Tryz.func365] at hf; cases hf; exact fits365
    · rw [Tryz.func369] at hf; cases hf; exact fits369
    · rw [Tryz.func375] at hf; cases hf; exact fits375
    · rw [Tryz.func378] at hf; cases hf; exact fits378
    · rw [Tryz.func388] at hf; cases hf; exact fits388
    · rw [Tryz.func389] at hf; cases hf; exact fits389
    · rw [Tryz.func392] at hf; cases hf; exact fits392
    · rw [Tryz.func393] at hf; cases hf; exact fits393
    · rw [Tryz.func406] at hf; cases hf; exact fits406
    · rw [Tryz.func411] at hf; cases hf; exact fits411
    · rw [Tryz.func428] at hf; cases hf; exact fits428
    · rw [Tryz.func446] at hf; cases hf; exact fits446
    · rw [Tryz.func449] at hf; cases hf; exact fits449
    · rw [Tryz.func458] at hf; cases hf; exact fits458
    · rw [Tryz.func460] at hf; cases hf; exact fits460
    · rw [Tryz.func471] at hf; cases hf; exact fits471
    · rw [Tryz.func474] at hf; cases hf; exact fits474
  · have : plan f = fun _ => none := by
      funext id
      unfold plan
      rw [look_none hm]
    rw [this]
    exact codeOk_none body
end Go.Proofs.YtlhaaokldjdnnaaGreatDoor.Ev
