/- The orders in which the operations of the regions that draw are taken: data, written by a program of ours. The types of the seat; netlabref20.EqBools on the abstract heap. DERIVED: THE SHELF's CONTRACTS AT THIS DUMP, IN PLAIN WORDS (tools/lay-plain.mjs out of 'TrySortShelf.lean', which tools/lay-shelf.mjs wrote): THE SAME DECLARATIONS UNDER THE SAME NAMES: 'import', 'namespace', 'open', 'def', 'theorem' AND NOTHING ELSE: no command of the shelf's: FOR A HAND-IN. Each laying: the table of numbers ('.._ren') and one theorem, a field a fact of the dump's own or the kernel's comparison; each contract: ONE APPLICATION. Own layer 'Ab': the library's sort of a slice of integers. slices.Clone at []int, scan.permutation and scan.chain on the abstract heap. Permutations, plainly; scan.chain, scan.Load and scan.Unload on the abstract heap. -/
import Derived.Test.YtnejoceplinjpaaGreatB3
import Derived.Test.YtnejoceplinjpaaGreatProg
import Derived.KernelRfl
import Derived.IntWalk
import Derived.Shelf.SortM.Plain
import Derived.Shelf.SortM.SortNone
import Derived.Ground.SlgmProg
import Derived.Sort.Row
import Derived.Sort.Grow
set_option linter.unusedSimpArgs false
set_option linter.unusedVariables false
namespace Go.Ab
def s1plans : List (Nat × Nat × Plan) := [
  (6, 11, (.take 0 [10, 9, 8, 3] (.take 1 [10, 9, 8, 3, 2] (.take 2 [10, 9, 8, 3] (.take 4 [10, 9, 8] (.take 5 [10, 9, 8, 7, 6] (.watch 6 [10, 9, 8, 7] (.watch 7 [10, 9, 8] (.only 3 (.only 8 (.take 9 [10] (.take 10 [] .done)))))))))))),
  (8, 16, (.take 2 [15, 14, 13, 12, 11, 10, 9, 8, 6, 3] (.take 4 [15, 14, 13, 12, 11, 10, 9, 8, 6, 5] (.take 7 [15, 14, 13, 12, 11, 10, 9, 8] (.watch 0 [15, 14, 13, 12, 11, 10, 9, 8] (.two 1 (.two 3 (.only 5 (.only 6 (.only 8 (.take 9 [15, 14, 13, 12, 11, 10] (.take 10 [15, 14, 13] (.take 11 [15, 14] (.take 12 [15] (.take 13 [15, 14] (.take 14 [15] (.take 15 [] .done)))))))))) 5 (.only 3 (.only 6 (.only 8 (.take 9 [15, 14, 13, 12, 11, 10] (.take 10 [15, 14, 13] (.take 11 [15, 14] (.take 12 [15] (.take 13 [15, 14] (.take 14 [15] (.take 15 [] .done))))))))))) 5 (.only 1 (.only 3 (.only 6 (.only 8 (.take 9 [15, 14, 13, 12, 11, 10] (.take 10 [15, 14, 13] (.take 11 [15, 14] (.take 12 [15] (.take 13 [15, 14] (.take 14 [15] (.take 15 [] .done))))))))))))))))),
  (7, 16, (.take 2 [15, 14, 13, 12, 11, 10, 9, 8, 6, 3] (.take 4 [15, 14, 13, 12, 11, 10, 9, 8, 6, 5] (.take 7 [15, 14, 13, 12, 11, 10, 9, 8] (.watch 0 [15, 14, 13, 12, 11, 10, 9, 8] (.two 1 (.two 3 (.only 5 (.only 6 (.only 8 (.take 9 [15, 14, 13, 12, 11, 10] (.take 10 [15, 14, 13] (.take 11 [15, 14] (.take 12 [15] (.take 13 [15, 14] (.take 14 [15] (.take 15 [] .done)))))))))) 5 (.only 3 (.only 6 (.only 8 (.take 9 [15, 14, 13, 12, 11, 10] (.take 10 [15, 14, 13] (.take 11 [15, 14] (.take 12 [15] (.take 13 [15, 14] (.take 14 [15] (.take 15 [] .done))))))))))) 5 (.only 1 (.only 3 (.only 6 (.only 8 (.take 9 [15, 14, 13, 12, 11, 10] (.take 10 [15, 14, 13] (.take 11 [15, 14] (.take 12 [15] (.take 13 [15, 14] (.take 14 [15] (.take 15 [] .done))))))))))))))))),
  (3, 11, (.take 0 [10, 9, 8, 3] (.take 1 [10, 9, 8, 3, 2] (.take 2 [10, 9, 8, 3] (.take 4 [10, 9, 8] (.take 5 [10, 9, 8, 7, 6] (.watch 6 [10, 9, 8, 7] (.watch 7 [10, 9, 8] (.only 3 (.only 8 (.take 9 [10] (.take 10 [] .done)))))))))))),
  (5, 13, (.take 0 [12, 11, 10, 1] (.take 2 [12, 11, 10, 9, 8, 3] (.take 5 [12, 11, 10, 9, 8, 7, 6] (.take 6 [12, 11, 10, 9, 8, 7] (.watch 1 [12, 11, 10] (.watch 3 [12, 11, 10, 9, 8] (.only 4 (.only 7 (.take 8 [12, 11, 10, 9] (.only 9 (.only 10 (.take 11 [12] (.only 12 .done)))))))))))))),
  (19, 20, (.take 0 [19, 18, 5, 4, 3, 1] (.take 2 [19, 18, 5, 4, 3] (.take 6 [19, 18] (.take 7 [19, 18, 17] (.take 8 [19, 18, 17, 16, 15, 13, 12, 11, 9] (.take 9 [19, 18, 17, 16, 15, 13, 12, 11] (.take 10 [19, 18, 17, 16, 15, 13, 12, 11] (.take 11 [19, 18, 17, 16, 15, 13, 12] (.take 12 [19, 18, 17, 16, 15, 13] (.take 13 [19, 18, 17, 16, 15] (.take 14 [19, 18, 17, 16, 15] (.take 15 [19, 18, 17, 16] (.take 16 [19, 18, 17] (.watch 1 [19, 18, 5, 4, 3] (.take 3 [19, 18, 5, 4] (.take 4 [19, 18, 5] (.watch 5 [19, 18] (.only 17 (.take 18 [19] (.only 19 .done))))))))))))))))))))),
  (23, 12, (.take 0 [11, 10, 1] (.take 2 [11, 10] (.take 3 [11, 10, 9] (.take 4 [11, 10, 9, 8, 7, 5] (.take 5 [11, 10, 9, 8, 7] (.take 6 [11, 10, 9, 8, 7] (.take 7 [11, 10, 9, 8] (.take 8 [11, 10, 9] (.watch 1 [11, 10] (.only 9 (.take 10 [11] (.only 11 .done))))))))))))),
  (28, 13, (.take 0 [12, 11, 7] (.take 1 [12, 11, 7, 6, 5, 4, 2] (.take 2 [12, 11, 7, 6, 5, 4] (.take 3 [12, 11, 7, 6, 5, 4] (.take 4 [12, 11, 7, 6, 5] (.take 5 [12, 11, 7, 6] (.take 6 [12, 11, 7] (.take 8 [12, 11] (.take 9 [12, 11, 10] (.watch 10 [12, 11] (.only 7 (.only 11 (.take 12 [] .done)))))))))))))),
  (34, 12, (.take 0 [11, 10, 9, 1] (.take 1 [11, 10, 9] (.take 2 [11, 10, 9, 8, 7, 5, 4, 3] (.take 3 [11, 10, 9, 8, 7, 5, 4] (.take 4 [11, 10, 9, 8, 7, 5] (.take 5 [11, 10, 9, 8, 7] (.take 6 [11, 10, 9, 8, 7] (.take 7 [11, 10, 9, 8] (.only 8 (.only 9 (.take 10 [11] (.only 11 .done))))))))))))),
  (35, 9, (.take 0 [8, 7, 6, 1] (.take 2 [8, 7, 6] (.take 3 [8, 7, 6, 5, 4] (.watch 1 [8, 7, 6] (.only 4 (.take 5 [8, 7, 6] (.take 6 [8, 7] (.take 7 [8] (.only 8 .done)))))))))),
  (10, 7, (.take 0 [6, 5, 1] (.take 1 [6, 5] (.take 2 [6, 4, 3] (.take 3 [6, 4] (.take 4 [6] (.take 5 [6] (.take 6 [] .done)))))))),
  (11, 13, (.take 0 [12, 10, 2, 1] (.take 3 [12, 10, 9, 5, 4] (.take 4 [12, 10, 9, 5] (.take 6 [12, 10, 9] (.take 7 [12, 10, 9, 8] (.watch 1 [12, 10, 2] (.take 2 [12, 10] (.watch 8 [12, 10, 9] (.two 5 (.two 9 (.take 10 [12] (.only 11 (.only 12 .done))) 11 (.only 9 (.take 10 [12] (.only 12 .done)))) 11 (.only 5 (.only 9 (.take 10 [12] (.only 12 .done)))))))))))))),
  (21, 13, (.take 0 [12, 11, 10, 1] (.take 2 [12, 11, 10, 9, 8, 3] (.take 4 [12, 11, 10, 9, 8, 7] (.take 5 [12, 11, 10, 9, 8, 7, 6] (.take 6 [12, 11, 10, 9, 8, 7] (.watch 1 [12, 11, 10] (.watch 3 [12, 11, 10, 9, 8] (.only 7 (.take 8 [12, 11, 10, 9] (.only 9 (.only 10 (.take 11 [12] (.only 12 .done)))))))))))))),
  (6, 11, (.take 0 [10, 4, 3, 1] (.take 1 [10, 4, 3] (.take 2 [10, 4, 3] (.take 3 [10, 4] (.take 4 [10] (.take 5 [10, 9, 8, 6] (.take 6 [10, 9, 8] (.take 7 [10, 9, 8] (.take 8 [10, 9] (.take 9 [10] (.take 10 [] .done)))))))))))),
  (11, 29, (.take 0 [28, 27, 26, 25, 24, 23, 22, 21, 20, 19, 18, 17, 16, 15, 14, 13, 12, 5, 4, 3, 1] (.take 1 [28, 27, 26, 25, 24, 23, 22, 21, 20, 19, 18, 17, 16, 15, 14, 13, 12, 5, 4, 3] (.take 2 [28, 27, 26, 25, 24, 23, 22, 21, 20, 19, 18, 17, 16, 15, 14, 13, 12, 5, 4, 3] (.take 3 [28, 27, 26, 25, 24, 23, 22, 21, 20, 19, 18, 17, 16, 15, 14, 13, 12, 5, 4] (.take 4 [28, 27, 26, 25, 24, 23, 22, 21, 20, 19, 18, 17, 16, 15, 14, 13, 12, 5] (.take 5 [28, 27, 26, 25, 24, 23, 22, 21, 20, 19, 18, 17, 16, 15, 14, 13, 12] (.take 6 [28, 27, 26, 25, 24, 23, 22, 21, 20, 19, 18, 17, 16, 15, 14, 13, 12, 11, 10, 9, 7] (.take 7 [28, 27, 26, 25, 24, 23, 22, 21, 20, 19, 18, 17, 16, 15, 14, 13, 12, 11, 10, 9] (.take 8 [28, 27, 26, 25, 24, 23, 22, 21, 20, 19, 18, 17, 16, 15, 14, 13, 12, 11, 10, 9] (.take 9 [28, 27, 26, 25, 24, 23, 22, 21, 20, 19, 18, 17, 16, 15, 14, 13, 12, 11, 10] (.take 10 [28, 27, 26, 25, 24, 23, 22, 21, 20, 19, 18, 17, 16, 15, 14, 13, 12, 11] (.take 11 [28, 27, 26, 25, 24, 23, 22, 21, 20, 19, 18, 17, 16, 15, 14, 13, 12] (.take 12 [28, 27, 26, 25, 24, 23, 22, 21, 20, 19, 18, 17, 16, 15, 14, 13] (.take 13 [28, 27, 26, 25, 24, 23, 22, 21, 20, 19, 18, 17, 16, 15, 14] (.take 14 [28, 27, 26, 19, 18, 17, 15] (.take 15 [28, 27, 26, 19, 18, 17] (.take 16 [28, 27, 26, 19, 18, 17] (.take 17 [28, 27, 26, 19, 18] (.take 18 [28, 27, 26, 19] (.take 19 [28, 27, 26] (.take 20 [28, 27, 26, 25, 24, 23, 21] (.take 21 [28, 27, 26, 25, 24, 23] (.take 22 [28, 27, 26, 25, 24, 23] (.take 23 [28, 27, 26, 25, 24] (.take 24 [28, 27, 26, 25] (.take 25 [28, 27, 26] (.only 26 (.take 27 [28] (.take 28 [] .done)))))))))))))))))))))))))))))),
  (6, 9, (.take 0 [8, 3, 2] (.take 1 [8, 3, 2] (.take 2 [8, 3] (.take 3 [8] (.take 4 [8, 7, 6] (.take 5 [8, 7, 6] (.take 6 [8, 7] (.take 7 [8] (.take 8 [] .done)))))))))),
  (12, 16, (.take 0 [15, 14] (.take 1 [15, 14, 13, 12, 11, 4, 3] (.take 2 [15, 14, 13, 12, 11, 4, 3] (.take 3 [15, 14, 13, 12, 11, 4] (.take 4 [15, 14, 13, 12, 11] (.take 5 [15, 14, 13, 12, 11, 10, 9, 8, 7] (.take 6 [15, 14, 13, 12, 11, 10, 9, 8, 7] (.take 7 [15, 14, 13, 12, 11, 10, 9, 8] (.take 8 [15, 14, 13, 12, 11, 10, 9] (.take 9 [15, 14, 13, 12, 11, 10] (.take 10 [15, 14, 13, 12, 11] (.take 11 [15, 14, 13, 12] (.take 12 [15, 14, 13] (.only 13 (.only 14 (.take 15 [] .done))))))))))))))))),
  (6, 10, (.take 0 [9, 8, 3, 2] (.take 1 [9, 8, 3, 2] (.take 2 [9, 8, 3] (.take 3 [9, 8] (.take 4 [9, 8, 7, 6] (.take 5 [9, 8, 7, 6] (.take 6 [9, 8, 7] (.take 7 [9, 8] (.only 8 (.take 9 [] .done))))))))))),
  (2, 11, (.take 0 [10, 9, 8, 7, 6, 5, 4, 3, 2, 1] (.take 1 [10, 9, 8, 7, 6, 5, 4, 3, 2] (.take 2 [10, 9, 8, 7, 6, 5, 4, 3] (.take 3 [10, 9, 5, 4] (.take 6 [10, 9, 8, 7] (.watch 7 [10, 9, 8] (.watch 8 [10, 9] (.only 4 (.take 5 [10, 9] (.take 9 [10] (.take 10 [] .done)))))))))))),
  (6, 12, (.take 0 [11, 10, 3, 2] (.take 1 [11, 10, 3, 2] (.take 2 [11, 10, 3] (.take 3 [11, 10] (.take 4 [11, 7, 6] (.take 5 [11, 7, 6] (.take 6 [11, 7] (.watch 7 [11] (.two 8 (.only 9 (.only 10 (.only 11 .done))) 9 (.only 8 (.only 10 (.only 11 .done))))))))))))),
  (12, 11, (.take 0 [10, 4, 3, 1] (.take 1 [10, 4, 3] (.take 2 [10, 4, 3] (.take 3 [10, 4] (.take 4 [10] (.take 5 [10, 9, 8, 6] (.take 6 [10, 9, 8] (.take 7 [10, 9, 8] (.take 8 [10, 9] (.take 9 [10] (.take 10 [] .done)))))))))))),
  (8, 15, (.take 0 [14, 13] (.take 1 [14, 13, 8, 7] (.take 2 [14, 13, 8, 7, 6, 4, 3] (.take 3 [14, 13, 8, 7, 6, 4] (.take 4 [14, 13, 8, 7, 6] (.take 5 [14, 13, 8, 7, 6] (.take 6 [14, 13, 8, 7] (.take 7 [14, 13, 8] (.take 8 [14, 13] (.take 9 [14, 13, 12, 11] (.take 10 [14, 13, 12, 11] (.take 11 [14, 13, 12] (.take 12 [14, 13] (.take 13 [14] (.only 14 .done)))))))))))))))),
  (13, 11, (.take 0 [10, 2, 1] (.take 1 [10, 2] (.take 2 [10] (.take 3 [10, 9, 8, 7, 4] (.take 4 [10, 9, 8, 7] (.take 5 [10, 9, 8, 7, 6] (.take 6 [10, 9, 8, 7] (.take 7 [10, 9, 8] (.take 8 [10, 9] (.take 9 [10] (.take 10 [] .done)))))))))))),
  (4, 10, (.take 0 [9, 8, 3, 2, 1] (.take 1 [9, 8, 3, 2] (.take 2 [9, 8, 3] (.take 4 [9, 7, 6, 5] (.take 5 [9, 7, 6] (.take 6 [9, 7] (.two 3 (.take 8 [9] (.only 7 (.take 9 [] .done))) 7 (.only 3 (.take 8 [9] (.take 9 [] .done))))))))))),
  (10, 11, (.take 0 [10, 4, 3, 2] (.take 1 [10, 4, 3, 2] (.take 2 [10, 4, 3] (.take 3 [10, 4] (.take 4 [10] (.take 5 [10, 9, 8, 7] (.take 6 [10, 9, 8, 7] (.take 7 [10, 9, 8] (.take 8 [10, 9] (.take 9 [10] (.take 10 [] .done)))))))))))),
  (8, 13, (.take 1 [12, 11, 7, 4, 3] (.take 2 [12, 11, 7, 4, 3] (.take 3 [12, 11, 7, 4] (.take 5 [12, 11, 7, 6] (.take 8 [12, 11, 10] (.take 9 [12, 11, 10] (.take 10 [12, 11] (.two 0 (.two 4 (.only 6 (.only 7 (.only 11 (.take 12 [] .done)))) 6 (.only 4 (.only 7 (.only 11 (.take 12 [] .done))))) 6 (.only 0 (.only 4 (.only 7 (.only 11 (.take 12 [] .done)))))))))))))),
  (13, 12, (.take 0 [11, 10, 2, 1] (.take 1 [11, 10, 2] (.take 2 [11, 10] (.take 3 [11, 10, 9, 8, 7, 4] (.take 4 [11, 10, 9, 8, 7] (.take 5 [11, 10, 9, 8, 7, 6] (.take 6 [11, 10, 9, 8, 7] (.take 7 [11, 10, 9, 8] (.take 8 [11, 10, 9] (.take 9 [11, 10] (.take 10 [11] (.take 11 [] .done))))))))))))),
  (15, 6, (.take 0 [5, 4, 1] (.take 2 [5, 4, 3] (.watch 1 [5, 4] (.only 3 (.only 4 (.take 5 [] .done))))))),
  (21, 10, (.take 0 [9, 8, 7, 6, 5, 4, 1] (.take 2 [9, 8, 7, 6, 5, 4, 3] (.watch 3 [9, 8, 7, 6, 5, 4] (.only 1 (.only 4 (.take 5 [9, 8, 7, 6] (.take 6 [9, 8, 7] (.take 7 [9, 8] (.take 8 [9] (.take 9 [] .done))))))))))),
  (24, 5, (.take 0 [4, 1] (.take 2 [4, 3] (.watch 1 [4] (.only 3 (.only 4 .done)))))),
  (14, 20, (.take 0 [19, 18] (.take 1 [19, 18, 17, 4, 2] (.take 3 [19, 18, 4] (.take 5 [19, 18, 17, 15, 14, 13, 6] (.take 7 [19, 18, 17, 15, 14, 13, 12, 11, 10, 8] (.take 9 [19, 18, 17, 15, 14, 13, 12, 11, 10] (.take 16 [19, 18, 17] (.watch 6 [19, 18, 17, 15, 14, 13] (.watch 8 [19, 18, 17, 15, 14, 13, 12, 11, 10] (.take 10 [19, 18, 17, 15, 14, 13, 12, 11] (.take 11 [19, 18, 17, 15, 14, 13, 12] (.watch 12 [19, 18, 17, 15, 14, 13] (.take 13 [19, 18, 17, 15, 14] (.take 14 [19, 18, 17, 15] (.watch 15 [19, 18, 17] (.only 2 (.take 4 [19, 18] (.only 17 (.take 18 [19] (.only 19 .done))))))))))))))))))))),
  (4, 9, (.take 0 [8, 3, 2] (.take 1 [8, 3, 2] (.take 2 [8, 3] (.take 3 [8] (.take 4 [8, 7, 6] (.take 5 [8, 7, 6] (.take 6 [8, 7] (.take 7 [8] (.take 8 [] .done)))))))))),
  (5, 10, (.take 0 [9, 8, 3, 2] (.take 1 [9, 8, 3, 2] (.take 2 [9, 8, 3] (.take 3 [9, 8] (.take 4 [9, 8, 7, 6] (.take 5 [9, 8, 7, 6] (.take 6 [9, 8, 7] (.take 7 [9, 8] (.take 8 [9] (.take 9 [] .done))))))))))),
  (3, 4, (.take 0 [3] (.take 1 [3, 2] (.only 2 (.only 3 .done))))),
  (2, 5, (.take 1 [4, 3, 2] (.watch 0 [4, 3] (.only 2 (.only 3 (.take 4 [] .done)))))),
  (6, 13, (.take 0 [12, 11, 10, 9, 8, 7, 6, 5, 4, 3, 2] (.take 1 [12, 11, 10, 9, 8, 7, 6, 5, 4, 3, 2] (.only 2 (.take 3 [12, 11, 10, 9, 8, 7, 6, 5, 4] (.take 4 [12, 11, 10, 9, 8, 7, 6, 5] (.take 6 [12, 11, 10, 9] (.take 7 [12, 11, 10, 9, 8] (.watch 5 [12, 11, 10] (.only 8 (.only 9 (.only 10 (.take 11 [12] (.take 12 [] .done)))))))))))))),
  (17, 15, (.take 0 [14, 13, 12, 11, 10, 9, 8, 7, 6, 5, 4, 3, 2, 1] (.take 1 [14, 13, 12, 11, 10, 9, 8, 7, 6, 5, 4, 3, 2] (.take 2 [14, 13, 12, 11, 10, 9, 8, 7, 6, 5, 4, 3] (.take 3 [14, 13, 12, 7, 6] (.take 4 [14, 13, 12, 7, 6, 5] (.take 5 [14, 13, 12, 7, 6] (.take 6 [14, 13, 12, 7] (.take 7 [14, 13, 12] (.take 8 [14, 13, 12, 11, 10] (.take 9 [14, 13, 12, 11, 10] (.take 10 [14, 13, 12, 11] (.take 11 [14, 13, 12] (.only 12 (.take 13 [14] (.take 14 [] .done)))))))))))))))),
  (11, 9, (.take 0 [8, 4] (.take 1 [8, 4, 3] (.take 2 [8, 4, 3] (.take 3 [8, 4] (.take 4 [8] (.take 5 [8, 7] (.take 6 [8, 7] (.take 7 [8] (.only 8 .done)))))))))),
  (15, 9, (.take 0 [8, 4] (.take 1 [8, 4, 3] (.take 2 [8, 4, 3] (.take 3 [8, 4] (.take 4 [8] (.take 5 [8, 7] (.take 6 [8, 7] (.take 7 [8] (.only 8 .done)))))))))),
  (4, 15, (.take 0 [14, 13, 12, 11, 10, 9, 8, 7, 6, 5, 4, 3, 2] (.take 1 [14, 13, 12, 11, 10, 9, 8, 7, 6, 5, 4, 3, 2] (.take 2 [14, 13, 12, 11, 10, 9, 8, 7, 6, 5, 4, 3] (.take 3 [14, 13, 12, 11, 10, 9, 8, 7, 6, 5, 4] (.take 4 [14, 13, 7, 6] (.take 5 [14, 13, 7, 6] (.take 6 [14, 13, 7] (.take 7 [14, 13] (.take 8 [14, 13, 12, 11] (.take 9 [14, 13, 12, 11, 10] (.take 10 [14, 13, 12, 11] (.take 11 [14, 13, 12] (.take 12 [14, 13] (.only 13 (.take 14 [] .done)))))))))))))))),
  (6, 18, (.take 0 [17, 16, 15, 14] (.take 1 [17, 16, 15, 14] (.take 2 [17, 16] (.take 3 [17, 16, 4] (.take 4 [17, 16] (.take 5 [17, 16, 15, 14, 9, 8] (.take 6 [17, 16, 15, 14, 9, 8, 7] (.take 7 [17, 16, 15, 14, 9, 8] (.take 8 [17, 16, 15, 14, 9] (.take 9 [17, 16, 15, 14] (.take 10 [17, 16, 15, 14, 13, 12] (.take 11 [17, 16, 15, 14, 13, 12] (.take 12 [17, 16, 15, 14, 13] (.take 13 [17, 16, 15, 14] (.take 14 [17, 16, 15] (.only 15 (.take 16 [17] (.only 17 .done))))))))))))))))))),
  (10, 20, (.take 0 [19, 18, 17, 16] (.take 1 [19, 18, 17, 16] (.take 2 [19, 18] (.take 3 [19, 18, 5] (.take 4 [19, 18, 5] (.take 5 [19, 18] (.take 6 [19, 18, 17, 16, 11, 10] (.take 7 [19, 18, 17, 16, 11, 10, 9] (.take 8 [19, 18, 17, 16, 11, 10, 9] (.take 9 [19, 18, 17, 16, 11, 10] (.take 10 [19, 18, 17, 16, 11] (.take 11 [19, 18, 17, 16] (.take 12 [19, 18, 17, 16, 15, 14] (.take 13 [19, 18, 17, 16, 15, 14] (.take 14 [19, 18, 17, 16, 15] (.take 15 [19, 18, 17, 16] (.take 16 [19, 18, 17] (.only 17 (.take 18 [19] (.only 19 .done))))))))))))))))))))),
  (3, 16, (.take 0 [15, 14, 13, 12] (.take 1 [15, 14, 13, 12] (.take 2 [15, 14] (.take 3 [15, 14] (.take 4 [15, 14, 13, 12, 7, 6] (.take 5 [15, 14, 13, 12, 7, 6] (.take 6 [15, 14, 13, 12, 7] (.take 7 [15, 14, 13, 12] (.take 8 [15, 14, 13, 12, 11, 10] (.take 9 [15, 14, 13, 12, 11, 10] (.take 10 [15, 14, 13, 12, 11] (.take 11 [15, 14, 13, 12] (.take 12 [15, 14, 13] (.only 13 (.take 14 [15] (.only 15 .done))))))))))))))))),
  (5, 16, (.take 0 [15, 14, 13, 12, 11, 10, 9, 8, 7, 6, 5, 4, 3, 2] (.take 1 [15, 14, 13, 12, 11, 10, 9, 8, 7, 6, 5, 4, 3, 2] (.take 2 [15, 14, 13, 12, 11, 10, 9, 8, 7, 6, 5, 4, 3] (.take 3 [15, 14, 13, 12, 11, 10, 9, 8, 7, 6, 5, 4] (.take 4 [15, 14, 13, 7, 6] (.take 5 [15, 14, 13, 7, 6] (.take 6 [15, 14, 13, 7] (.take 7 [15, 14, 13] (.take 8 [15, 14, 13, 12, 11] (.take 9 [15, 14, 13, 12, 11, 10] (.take 10 [15, 14, 13, 12, 11] (.take 11 [15, 14, 13, 12] (.take 12 [15, 14, 13] (.only 13 (.take 14 [15] (.take 15 [] .done))))))))))))))))),
  (11, 18, (.take 0 [17, 16, 15, 14] (.take 1 [17, 16, 15, 14] (.take 2 [17, 16] (.take 3 [17, 16, 4] (.take 4 [17, 16] (.take 5 [17, 16, 15, 14, 9, 8] (.take 6 [17, 16, 15, 14, 9, 8, 7] (.take 7 [17, 16, 15, 14, 9, 8] (.take 8 [17, 16, 15, 14, 9] (.take 9 [17, 16, 15, 14] (.take 10 [17, 16, 15, 14, 13, 12] (.take 11 [17, 16, 15, 14, 13, 12] (.take 12 [17, 16, 15, 14, 13] (.take 13 [17, 16, 15, 14] (.take 14 [17, 16, 15] (.only 15 (.take 16 [17] (.only 17 .done))))))))))))))))))),
  (16, 11, (.take 0 [10, 9, 3, 2] (.take 1 [10, 9, 3, 2] (.take 2 [10, 9, 3] (.take 3 [10, 9] (.take 4 [10, 9, 8, 7] (.take 5 [10, 9, 8, 7, 6] (.take 6 [10, 9, 8, 7] (.take 7 [10, 9, 8] (.take 8 [10, 9] (.only 9 (.take 10 [] .done)))))))))))),
  (17, 18, (.take 0 [17, 16, 15, 14] (.take 1 [17, 16, 15, 14] (.take 2 [17, 16] (.take 3 [17, 16, 4] (.take 4 [17, 16] (.take 5 [17, 16, 15, 14, 9, 8] (.take 6 [17, 16, 15, 14, 9, 8, 7] (.take 7 [17, 16, 15, 14, 9, 8] (.take 8 [17, 16, 15, 14, 9] (.take 9 [17, 16, 15, 14] (.take 10 [17, 16, 15, 14, 13, 12] (.take 11 [17, 16, 15, 14, 13, 12] (.take 12 [17, 16, 15, 14, 13] (.take 13 [17, 16, 15, 14] (.take 14 [17, 16, 15] (.only 15 (.take 16 [17] (.only 17 .done))))))))))))))))))),
  (22, 11, (.take 0 [10, 9, 3, 2] (.take 1 [10, 9, 3, 2] (.take 2 [10, 9, 3] (.take 3 [10, 9] (.take 4 [10, 9, 8, 7] (.take 5 [10, 9, 8, 7, 6] (.take 6 [10, 9, 8, 7] (.take 7 [10, 9, 8] (.take 8 [10, 9] (.only 9 (.take 10 [] .done)))))))))))),
  (23, 18, (.take 0 [17, 16, 15, 14] (.take 1 [17, 16, 15, 14] (.take 2 [17, 16] (.take 3 [17, 16, 4] (.take 4 [17, 16] (.take 5 [17, 16, 15, 14, 9, 8] (.take 6 [17, 16, 15, 14, 9, 8, 7] (.take 7 [17, 16, 15, 14, 9, 8] (.take 8 [17, 16, 15, 14, 9] (.take 9 [17, 16, 15, 14] (.take 10 [17, 16, 15, 14, 13, 12] (.take 11 [17, 16, 15, 14, 13, 12] (.take 12 [17, 16, 15, 14, 13] (.take 13 [17, 16, 15, 14] (.take 14 [17, 16, 15] (.only 15 (.take 16 [17] (.only 17 .done))))))))))))))))))),
  (1, 16, (.take 0 [15, 14, 13, 12] (.take 1 [15, 14, 13, 12] (.take 2 [15, 14] (.take 3 [15, 14] (.take 4 [15, 14, 13, 12, 7, 6] (.take 5 [15, 14, 13, 12, 7, 6] (.take 6 [15, 14, 13, 12, 7] (.take 7 [15, 14, 13, 12] (.take 8 [15, 14, 13, 12, 11, 10] (.take 9 [15, 14, 13, 12, 11, 10] (.take 10 [15, 14, 13, 12, 11] (.take 11 [15, 14, 13, 12] (.take 12 [15, 14, 13] (.only 13 (.take 14 [15] (.only 15 .done))))))))))))))))),
  (3, 15, (.take 0 [14, 13, 12, 11, 10, 9, 8, 7, 6, 5, 4, 3, 2] (.take 1 [14, 13, 12, 11, 10, 9, 8, 7, 6, 5, 4, 3, 2] (.take 2 [14, 13, 12, 11, 10, 9, 8, 7, 6, 5, 4, 3] (.take 3 [14, 13, 12, 11, 10, 9, 8, 7, 6, 5, 4] (.take 4 [14, 13, 12, 7, 6] (.take 5 [14, 13, 12, 7, 6] (.take 6 [14, 13, 12, 7] (.take 7 [14, 13, 12] (.take 8 [14, 13, 12, 11, 10] (.take 9 [14, 13, 12, 11, 10] (.take 10 [14, 13, 12, 11] (.take 11 [14, 13, 12] (.only 12 (.take 13 [14] (.take 14 [] .done)))))))))))))))),
  (5, 14, (.take 0 [13, 12, 11, 10, 9, 8, 7, 6, 5, 4, 3, 2] (.take 1 [13, 12, 11, 10, 9, 8, 7, 6, 5, 4, 3, 2] (.take 2 [13, 12, 11, 10, 9, 8, 7, 6, 5, 4, 3] (.take 3 [13, 12, 11, 10, 9, 8, 7, 6, 5, 4] (.take 4 [13, 12, 7, 6] (.take 5 [13, 12, 7, 6] (.take 6 [13, 12, 7] (.take 7 [13, 12] (.take 8 [13, 12, 11, 10] (.take 9 [13, 12, 11, 10] (.take 10 [13, 12, 11] (.take 11 [13, 12] (.only 12 (.take 13 [] .done))))))))))))))),
  (8, 16, (.take 0 [15, 14, 13, 12] (.take 1 [15, 14, 13, 12] (.take 2 [15, 14] (.take 3 [15, 14] (.take 4 [15, 14, 13, 12, 7, 6] (.take 5 [15, 14, 13, 12, 7, 6] (.take 6 [15, 14, 13, 12, 7] (.take 7 [15, 14, 13, 12] (.take 8 [15, 14, 13, 12, 11, 10] (.take 9 [15, 14, 13, 12, 11, 10] (.take 10 [15, 14, 13, 12, 11] (.take 11 [15, 14, 13, 12] (.take 12 [15, 14, 13] (.only 13 (.take 14 [15] (.only 15 .done))))))))))))))))),
  (3, 14, (.take 0 [13, 12, 11, 10, 9, 8, 7, 6, 5, 4, 3, 2] (.take 1 [13, 12, 11, 10, 9, 8, 7, 6, 5, 4, 3, 2] (.take 2 [13, 12, 11, 10, 9, 8, 7, 6, 5, 4, 3] (.take 3 [13, 12, 11, 10, 9, 8, 7, 6, 5, 4] (.take 4 [13, 12, 7, 6] (.take 5 [13, 12, 7, 6] (.take 6 [13, 12, 7] (.take 7 [13, 12] (.take 8 [13, 12, 11, 10] (.take 9 [13, 12, 11, 10] (.take 10 [13, 12, 11] (.take 11 [13, 12] (.only 12 (.take 13 [] .done))))))))))))))),
  (5, 15, (.take 0 [14, 13, 12, 11, 10, 9, 8, 7, 6, 5, 4, 3, 2] (.take 1 [14, 13, 12, 11, 10, 9, 8, 7, 6, 5, 4, 3, 2] (.take 2 [14, 13, 12, 11, 10, 9, 8, 7, 6, 5, 4, 3] (.take 3 [14, 13, 12, 11, 10, 9, 8, 7, 6, 5, 4] (.take 4 [14, 13, 12, 7, 6] (.take 5 [14, 13, 12, 7, 6] (.take 6 [14, 13, 12, 7] (.take 7 [14, 13, 12] (.take 8 [14, 13, 12, 11, 10] (.take 9 [14, 13, 12, 11, 10] (.take 10 [14, 13, 12, 11] (.take 11 [14, 13, 12] (.only 12 (.take 13 [14] (.take 14 [] .done)))))))))))))))),
  (10, 16, (.take 0 [15, 14, 13, 12] (.take 1 [15, 14, 13, 12] (.take 2 [15, 14] (.take 3 [15, 14] (.take 4 [15, 14, 13, 12, 7, 6] (.take 5 [15, 14, 13, 12, 7, 6] (.take 6 [15, 14, 13, 12, 7] (.take 7 [15, 14, 13, 12] (.take 8 [15, 14, 13, 12, 11, 10] (.take 9 [15, 14, 13, 12, 11, 10] (.take 10 [15, 14, 13, 12, 11] (.take 11 [15, 14, 13, 12] (.take 12 [15, 14, 13] (.only 13 (.take 14 [15] (.only 15 .done))))))))))))))))),
  (13, 14, (.take 0 [13, 12, 11, 10, 9, 8, 7, 6, 5, 4, 3, 2] (.take 1 [13, 12, 11, 10, 9, 8, 7, 6, 5, 4, 3, 2] (.take 2 [13, 12, 11, 10, 9, 8, 7, 6, 5, 4, 3] (.take 3 [13, 12, 11, 10, 9, 8, 7, 6, 5, 4] (.take 4 [13, 12, 7, 6] (.take 5 [13, 12, 7, 6] (.take 6 [13, 12, 7] (.take 7 [13, 12] (.take 8 [13, 12, 11, 10] (.take 9 [13, 12, 11, 10] (.take 10 [13, 12, 11] (.take 11 [13, 12] (.only 12 (.take 13 [] .done))))))))))))))),
  (15, 15, (.take 0 [14, 13, 12, 11, 10, 9, 8, 7, 6, 5, 4, 3, 2] (.take 1 [14, 13, 12, 11, 10, 9, 8, 7, 6, 5, 4, 3, 2] (.take 2 [14, 13, 12, 11, 10, 9, 8, 7, 6, 5, 4, 3] (.take 3 [14, 13, 12, 11, 10, 9, 8, 7, 6, 5, 4] (.take 4 [14, 13, 12, 7, 6] (.take 5 [14, 13, 12, 7, 6] (.take 6 [14, 13, 12, 7] (.take 7 [14, 13, 12] (.take 8 [14, 13, 12, 11, 10] (.take 9 [14, 13, 12, 11, 10] (.take 10 [14, 13, 12, 11] (.take 11 [14, 13, 12] (.only 12 (.take 13 [14] (.take 14 [] .done)))))))))))))))),
  (18, 16, (.take 0 [15, 14, 13, 12] (.take 1 [15, 14, 13, 12] (.take 2 [15, 14] (.take 3 [15, 14] (.take 4 [15, 14, 13, 12, 7, 6] (.take 5 [15, 14, 13, 12, 7, 6] (.take 6 [15, 14, 13, 12, 7] (.take 7 [15, 14, 13, 12] (.take 8 [15, 14, 13, 12, 11, 10] (.take 9 [15, 14, 13, 12, 11, 10] (.take 10 [15, 14, 13, 12, 11] (.take 11 [15, 14, 13, 12] (.take 12 [15, 14, 13] (.only 13 (.take 14 [15] (.only 15 .done))))))))))))))))),
  (21, 16, (.take 0 [15, 14, 13, 12] (.take 1 [15, 14, 13, 12] (.take 2 [15, 14] (.take 3 [15, 14] (.take 4 [15, 14, 13, 12, 7, 6] (.take 5 [15, 14, 13, 12, 7, 6] (.take 6 [15, 14, 13, 12, 7] (.take 7 [15, 14, 13, 12] (.take 8 [15, 14, 13, 12, 11, 10] (.take 9 [15, 14, 13, 12, 11, 10] (.take 10 [15, 14, 13, 12, 11] (.take 11 [15, 14, 13, 12] (.take 12 [15, 14, 13] (.only 13 (.take 14 [15] (.only 15 .done))))))))))))))))),
  (1, 13, (.take 0 [12, 11, 10, 9, 8, 7, 6, 5, 4, 3, 2, 1] (.take 1 [12, 11, 10, 9, 8, 7, 6, 5, 4, 3, 2] (.take 2 [12, 11, 10, 9, 8, 7, 6, 5, 4, 3] (.take 3 [12, 11, 10] (.take 4 [12, 11, 10, 9, 5] (.take 6 [12, 11, 10, 9, 8, 7] (.watch 7 [12, 11, 10, 9, 8] (.watch 8 [12, 11, 10, 9] (.only 5 (.take 9 [12, 11, 10] (.take 10 [12, 11] (.take 11 [12] (.take 12 [] .done)))))))))))))),
  (3, 20, (.take 0 [19, 18, 17, 16, 15, 14, 13, 12, 11, 10, 9, 8, 7, 6, 5, 4, 3, 1] (.take 1 [19, 18, 17, 16, 15, 14, 13, 12, 11, 10, 9, 8, 7, 6, 5, 4, 3] (.take 2 [19, 18, 17, 16, 15, 14, 13, 12, 11, 10, 9, 8, 7, 6, 5, 4, 3] (.take 3 [19, 18, 17, 16, 15, 14, 13, 12, 11, 10, 9, 8, 7, 6, 5, 4] (.take 4 [19, 18, 17, 16, 15, 14, 13, 12, 11, 10, 9, 8, 7, 6, 5] (.take 5 [19, 18, 10, 9] (.take 6 [19, 18, 10, 9, 8] (.take 7 [19, 18, 10, 9, 8] (.take 8 [19, 18, 10, 9] (.take 9 [19, 18, 10] (.take 10 [19, 18] (.take 11 [19, 18, 17, 16] (.take 12 [19, 18, 17, 16, 15, 14] (.take 13 [19, 18, 17, 16, 15, 14] (.take 14 [19, 18, 17, 16, 15] (.take 15 [19, 18, 17, 16] (.take 16 [19, 18, 17] (.take 17 [19, 18] (.only 18 (.take 19 [] .done))))))))))))))))))))),
  (5, 14, (.take 0 [13, 12, 5, 4] (.take 1 [13, 12, 5, 4, 3] (.take 2 [13, 12, 5, 4, 3] (.take 3 [13, 12, 5, 4] (.take 4 [13, 12, 5] (.take 5 [13, 12] (.take 6 [13, 12, 11, 10] (.take 7 [13, 12, 11, 10, 9] (.take 8 [13, 12, 11, 10, 9] (.take 9 [13, 12, 11, 10] (.take 10 [13, 12, 11] (.take 11 [13, 12] (.only 12 (.take 13 [] .done))))))))))))))),
  (6, 24, (.take 0 [23, 22, 21, 20] (.take 1 [23, 22, 21, 20, 3] (.take 2 [23, 22, 21, 20, 3] (.take 3 [23, 22, 21, 20] (.take 4 [23, 22] (.take 5 [23, 22, 7] (.take 6 [23, 22, 7] (.take 7 [23, 22] (.take 8 [23, 22, 21, 20, 13, 12] (.take 9 [23, 22, 21, 20, 13, 12, 11] (.take 10 [23, 22, 21, 20, 13, 12, 11] (.take 11 [23, 22, 21, 20, 13, 12] (.take 12 [23, 22, 21, 20, 13] (.take 13 [23, 22, 21, 20] (.take 14 [23, 22, 21, 20, 19, 18] (.take 15 [23, 22, 21, 20, 19, 18, 17] (.take 16 [23, 22, 21, 20, 19, 18, 17] (.take 17 [23, 22, 21, 20, 19, 18] (.take 18 [23, 22, 21, 20, 19] (.take 19 [23, 22, 21, 20] (.take 20 [23, 22, 21] (.only 21 (.take 22 [23] (.only 23 .done))))))))))))))))))))))))),
  (1, 10, (.take 0 [9, 8, 7, 2, 1] (.take 1 [9, 8, 7, 2] (.take 2 [9, 8, 7] (.take 3 [9, 8, 7, 6, 5, 4] (.take 4 [9, 8, 7, 6, 5] (.take 5 [9, 8, 7, 6] (.take 6 [9, 8, 7] (.take 7 [9, 8] (.take 8 [9] (.only 9 .done))))))))))),
  (2, 10, (.take 0 [9, 8, 7, 2, 1] (.take 1 [9, 8, 7, 2] (.take 2 [9, 8, 7] (.take 3 [9, 8, 7, 6, 5, 4] (.take 4 [9, 8, 7, 6, 5] (.take 5 [9, 8, 7, 6] (.take 6 [9, 8, 7] (.take 7 [9, 8] (.take 8 [9] (.only 9 .done))))))))))),
  (3, 10, (.take 0 [9, 8, 7, 2, 1] (.take 1 [9, 8, 7, 2] (.take 2 [9, 8, 7] (.take 3 [9, 8, 7, 6, 5, 4] (.take 4 [9, 8, 7, 6, 5] (.take 5 [9, 8, 7, 6] (.take 6 [9, 8, 7] (.take 7 [9, 8] (.take 8 [9] (.only 9 .done))))))))))),
  (1, 9, (.take 0 [8, 3, 2] (.take 1 [8, 3, 2] (.take 2 [8, 3] (.take 3 [8] (.take 4 [8, 7, 6] (.take 5 [8, 7, 6] (.take 6 [8, 7] (.take 7 [8] (.only 8 .done))))))))))]
end Go.Ab

set_option linter.unusedSimpArgs false
set_option linter.unusedVariables false
namespace Go.Ab.S1
open Go.Proofs

theorem mixed : Tryz.prog.follows .mixedOrders = true := by kernel_rfl
theorem info3 : ∃ i, Tryz.prog.info? 3 = some i ∧ i.size = 1 ∧ i.bytes = 8 ∧ i.zero = some (.int .i64 0) := ⟨(Tryz.prog.info? 3).get (by kernel_rfl), by kernel_rfl, by kernel_rfl, by kernel_rfl, by kernel_rfl⟩
theorem info4 : ∃ i, Tryz.prog.info? 4 = some i ∧ i.size = 1 ∧ i.bytes = 1 ∧ i.zero = some (.bool false) := ⟨(Tryz.prog.info? 4).get (by kernel_rfl), by kernel_rfl, by kernel_rfl, by kernel_rfl, by kernel_rfl⟩
theorem t22 : SlT Tryz.prog 25 3 8 (.int .i64 0) := ⟨Tryz.underlying25, info3, ⟨_, Tryz.underlying3, rfl⟩, rfl, rfl, rfl⟩
theorem t23 : SlT Tryz.prog 43 4 1 (.bool false) := ⟨Tryz.underlying43, info4, ⟨_, Tryz.underlying4, rfl⟩, rfl, rfl, rfl⟩
theorem sl22 : Sl1 Tryz.prog 25 3 := t22.sl1
theorem sl23 : Sl1 Tryz.prog 43 4 := t23.sl1

theorem eqBools {h : AH} {v1 v2 : Value} {xs ys : List Bool} (h1 : SlOf h v1 (xs.map .bool)) (h2 : SlOf h v2 (ys.map .bool)) (hbig : xs.length < 4611686018427387904) :
    ACall Tryz.prog 20 [v1, v2] h (fun v h' => v = .bool (decide (xs = ys)) ∧ h' = h) := by
  refine ACall.of_wp 26 [.tmp 4] Tryz.func20 rfl (by kernel_rfl) rfl rfl fun a hn hd ha => ?_
  have l1 := h1.len Tryz.underlying43
  have l2 := h2.len Tryz.underlying43
  have h0 := ha 0
  have h1' := ha 1
  simp only [List.getD_cons_zero, List.getD_cons_succ] at h0 h1'
  simp only [wpA_skip, wpA_ret, wpA_exit, wpA_seq, wpA_block, wpA_cond, wpA_region, wpA_draw, wpA_loop, thenQ_normal, thenQ_ret, thenQ_exit, blockQ_normal, blockQ_ret, blockQ_exit, condV_true, condV_false, opsM_nil, opsM_cons, seqM, okB, Keeps_nil, contK_app, List.zip_cons_cons, List.zip_nil_left, List.zip_nil_right, Op.operands, Call.operands, Array.toList_append, List.append_nil, List.nil_append, List.all_cons, List.all_nil, cOK, plain, put_n, put_tm, put_none, put_df, ev_tmp, ev_const, ev_func, wanted_none, wanted_some, callR_func, dop, ex_some1, aBuiltin, aBin, intBin, aUn, Option.map_some, Bool.and_true, Bool.true_and, Bool.and_self, true_and, and_true, List.map_cons, List.map_nil, List.toList_toArray, List.getElem?_toArray, List.getElem?_cons_zero, List.getElem?_cons_succ, Option.getD_some, Option.getD_none, if_true, if_false, Bool.false_eq_true, eq_self_iff_true, reduceIte, Nat.reduceLT, Nat.reduceEqDiff, decide_true, decide_false, List.cons_append, aExtract, bodyR_ret, bodyR_normal, resL, resV, List.getD_cons_zero, List.getD_cons_succ, List.getD_nil, Nat.succ_ne_self, reduceCtorEq, hn, hd, h0, h1', l1, l2, List.length_map]
  refine condV_of (fun hne => ?_) (fun heq => ?_)
  · have : xs ≠ ys := fun e => by subst e; simp at hne
    simp only [wpA_skip, wpA_ret, wpA_exit, wpA_seq, wpA_block, wpA_cond, wpA_region, wpA_draw, wpA_loop, thenQ_normal, thenQ_ret, thenQ_exit, blockQ_normal, blockQ_ret, blockQ_exit, condV_true, condV_false, opsM_nil, opsM_cons, seqM, okB, Keeps_nil, contK_app, List.zip_cons_cons, List.zip_nil_left, List.zip_nil_right, Op.operands, Call.operands, Array.toList_append, List.append_nil, List.nil_append, List.all_cons, List.all_nil, cOK, plain, put_n, put_tm, put_none, put_df, ev_tmp, ev_const, ev_func, wanted_none, wanted_some, callR_func, dop, ex_some1, aBuiltin, aBin, intBin, aUn, Option.map_some, Bool.and_true, Bool.true_and, Bool.and_self, true_and, and_true, List.map_cons, List.map_nil, List.toList_toArray, List.getElem?_toArray, List.getElem?_cons_zero, List.getElem?_cons_succ, Option.getD_some, Option.getD_none, if_true, if_false, Bool.false_eq_true, eq_self_iff_true, reduceIte, Nat.reduceLT, Nat.reduceEqDiff, decide_true, decide_false, List.cons_append, aExtract, bodyR_ret, bodyR_normal, resL, resV, List.getD_cons_zero, List.getD_cons_succ, List.getD_nil, Nat.succ_ne_self, reduceCtorEq, hn, hd, this]
  · have hl : xs.length = ys.length := by
      have : (xs.length : Int) = ys.length := by simpa using heq
      omega
    simp only [wpA_skip, wpA_ret, wpA_exit, wpA_seq, wpA_block, wpA_cond, wpA_region, wpA_draw, wpA_loop, thenQ_normal, thenQ_ret, thenQ_exit, blockQ_normal, blockQ_ret, blockQ_exit, condV_true, condV_false, opsM_nil, opsM_cons, seqM, okB, Keeps_nil, contK_app, List.zip_cons_cons, List.zip_nil_left, List.zip_nil_right, Op.operands, Call.operands, Array.toList_append, List.append_nil, List.nil_append, List.all_cons, List.all_nil, cOK, plain, put_n, put_tm, put_none, put_df, ev_tmp, ev_const, ev_func, wanted_none, wanted_some, callR_func, dop, ex_some1, aBuiltin, aBin, intBin, aUn, Option.map_some, Bool.and_true, Bool.true_and, Bool.and_self, true_and, and_true, List.map_cons, List.map_nil, List.toList_toArray, List.getElem?_toArray, List.getElem?_cons_zero, List.getElem?_cons_succ, Option.getD_some, Option.getD_none, if_true, if_false, Bool.false_eq_true, eq_self_iff_true, reduceIte, Nat.reduceLT, Nat.reduceEqDiff, decide_true, decide_false, List.cons_append, aExtract, bodyR_ret, bodyR_normal, resL, resV, List.getD_cons_zero, List.getD_cons_succ, List.getD_nil, Nat.succ_ne_self, reduceCtorEq, hn, hd]
    refine AW.loop (fun m a' h' => h' = h ∧ a'.n = 26 ∧ a'.df = [] ∧ a'.tm 0 = v1 ∧ a'.tm 1 = v2 ∧ ∃ i : Nat, a'.tm 5 = .int .i64 i ∧ i + m = xs.length ∧ ∀ j : Nat, j < i → xs[j]? = ys[j]?) xs.length ?_ ?_
    · refine ⟨rfl, by simp only [put_n, hn], by simp only [put_df, hd], by simp [put_tm, h0], by simp [put_tm, h1'], 0, by simp [put_tm], by omega, fun j hj => by omega⟩
    · rintro m a' h' ⟨rfl, hn, hd, h0, h1', i, h5, him, hall⟩
      refine wpA_sound _ _ _ _ ?_
      simp only [wpA_skip, wpA_ret, wpA_exit, wpA_seq, wpA_block, wpA_cond, wpA_region, wpA_draw, wpA_loop, thenQ_normal, thenQ_ret, thenQ_exit, blockQ_normal, blockQ_ret, blockQ_exit, condV_true, condV_false, opsM_nil, opsM_cons, seqM, okB, Keeps_nil, contK_app, List.zip_cons_cons, List.zip_nil_left, List.zip_nil_right, Op.operands, Call.operands, Array.toList_append, List.append_nil, List.nil_append, List.all_cons, List.all_nil, cOK, plain, put_n, put_tm, put_none, put_df, ev_tmp, ev_const, ev_func, wanted_none, wanted_some, callR_func, dop, ex_some1, aBuiltin, aBin, intBin, aUn, Option.map_some, Bool.and_true, Bool.true_and, Bool.and_self, true_and, and_true, List.map_cons, List.map_nil, List.toList_toArray, List.getElem?_toArray, List.getElem?_cons_zero, List.getElem?_cons_succ, Option.getD_some, Option.getD_none, if_true, if_false, Bool.false_eq_true, eq_self_iff_true, reduceIte, Nat.reduceLT, Nat.reduceEqDiff, decide_true, decide_false, List.cons_append, aExtract, bodyR_ret, bodyR_normal, resL, resV, List.getD_cons_zero, List.getD_cons_succ, List.getD_nil, Nat.succ_ne_self, reduceCtorEq, hn, hd, h0, h1', h5, l1, l2, List.length_map]
      refine condV_of (fun hlt => ?_) (fun hge => ?_)
      · have hi : i < xs.length := by simpa using hlt
        obtain ⟨q1, e1, e2⟩ := h1.at sl23 (k := .i64) (i := i) (x := .bool xs[i]) (by simp [hi])
        obtain ⟨q2, e3, e4⟩ := h2.at sl23 (k := .i64) (i := i) (x := .bool (ys[i]'(hl ▸ hi))) (by simp [hl ▸ hi])
        refine AW.drawT (.take 0 [8, 3, 2] (.take 1 [8, 3, 2] (.take 2 [8, 3] (.take 3 [8] (.take 4 [8, 7, 6] (.take 5 [8, 7, 6] (.take 6 [8, 7] (.take 7 [8] (.take 8 [] .done))))))))) [0, 0, 0, 0, 0, 0, 0, 0, 0] mixed (by kernel_rfl) (by kernel_rfl) ?_
        simp only [wpA_skip, wpA_ret, wpA_exit, wpA_seq, wpA_block, wpA_cond, wpA_region, wpA_draw, wpA_loop, thenQ_normal, thenQ_ret, thenQ_exit, blockQ_normal, blockQ_ret, blockQ_exit, condV_true, condV_false, opsM_nil, opsM_cons, seqM, okB, Keeps_nil, contK_app, List.zip_cons_cons, List.zip_nil_left, List.zip_nil_right, Op.operands, Call.operands, Array.toList_append, List.append_nil, List.nil_append, List.all_cons, List.all_nil, cOK, plain, put_n, put_tm, put_none, put_df, ev_tmp, ev_const, ev_func, wanted_none, wanted_some, callR_func, dop, ex_some1, aBuiltin, aBin, intBin, aUn, Option.map_some, Bool.and_true, Bool.true_and, Bool.and_self, true_and, and_true, List.map_cons, List.map_nil, List.toList_toArray, List.getElem?_toArray, List.getElem?_cons_zero, List.getElem?_cons_succ, Option.getD_some, Option.getD_none, if_true, if_false, Bool.false_eq_true, eq_self_iff_true, reduceIte, Nat.reduceLT, Nat.reduceEqDiff, decide_true, decide_false, List.cons_append, aExtract, bodyR_ret, bodyR_normal, resL, resV, List.getD_cons_zero, List.getD_cons_succ, List.getD_nil, Nat.succ_ne_self, reduceCtorEq, hn, hd, h0, h1', h5, e1, e2, e3, e4, eqBin_bool_neq Tryz.underlying4]
        refine condV_of (fun hne => ?_) (fun heq => ?_)
        · have : xs ≠ ys := fun e => by subst e; simp at hne
          simp only [wpA_skip, wpA_ret, wpA_exit, wpA_seq, wpA_block, wpA_cond, wpA_region, wpA_draw, wpA_loop, thenQ_normal, thenQ_ret, thenQ_exit, blockQ_normal, blockQ_ret, blockQ_exit, condV_true, condV_false, opsM_nil, opsM_cons, seqM, okB, Keeps_nil, contK_app, List.zip_cons_cons, List.zip_nil_left, List.zip_nil_right, Op.operands, Call.operands, Array.toList_append, List.append_nil, List.nil_append, List.all_cons, List.all_nil, cOK, plain, put_n, put_tm, put_none, put_df, ev_tmp, ev_const, ev_func, wanted_none, wanted_some, callR_func, dop, ex_some1, aBuiltin, aBin, intBin, aUn, Option.map_some, Bool.and_true, Bool.true_and, Bool.and_self, true_and, and_true, List.map_cons, List.map_nil, List.toList_toArray, List.getElem?_toArray, List.getElem?_cons_zero, List.getElem?_cons_succ, Option.getD_some, Option.getD_none, if_true, if_false, Bool.false_eq_true, eq_self_iff_true, reduceIte, Nat.reduceLT, Nat.reduceEqDiff, decide_true, decide_false, List.cons_append, aExtract, bodyR_ret, bodyR_normal, resL, resV, List.getD_cons_zero, List.getD_cons_succ, List.getD_nil, Nat.succ_ne_self, reduceCtorEq, hn, hd, this]
        · have hw : IntKind.i64.wrap ((i : Int) + 1) = ((i + 1 : Nat) : Int) := by rw [Go.IntWalk.i64_in _ (by omega)]; omega
          simp only [wpA_skip, wpA_ret, wpA_exit, wpA_seq, wpA_block, wpA_cond, wpA_region, wpA_draw, wpA_loop, thenQ_normal, thenQ_ret, thenQ_exit, blockQ_normal, blockQ_ret, blockQ_exit, condV_true, condV_false, opsM_nil, opsM_cons, seqM, okB, Keeps_nil, contK_app, List.zip_cons_cons, List.zip_nil_left, List.zip_nil_right, Op.operands, Call.operands, Array.toList_append, List.append_nil, List.nil_append, List.all_cons, List.all_nil, cOK, plain, put_n, put_tm, put_none, put_df, ev_tmp, ev_const, ev_func, wanted_none, wanted_some, callR_func, dop, ex_some1, aBuiltin, aBin, intBin, aUn, Option.map_some, Bool.and_true, Bool.true_and, Bool.and_self, true_and, and_true, List.map_cons, List.map_nil, List.toList_toArray, List.getElem?_toArray, List.getElem?_cons_zero, List.getElem?_cons_succ, Option.getD_some, Option.getD_none, if_true, if_false, Bool.false_eq_true, eq_self_iff_true, reduceIte, Nat.reduceLT, Nat.reduceEqDiff, decide_true, decide_false, List.cons_append, aExtract, bodyR_ret, bodyR_normal, resL, resV, List.getD_cons_zero, List.getD_cons_succ, List.getD_nil, Nat.succ_ne_self, reduceCtorEq, hn, hd, h0, h1', h5, hw]
          refine ⟨m - 1, by omega, i + 1, rfl, by omega, fun j hj => ?_⟩
          by_cases e : j = i
          · subst e
            have : xs[j] = ys[j]'(hl ▸ hi) := by simpa using heq
            rw [List.getElem?_eq_getElem hi, List.getElem?_eq_getElem (hl ▸ hi), this]
          · exact hall j (by omega)
      · have hge : xs.length ≤ i := by simpa using hge
        have he : xs = ys := by
          apply List.ext_getElem?
          intro j
          by_cases hj : j < i
          · exact hall j hj
          · rw [List.getElem?_eq_none (by omega), List.getElem?_eq_none (by omega)]
        simp only [wpA_skip, wpA_ret, wpA_exit, wpA_seq, wpA_block, wpA_cond, wpA_region, wpA_draw, wpA_loop, thenQ_normal, thenQ_ret, thenQ_exit, blockQ_normal, blockQ_ret, blockQ_exit, condV_true, condV_false, opsM_nil, opsM_cons, seqM, okB, Keeps_nil, contK_app, List.zip_cons_cons, List.zip_nil_left, List.zip_nil_right, Op.operands, Call.operands, Array.toList_append, List.append_nil, List.nil_append, List.all_cons, List.all_nil, cOK, plain, put_n, put_tm, put_none, put_df, ev_tmp, ev_const, ev_func, wanted_none, wanted_some, callR_func, dop, ex_some1, aBuiltin, aBin, intBin, aUn, Option.map_some, Bool.and_true, Bool.true_and, Bool.and_self, true_and, and_true, List.map_cons, List.map_nil, List.toList_toArray, List.getElem?_toArray, List.getElem?_cons_zero, List.getElem?_cons_succ, Option.getD_some, Option.getD_none, if_true, if_false, Bool.false_eq_true, eq_self_iff_true, reduceIte, Nat.reduceLT, Nat.reduceEqDiff, decide_true, decide_false, List.cons_append, aExtract, bodyR_ret, bodyR_normal, resL, resV, List.getD_cons_zero, List.getD_cons_succ, List.getD_nil, Nat.succ_ne_self, reduceCtorEq, hn, hd, he]
end Go.Ab.S1

namespace Go.Proofs
open Go.Shelf
def Tryz.sortA_ren : Go.Shelf.Ren := ⟨fun | 5 => 66 | 8 => 91 | 7 => 90 | 19 => 115 | 20 => 116 | 10 => 106 | 11 => 107 | 12 => 108 | 13 => 109 | 14 => 110 | 15 => 111 | 16 => 112 | 17 => 113 | 18 => 114 | 30 => 125 | 31 => 126 | 32 => 127 | 33 => 128 | 34 => 129 | 35 => 130 | 40 => 132 | n => n, fun | 23 => 25 | 25 => 3 | 3 => 3 | 32 => 99 | 22 => 25 | 0 => 0 | 44 => 148 | 46 => 37 | 4 => 4 | 36 => 141 | 35 => 140 | 41 => 129 | 5 => 5 | 9 => 9 | 53 => 156 | 57 => 160 | 63 => 162 | 64 => 163 | n => n, fun | n => n⟩
theorem Tryz.sortA : Go.Proofs.SlLaysM.n5 Tryz.prog Tryz.sortA_ren := {
  mixed := by kernel_rfl
  f5 := ⟨Tryz.f66.name, by decide, Tryz.func66.trans (congrArg some (by kernel_rfl))⟩
  f7 := ⟨Tryz.f90.name, by decide, Tryz.func90.trans (congrArg some (by kernel_rfl))⟩
  f8 := Tryz.func91.trans (congrArg some (by kernel_rfl))
  f10 := ⟨Tryz.f106.name, by decide, Tryz.func106.trans (congrArg some (by kernel_rfl))⟩
  f11 := ⟨Tryz.f107.name, by decide, Tryz.func107.trans (congrArg some (by kernel_rfl))⟩
  f12 := ⟨Tryz.f108.name, by decide, Tryz.func108.trans (congrArg some (by kernel_rfl))⟩
  f13 := ⟨Tryz.f109.name, by decide, Tryz.func109.trans (congrArg some (by kernel_rfl))⟩
  f14 := ⟨Tryz.f110.name, by decide, Tryz.func110.trans (congrArg some (by kernel_rfl))⟩
  f15 := ⟨Tryz.f111.name, by decide, Tryz.func111.trans (congrArg some (by kernel_rfl))⟩
  f16 := ⟨Tryz.f112.name, by decide, Tryz.func112.trans (congrArg some (by kernel_rfl))⟩
  f17 := ⟨Tryz.f113.name, by decide, Tryz.func113.trans (congrArg some (by kernel_rfl))⟩
  f18 := ⟨Tryz.f114.name, by decide, Tryz.func114.trans (congrArg some (by kernel_rfl))⟩
  f19 := Tryz.func115.trans (congrArg some (by kernel_rfl))
  f20 := Tryz.func116.trans (congrArg some (by kernel_rfl))
  f30 := ⟨Tryz.f125.name, by decide, Tryz.func125.trans (congrArg some (by kernel_rfl))⟩
  f31 := Tryz.func126.trans (congrArg some (by kernel_rfl))
  f32 := Tryz.func127.trans (congrArg some (by kernel_rfl))
  f33 := ⟨Tryz.f128.name, by decide, Tryz.func128.trans (congrArg some (by kernel_rfl))⟩
  f34 := ⟨Tryz.f129.name, by decide, Tryz.func129.trans (congrArg some (by kernel_rfl))⟩
  f35 := ⟨Tryz.f130.name, by decide, Tryz.func130.trans (congrArg some (by kernel_rfl))⟩
  f40 := ⟨Tryz.f132.name, by decide, Tryz.func132.trans (congrArg some (by kernel_rfl))⟩
  t0 := Tryz.underlying0
  a0 := Tryz.isAgg0
  z0 := Tryz.sizeOf0
  v0 := Tryz.zeroValue0
  t3 := Tryz.underlying3
  a3 := Tryz.isAgg3
  z3 := Tryz.sizeOf3
  v3 := Tryz.zeroValue3
  t4 := Tryz.underlying4
  a4 := Tryz.isAgg4
  z4 := Tryz.sizeOf4
  v4 := Tryz.zeroValue4
  t5 := Tryz.underlying5
  a5 := Tryz.isAgg5
  z5 := Tryz.sizeOf5
  v5 := Tryz.zeroValue5
  t9 := Tryz.underlying9
  a9 := Tryz.isAgg9
  z9 := Tryz.sizeOf9
  v9 := Tryz.zeroValue9
  t22 := Tryz.underlying25
  a22 := Tryz.isAgg25
  z22 := Tryz.sizeOf25
  v22 := Tryz.zeroValue25
  t23 := Tryz.underlying25
  a23 := Tryz.isAgg25
  z23 := Tryz.sizeOf25
  v23 := Tryz.zeroValue25
  t25 := Tryz.underlying3
  a25 := Tryz.isAgg3
  z25 := Tryz.sizeOf3
  v25 := Tryz.zeroValue3
  t32 := Tryz.underlying99
  a32 := Tryz.isAgg99
  z32 := Tryz.sizeOf99
  v32 := Tryz.zeroValue99
  t35 := Tryz.underlying140
  a35 := Tryz.isAgg140
  z35 := Tryz.sizeOf140
  v35 := Tryz.zeroValue140
  t36 := Tryz.underlying141
  a36 := Tryz.isAgg141
  z36 := Tryz.sizeOf141
  v36 := Tryz.zeroValue141
  t41 := Tryz.underlying129
  a41 := Tryz.isAgg129
  z41 := Tryz.sizeOf129
  v41 := Tryz.zeroValue129
  t44 := Tryz.underlying148
  a44 := Tryz.isAgg148
  z44 := Tryz.sizeOf148
  v44 := Tryz.zeroValue148
  t46 := Tryz.underlying37
  a46 := Tryz.isAgg37
  z46 := Tryz.sizeOf37
  v46 := Tryz.zeroValue37
  t53 := Tryz.underlying156
  a53 := Tryz.isAgg156
  z53 := Tryz.sizeOf156
  v53 := Tryz.zeroValue156
  t57 := Tryz.underlying160
  a57 := Tryz.isAgg160
  z57 := Tryz.sizeOf160
  v57 := Tryz.zeroValue160
  t63 := Tryz.underlying162
  a63 := Tryz.isAgg162
  z63 := Tryz.sizeOf162
  v63 := Tryz.zeroValue162
  t64 := Tryz.underlying163
  a64 := Tryz.isAgg163
  z64 := Tryz.sizeOf163
  v64 := Tryz.zeroValue163 }
end Go.Proofs

namespace Go.Ab
open Go.Sort

theorem HR.grown {ρ : Ren} {h : AH} {w : World} (hr : HR ρ h w) (os : Array Obj) : HR ρ h (grow w os) ∧ Frm ρ h w ρ h (grow w os) := by
  have hb : ∀ b, b < w.heap.size → (grow w os).heap[b]? = w.heap[b]? := fun b hb => by simp [grow, Array.getElem?_append, hb]
  refine ⟨⟨fun A o ha => let ⟨r, q, hor⟩ := hr.obj A o ha; ⟨r, q, hor.move (Ren.le_refl _) (hb _ hor.lt)⟩, hr.inj, hr.dom⟩, Ren.le_refl _, by simp [grow], fun b hlt _ => hb b hlt, fun b hb => .inl hb, ⟨rfl, rfl, rfl⟩⟩

/-- A sort of integers, as the library's: of a row that may be written, and of none. -/
structure SortsInts (P : Program) (g : FuncId) : Prop where
  enters : Enters P g
  some : ∀ (blk off cap : Nat) (zs : List Int) (w : World), Holds (Value.int .i64) w blk off zs.toArray → blk < w.heap.size → zs.length < 4611686018427387904 →
    Calls P g #[.slice (some ⟨blk, off, none⟩) zs.length cap] w fun e w' =>
      e = .returned (.tuple #[]) ∧ ∃ n os, w' = grow (putRow (Value.int .i64) (Sort.ahead w n) blk off (zs.mergeSort fun x y => decide (x ≤ y)).toArray) os
  none : ∀ (p : Option Addr) (cap : Nat) (w : World), Calls P g #[.slice p 0 cap] w fun e w' => e = .returned (.tuple #[]) ∧ w' = w

theorem sortInts {P : Program} {g : FuncId} (hs : SortsInts P g) {h : AH} {A cap : Nat} {e : TypeId} {zs : List Int} (hg : h.get A = some (.grow (zs.map (Value.int .i64)) e)) (hz : zs ≠ []) (hbig : zs.length < 4611686018427387904) :
    ACall P g [.slice (some ⟨A, 0, none⟩) zs.length cap] h (fun v h' => v = .tuple #[] ∧ h' = h.set A (.grow ((zs.mergeSort fun x y => decide (x ≤ y)).map (Value.int .i64)) e)) := by
  refine ⟨hs.enters, fun ρ cargs w hl hr => ?_⟩
  obtain ⟨r, hq, cc, fr, hrow, hlim, hallr⟩ := hr.obj A _ hg
  have hcarg : ∃ c, cargs = #[.slice (some ⟨r.blk, r.base, none⟩) zs.length c] := by
    obtain ⟨l⟩ := cargs
    match l, hl with
    | [x], hl =>
      have hx := hl.2 0 _ x rfl rfl
      have hlen : zs.length ≠ 0 := by simpa using hz
      generalize zs.length = m at hx hlen ⊢
      generalize hv : Value.slice (some ⟨A, 0, none⟩) m cap = v at hx
      cases hx <;> cases hv
      · rename_i r' hq' hc; rw [hq] at hq'; cases hq'; exact ⟨_, rfl⟩
      · rename_i s' r' hq' h1' h2' h3'; rw [hq] at hq'; cases hq'; exact ⟨_, rfl⟩
      · exact absurd rfl hlen
      · exact absurd rfl hlen
    | [], hl => have := hl.1; simp at this
    | _ :: _ :: _, hl => have := hl.1; simp at this
  obtain ⟨c, rfl⟩ := hcarg
  have hcell : ∀ j, j < zs.length → cc[r.base + j]? = some (.int .i64 (zs[j]!)) := by
    intro j hj
    obtain ⟨v', h1, h2⟩ := hrow.cell j (.int .i64 zs[j]) (by simp [hj])
    cases h2
    rw [h1]; simp [hj]
  have hfit : r.base + zs.length ≤ cc.size := by simpa using hrow.fits
  have hlt : r.blk < w.heap.size := (Array.getElem?_eq_some_iff.1 hrow.heap).1
  have hH : Holds (Value.int .i64) w r.blk r.base zs.toArray := by
    intro j hj
    have hj' : j < zs.length := by simpa using hj
    refine ⟨?_, ?_⟩
    · simp only [World.cell?, hrow.heap, Option.isSome_none, Bool.false_eq_true, if_false, hcell j hj']
      simp [hj']
    · have := hrow.free rfl (r.base + j) (by omega)
      obtain ⟨lo, hi⟩ := fr
      simp only [World.frozen?, hrow.heap]
      simp only [Bool.and_eq_false_iff, decide_eq_false_iff_not]
      by_cases hlo : lo ≤ r.base + j
      · right; intro hh; exact this ⟨hlo, hh⟩
      · left; exact hlo
  refine (hs.some r.blk r.base c zs w hH hlt hbig).mono ?_
  rintro e' w' ⟨rfl, n, os, rfl⟩
  generalize hd : (zs.mergeSort fun x y => decide (x ≤ y)) = d
  have hdl : d.length = zs.length := by rw [← hd]; exact List.length_mergeSort _
  have hr1 : HR ρ h (Sort.ahead w n) := HR.same (w := w) rfl hr
  have hf1 : Frm ρ h w ρ h (Sort.ahead w n) := Frm.same rfl
  have hheap : (putRow (Value.int .i64) (Sort.ahead w n) r.blk r.base d.toArray).heap[r.blk]? = some (.cells (putCells (Value.int .i64) r.base d.toArray cc) e fr) := by
    show (w.heap.modify r.blk (onCells _))[r.blk]? = _
    rw [Array.getElem?_modify, if_pos rfl, hrow.heap]; rfl
  obtain ⟨hr2, hf2⟩ := hr1.store (o' := .grow (d.map (Value.int .i64)) e) (w' := putRow (Value.int .i64) (Sort.ahead w n) r.blk r.base d.toArray) hg rfl hq
    (by show (w.heap.modify _ _).size = w.heap.size; simp) (fun b hb => by show (w.heap.modify _ _)[b]? = w.heap[b]?; rw [Array.getElem?_modify, if_neg (Ne.symm hb)])
    ⟨_, fr, ⟨hheap, by simp [putCells, hdl]; exact hfit, fun i v hi => by
      rw [List.getElem?_map] at hi
      simp only [Option.map_eq_some_iff] at hi
      obtain ⟨z, hz', rfl⟩ := hi
      have hi' : i < d.length := (List.getElem?_eq_some_iff.1 hz').1
      refine ⟨.int .i64 z, ?_, .int _ _⟩
      simp only [putCells, Array.getElem?_mapIdx]
      rw [hcell i (by omega)]
      simp only [Option.map_some]
      rw [if_pos ⟨by omega, by simp; omega⟩]
      have : r.base + i - r.base = i := by omega
      rw [this]
      have : d.toArray[i]! = z := by
        rw [getElem!_pos _ i (by simpa using hi')]
        simpa using (List.getElem?_eq_some_iff.1 hz').2
      rw [this], fun hw i hi => hrow.free rfl i (by simpa [putCells] using hi), fun v hm => by
        obtain ⟨z, _, rfl⟩ := List.mem_map.1 hm; rfl⟩, by simp [putCells, hlim], fun i v' hi => by
      simp only [putCells, Array.getElem?_mapIdx, Option.map_eq_some_iff] at hi
      obtain ⟨u, hu, rfl⟩ := hi
      split
      · exact ⟨rfl, _, .int _ _⟩
      · exact hallr i u hu⟩
  obtain ⟨hr3, hf3⟩ := hr2.grown os
  exact ⟨ρ, _, _, _, rfl, ⟨rfl, rfl⟩, VR.undef ρ, hr3, (hf1.trans hf2).trans hf3⟩

theorem sortNone {P : Program} {g : FuncId} (hs : SortsInts P g) {h : AH} {p : Option Addr} {cap : Nat} :
    ACall P g [.slice p 0 cap] h (fun v h' => v = .tuple #[] ∧ h' = h) := by
  refine ⟨hs.enters, fun ρ cargs w hl hr => ?_⟩
  have hcarg : ∃ p' c, cargs = #[.slice p' 0 c] := by
    obtain ⟨l⟩ := cargs
    match l, hl with
    | [x], hl =>
      have hx := hl.2 0 _ x rfl rfl
      generalize hv : Value.slice p 0 cap = v at hx
      cases hx <;> cases hv <;> exact ⟨_, _, rfl⟩
    | [], hl => have := hl.1; simp at this
    | _ :: _ :: _, hl => have := hl.1; simp at this
  obtain ⟨p', c, rfl⟩ := hcarg
  refine (hs.none p' c w).mono ?_
  rintro e w' ⟨rfl, rfl⟩
  exact ⟨ρ, _, _, h, rfl, ⟨rfl, rfl⟩, VR.undef ρ, hr, Frm.refl _ _ _⟩

end Go.Ab

set_option linter.unusedSimpArgs false
set_option linter.unusedVariables false
namespace Go.Ab.S1
open Go.Proofs

set_option maxRecDepth 100000 in
theorem cloneInts {h : AH} {v : Value} {zs : List Int} (hv : SlOf h v (zs.map (.int .i64))) (hb : zs.length ≤ 17592186043904) :
    ACall Tryz.prog 36 [v] h (fun r h' => Sub h h' ∧ ((zs = [] ∧ ∃ p c, r = .slice p 0 c ∧ ∀ q, p = some q → q.spot = none) ∨
      (zs ≠ [] ∧ ∃ A, h.next ≤ A ∧ r = .slice (some ⟨A, 0, none⟩) zs.length (SL + 1) ∧ h'.get A = some (.grow (zs.map (.int .i64)) 3)))) := by
  refine ACall.wf ⟨_, Tryz.func36, rfl, by kernel_rfl⟩ fun hwf => ?_
  refine ACall.of_wp 8 [.tmp 2] Tryz.func36 rfl (by kernel_rfl) rfl rfl fun a hn hd ha => ?_
  have h0 := ha 0
  simp only [List.getD_cons_zero, List.getD_cons_succ] at h0
  have hsrc := hv.src
  obtain ⟨p, l, c, rfl, hl, hsp, _⟩ := id hv
  simp only [wpA_skip, wpA_ret, wpA_exit, wpA_seq, wpA_block, wpA_cond, wpA_region, wpA_draw, wpA_loop, thenQ_normal, thenQ_ret, thenQ_exit, blockQ_normal, blockQ_ret, blockQ_exit, condV_true, condV_false, opsM_nil, opsM_cons, seqM, okB, Keeps_nil, contK_app, List.zip_cons_cons, List.zip_nil_left, List.zip_nil_right, Op.operands, Call.operands, Array.toList_append, List.append_nil, List.nil_append, List.all_cons, List.all_nil, cOK, plain, put_n, put_tm, put_none, put_df, ev_tmp, ev_const, ev_func, wanted_none, wanted_some, callR_func, dop, ex_some1, aBuiltin, aBin, intBin, aUn, Option.map_some, Bool.and_true, Bool.true_and, Bool.and_self, true_and, and_true, List.map_cons, List.map_nil, List.toList_toArray, List.getElem?_toArray, List.getElem?_cons_zero, List.getElem?_cons_succ, Option.getD_some, Option.getD_none, if_true, if_false, Bool.false_eq_true, eq_self_iff_true, reduceIte, Nat.reduceLT, Nat.reduceEqDiff, decide_true, decide_false, List.cons_append, aExtract, bodyR_ret, bodyR_normal, resL, resV, List.getD_cons_zero, List.getD_cons_succ, List.getD_nil, Nat.succ_ne_self, reduceCtorEq, hn, hd, h0, eqBin_nil Tryz.underlying25]
  cases p with
  | none =>
    have hz : zs = [] := by
      rcases hv with ⟨p', l', c', e, hl', _, hcs⟩
      cases e
      rcases hcs with e | ⟨A, off, o, cs, e, _⟩
      · simpa using e
      · cases e
    subst hz
    simp only [wpA_skip, wpA_ret, wpA_exit, wpA_seq, wpA_block, wpA_cond, wpA_region, wpA_draw, wpA_loop, thenQ_normal, thenQ_ret, thenQ_exit, blockQ_normal, blockQ_ret, blockQ_exit, condV_true, condV_false, opsM_nil, opsM_cons, seqM, okB, Keeps_nil, contK_app, List.zip_cons_cons, List.zip_nil_left, List.zip_nil_right, Op.operands, Call.operands, Array.toList_append, List.append_nil, List.nil_append, List.all_cons, List.all_nil, cOK, plain, put_n, put_tm, put_none, put_df, ev_tmp, ev_const, ev_func, wanted_none, wanted_some, callR_func, dop, ex_some1, aBuiltin, aBin, intBin, aUn, Option.map_some, Bool.and_true, Bool.true_and, Bool.and_self, true_and, and_true, List.map_cons, List.map_nil, List.toList_toArray, List.getElem?_toArray, List.getElem?_cons_zero, List.getElem?_cons_succ, Option.getD_some, Option.getD_none, if_true, if_false, Bool.false_eq_true, eq_self_iff_true, reduceIte, Nat.reduceLT, Nat.reduceEqDiff, decide_true, decide_false, List.cons_append, aExtract, bodyR_ret, bodyR_normal, resL, resV, List.getD_cons_zero, List.getD_cons_succ, List.getD_nil, Nat.succ_ne_self, reduceCtorEq, Option.isNone_none, hn, hd]
    exact ⟨fun _ _ x => x, .inl ⟨none, 0, rfl, fun q e => by cases e⟩⟩
  | some q =>
    simp only [wpA_skip, wpA_ret, wpA_exit, wpA_seq, wpA_block, wpA_cond, wpA_region, wpA_draw, wpA_loop, thenQ_normal, thenQ_ret, thenQ_exit, blockQ_normal, blockQ_ret, blockQ_exit, condV_true, condV_false, opsM_nil, opsM_cons, seqM, okB, Keeps_nil, contK_app, List.zip_cons_cons, List.zip_nil_left, List.zip_nil_right, Op.operands, Call.operands, Array.toList_append, List.append_nil, List.nil_append, List.all_cons, List.all_nil, cOK, plain, put_n, put_tm, put_none, put_df, ev_tmp, ev_const, ev_func, wanted_none, wanted_some, callR_func, dop, ex_some1, aBuiltin, aBin, intBin, aUn, Option.map_some, Bool.and_true, Bool.true_and, Bool.and_self, true_and, and_true, List.map_cons, List.map_nil, List.toList_toArray, List.getElem?_toArray, List.getElem?_cons_zero, List.getElem?_cons_succ, Option.getD_some, Option.getD_none, if_true, if_false, Bool.false_eq_true, eq_self_iff_true, reduceIte, Nat.reduceLT, Nat.reduceEqDiff, decide_true, decide_false, List.cons_append, aExtract, bodyR_ret, bodyR_normal, resL, resV, List.getD_cons_zero, List.getD_cons_succ, List.getD_nil, Nat.succ_ne_self, reduceCtorEq, Option.isNone_some, hn, hd, h0, aBuildSlice_empty t22]
    by_cases hz : zs = []
    · subst hz
      rw [List.map_nil] at hsrc
      have hs1 : srcCells 1 (.slice (some q) l c) (h.new (.row [] 3 true)) = some (0, []) := by
        have hl0 : l = 0 := by simpa using hl
        subst hl0
        obtain ⟨B, o, sp⟩ := q
        have : sp = none := hsp _ rfl
        subst this; rfl
      simp only [aAppend_none t22 hs1, wpA_skip, wpA_ret, wpA_exit, wpA_seq, wpA_block, wpA_cond, wpA_region, wpA_draw, wpA_loop, thenQ_normal, thenQ_ret, thenQ_exit, blockQ_normal, blockQ_ret, blockQ_exit, condV_true, condV_false, opsM_nil, opsM_cons, seqM, okB, Keeps_nil, contK_app, List.zip_cons_cons, List.zip_nil_left, List.zip_nil_right, Op.operands, Call.operands, Array.toList_append, List.append_nil, List.nil_append, List.all_cons, List.all_nil, cOK, plain, put_n, put_tm, put_none, put_df, ev_tmp, ev_const, ev_func, wanted_none, wanted_some, callR_func, dop, ex_some1, aBuiltin, aBin, intBin, aUn, Option.map_some, Bool.and_true, Bool.true_and, Bool.and_self, true_and, and_true, List.map_cons, List.map_nil, List.toList_toArray, List.getElem?_toArray, List.getElem?_cons_zero, List.getElem?_cons_succ, Option.getD_some, Option.getD_none, if_true, if_false, Bool.false_eq_true, eq_self_iff_true, reduceIte, Nat.reduceLT, Nat.reduceEqDiff, decide_true, decide_false, List.cons_append, aExtract, bodyR_ret, bodyR_normal, resL, resV, List.getD_cons_zero, List.getD_cons_succ, List.getD_nil, Nat.succ_ne_self, reduceCtorEq, hn, hd, h0]
      exact ⟨Sub.new hwf _, .inl ⟨_, _, rfl, fun q e => by cases e; rfl⟩⟩
    · have hv' := hv.sub (Sub.new hwf (.row [] 3 true))
      have hs1 := hv'.src
      have hz' : zs.map (Value.int .i64) ≠ [] := by simpa using hz
      have hg : (h.new (.row [] 3 true)).get h.next = some (.row [] 3 true) := by simp [AH.new_get]
      have happ := aAppend_first t22 hg hs1 hz' (by simp; omega) (by simp [ML]; omega)
      simp only [happ, wpA_skip, wpA_ret, wpA_exit, wpA_seq, wpA_block, wpA_cond, wpA_region, wpA_draw, wpA_loop, thenQ_normal, thenQ_ret, thenQ_exit, blockQ_normal, blockQ_ret, blockQ_exit, condV_true, condV_false, opsM_nil, opsM_cons, seqM, okB, Keeps_nil, contK_app, List.zip_cons_cons, List.zip_nil_left, List.zip_nil_right, Op.operands, Call.operands, Array.toList_append, List.append_nil, List.nil_append, List.all_cons, List.all_nil, cOK, plain, put_n, put_tm, put_none, put_df, ev_tmp, ev_const, ev_func, wanted_none, wanted_some, callR_func, dop, ex_some1, aBuiltin, aBin, intBin, aUn, Option.map_some, Bool.and_true, Bool.true_and, Bool.and_self, true_and, and_true, List.map_cons, List.map_nil, List.toList_toArray, List.getElem?_toArray, List.getElem?_cons_zero, List.getElem?_cons_succ, Option.getD_some, Option.getD_none, if_true, if_false, Bool.false_eq_true, eq_self_iff_true, reduceIte, Nat.reduceLT, Nat.reduceEqDiff, decide_true, decide_false, List.cons_append, aExtract, bodyR_ret, bodyR_normal, resL, resV, List.getD_cons_zero, List.getD_cons_succ, List.getD_nil, Nat.succ_ne_self, reduceCtorEq, hn, hd, h0]
      have hwf2 : WFH (h.new (.row [] 3 true)) := by
        intro A hA
        simp only [AH.new_next] at hA
        rw [AH.new_get, if_neg (by omega)]
        exact hwf A (by omega)
      refine ⟨fun A o x => Sub.new hwf2 _ A o (Sub.new hwf _ A o x), .inr ⟨hz, h.next + 1, by omega, by simp, by simp [AH.new_get]⟩⟩

end Go.Ab.S1
namespace Go.Ab.S1
open Go.Proofs

theorem sorts : SortsInts Tryz.prog 66 := ⟨⟨_, Tryz.func66, rfl, by kernel_rfl⟩, fun blk off cap zs w h1 h2 h3 => AnyM.slices_Sort_int Tryz.sortA blk off cap zs w h1 h2 h3, fun p cap w => AnyM.slices_Sort_int_none Tryz.sortA p cap w⟩

def sortL (zs : List Int) : List Int := zs.mergeSort fun x y => decide (x ≤ y)

theorem sortCloned {h h2 : AH} {r : Value} {zs : List Int} (hwf : WFH h) (hb : zs.length ≤ 17592186043904) (hsub : Sub h h2) (hr : (zs = [] ∧ ∃ p c, r = .slice p 0 c ∧ ∀ q, p = some q → q.spot = none) ∨
      (zs ≠ [] ∧ ∃ A, h.next ≤ A ∧ r = .slice (some ⟨A, 0, none⟩) zs.length (SL + 1) ∧ h2.get A = some (.grow (zs.map (.int .i64)) 3))) :
    ACall Tryz.prog 66 [r] h2 (fun v h3 => Sub h h3 ∧ SlOf h3 r ((sortL zs).map (.int .i64))) := by
  rcases hr with ⟨rfl, p, c, rfl, hsp⟩ | ⟨hz, A, hA, rfl, hg⟩
  · refine ACall.mono ?_ (sortNone sorts)
    rintro v h3 ⟨_, rfl⟩
    exact ⟨hsub, p, 0, c, rfl, by simp [sortL], hsp, .inl (by simp [sortL])⟩
  · refine ACall.mono ?_ (sortInts sorts hg hz (by omega))
    rintro v h3 ⟨_, rfl⟩
    refine ⟨fun B o hB => ?_, some ⟨A, 0, none⟩, zs.length, _, rfl, by simp [sortL], fun q e => by cases e; rfl, .inr ⟨A, 0, .grow ((sortL zs).map (.int .i64)) 3, _, rfl, ?_, rfl, fun i x hx => by rw [Nat.zero_add]; exact hx⟩⟩
    · rw [AH.set_get, if_neg]
      · exact hsub B o hB
      · intro e; subst e; rw [hwf _ hA] at hB; cases hB
    · simp [AH.set_get, sortL]

/-- The order is one of 0 to n - 1. -/
def IsPerm (zs : List Int) : Prop := ∀ i : Nat, i < zs.length → (sortL zs)[i]? = some (i : Int)

instance (zs : List Int) : Decidable (IsPerm zs) := inferInstanceAs (Decidable (∀ i : Nat, i < zs.length → (sortL zs)[i]? = some (i : Int)))

set_option maxRecDepth 100000 in
theorem permutation {h : AH} {v : Value} {zs : List Int} {n : Int} (hv : SlOf h v (zs.map (.int .i64))) (hb : zs.length ≤ 17592186043904) :
    ACall Tryz.prog 43 [v, .int .i64 n] h (fun r h' => r = .bool (decide (IsPerm zs ∧ (zs.length : Int) = n)) ∧ Sub h h') := by
  refine ACall.wf ⟨_, Tryz.func43, rfl, by kernel_rfl⟩ fun hwf => ?_
  refine ACall.of_wp 27 [.tmp 4] Tryz.func43 rfl (by kernel_rfl) rfl rfl fun a hn hd ha => ?_
  have h0 := ha 0
  have h1 := ha 1
  simp only [List.getD_cons_zero, List.getD_cons_succ] at h0 h1
  simp only [wpA_skip, wpA_ret, wpA_exit, wpA_seq, wpA_block, wpA_cond, wpA_region, wpA_draw, wpA_loop, thenQ_normal, thenQ_ret, thenQ_exit, blockQ_normal, blockQ_ret, blockQ_exit, condV_true, condV_false, opsM_nil, opsM_cons, seqM, okB, Keeps_nil, contK_app, List.zip_cons_cons, List.zip_nil_left, List.zip_nil_right, Op.operands, Call.operands, Array.toList_append, List.append_nil, List.nil_append, List.all_cons, List.all_nil, cOK, plain, put_n, put_tm, put_none, put_df, ev_tmp, ev_const, ev_func, wanted_none, wanted_some, callR_func, dop, ex_some1, aBuiltin, aBin, intBin, aUn, Option.map_some, Bool.and_true, Bool.true_and, Bool.and_self, true_and, and_true, List.map_cons, List.map_nil, List.toList_toArray, List.getElem?_toArray, List.getElem?_cons_zero, List.getElem?_cons_succ, Option.getD_some, Option.getD_none, if_true, if_false, Bool.false_eq_true, eq_self_iff_true, reduceIte, Nat.reduceLT, Nat.reduceEqDiff, decide_true, decide_false, List.cons_append, aExtract, bodyR_ret, bodyR_normal, resL, resV, List.getD_cons_zero, List.getD_cons_succ, List.getD_nil, Nat.succ_ne_self, reduceCtorEq, hn, hd, h0, h1]
  refine ACall.mono ?_ (cloneInts hv hb)
  rintro r h2 ⟨hsub, hr⟩
  simp only [wpA_skip, wpA_ret, wpA_exit, wpA_seq, wpA_block, wpA_cond, wpA_region, wpA_draw, wpA_loop, thenQ_normal, thenQ_ret, thenQ_exit, blockQ_normal, blockQ_ret, blockQ_exit, condV_true, condV_false, opsM_nil, opsM_cons, seqM, okB, Keeps_nil, contK_app, List.zip_cons_cons, List.zip_nil_left, List.zip_nil_right, Op.operands, Call.operands, Array.toList_append, List.append_nil, List.nil_append, List.all_cons, List.all_nil, cOK, plain, put_n, put_tm, put_none, put_df, ev_tmp, ev_const, ev_func, wanted_none, wanted_some, callR_func, dop, ex_some1, aBuiltin, aBin, intBin, aUn, Option.map_some, Bool.and_true, Bool.true_and, Bool.and_self, true_and, and_true, List.map_cons, List.map_nil, List.toList_toArray, List.getElem?_toArray, List.getElem?_cons_zero, List.getElem?_cons_succ, Option.getD_some, Option.getD_none, if_true, if_false, Bool.false_eq_true, eq_self_iff_true, reduceIte, Nat.reduceLT, Nat.reduceEqDiff, decide_true, decide_false, List.cons_append, aExtract, bodyR_ret, bodyR_normal, resL, resV, List.getD_cons_zero, List.getD_cons_succ, List.getD_nil, Nat.succ_ne_self, reduceCtorEq, hn, hd, h0, h1]
  refine ACall.mono ?_ (sortCloned hwf hb hsub hr)
  rintro _ h3 ⟨hsub3, hs3⟩
  have hv3 := hv.sub hsub3
  have l3 := hs3.len Tryz.underlying25
  have l0 := hv3.len Tryz.underlying25
  have hsl : (sortL zs).length = zs.length := by simp [sortL]
  simp only [wpA_skip, wpA_ret, wpA_exit, wpA_seq, wpA_block, wpA_cond, wpA_region, wpA_draw, wpA_loop, thenQ_normal, thenQ_ret, thenQ_exit, blockQ_normal, blockQ_ret, blockQ_exit, condV_true, condV_false, opsM_nil, opsM_cons, seqM, okB, Keeps_nil, contK_app, List.zip_cons_cons, List.zip_nil_left, List.zip_nil_right, Op.operands, Call.operands, Array.toList_append, List.append_nil, List.nil_append, List.all_cons, List.all_nil, cOK, plain, put_n, put_tm, put_none, put_df, ev_tmp, ev_const, ev_func, wanted_none, wanted_some, callR_func, dop, ex_some1, aBuiltin, aBin, intBin, aUn, Option.map_some, Bool.and_true, Bool.true_and, Bool.and_self, true_and, and_true, List.map_cons, List.map_nil, List.toList_toArray, List.getElem?_toArray, List.getElem?_cons_zero, List.getElem?_cons_succ, Option.getD_some, Option.getD_none, if_true, if_false, Bool.false_eq_true, eq_self_iff_true, reduceIte, Nat.reduceLT, Nat.reduceEqDiff, decide_true, decide_false, List.cons_append, aExtract, bodyR_ret, bodyR_normal, resL, resV, List.getD_cons_zero, List.getD_cons_succ, List.getD_nil, Nat.succ_ne_self, reduceCtorEq, hn, hd, h0, h1, l3, l0, List.length_map, hsl]
  refine AW.loop (fun m a' h' => h' = h3 ∧ a'.n = 27 ∧ a'.df = [] ∧ a'.tm 0 = v ∧ a'.tm 1 = .int .i64 n ∧ a'.tm 12 = r ∧ a'.tm 13 = .int .i64 zs.length ∧
      ∃ i : Nat, a'.tm 14 = .int .i64 i ∧ i + m = zs.length ∧ ∀ j : Nat, j < i → (sortL zs)[j]? = some (j : Int)) zs.length ?_ ?_
  · refine ⟨rfl, by simp only [put_n, hn], by simp only [put_df, hd], by simp [put_tm, h0], by simp [put_tm, h1], by simp [put_tm], by simp [put_tm], 0, by simp [put_tm], by omega, fun j hj => by omega⟩
  · rintro m a' h' ⟨rfl, hn, hd, h0, h1, h12, h13, i, h14, him, hall⟩
    refine wpA_sound _ _ _ _ ?_
    simp only [wpA_skip, wpA_ret, wpA_exit, wpA_seq, wpA_block, wpA_cond, wpA_region, wpA_draw, wpA_loop, thenQ_normal, thenQ_ret, thenQ_exit, blockQ_normal, blockQ_ret, blockQ_exit, condV_true, condV_false, opsM_nil, opsM_cons, seqM, okB, Keeps_nil, contK_app, List.zip_cons_cons, List.zip_nil_left, List.zip_nil_right, Op.operands, Call.operands, Array.toList_append, List.append_nil, List.nil_append, List.all_cons, List.all_nil, cOK, plain, put_n, put_tm, put_none, put_df, ev_tmp, ev_const, ev_func, wanted_none, wanted_some, callR_func, dop, ex_some1, aBuiltin, aBin, intBin, aUn, Option.map_some, Bool.and_true, Bool.true_and, Bool.and_self, true_and, and_true, List.map_cons, List.map_nil, List.toList_toArray, List.getElem?_toArray, List.getElem?_cons_zero, List.getElem?_cons_succ, Option.getD_some, Option.getD_none, if_true, if_false, Bool.false_eq_true, eq_self_iff_true, reduceIte, Nat.reduceLT, Nat.reduceEqDiff, decide_true, decide_false, List.cons_append, aExtract, bodyR_ret, bodyR_normal, resL, resV, List.getD_cons_zero, List.getD_cons_succ, List.getD_nil, Nat.succ_ne_self, reduceCtorEq, hn, hd, h0, h1, h12, h13, h14]
    refine condV_of (fun hlt => ?_) (fun hge => ?_)
    · have hi : i < zs.length := by simpa using hlt
      have hi' : i < (sortL zs).length := by omega
      obtain ⟨q1, e1, e2⟩ := hs3.at sl22 (k := .i64) (i := i) (x := .int .i64 (sortL zs)[i]) (by simp [hi'])
      simp only [wpA_skip, wpA_ret, wpA_exit, wpA_seq, wpA_block, wpA_cond, wpA_region, wpA_draw, wpA_loop, thenQ_normal, thenQ_ret, thenQ_exit, blockQ_normal, blockQ_ret, blockQ_exit, condV_true, condV_false, opsM_nil, opsM_cons, seqM, okB, Keeps_nil, contK_app, List.zip_cons_cons, List.zip_nil_left, List.zip_nil_right, Op.operands, Call.operands, Array.toList_append, List.append_nil, List.nil_append, List.all_cons, List.all_nil, cOK, plain, put_n, put_tm, put_none, put_df, ev_tmp, ev_const, ev_func, wanted_none, wanted_some, callR_func, dop, ex_some1, aBuiltin, aBin, intBin, aUn, Option.map_some, Bool.and_true, Bool.true_and, Bool.and_self, true_and, and_true, List.map_cons, List.map_nil, List.toList_toArray, List.getElem?_toArray, List.getElem?_cons_zero, List.getElem?_cons_succ, Option.getD_some, Option.getD_none, if_true, if_false, Bool.false_eq_true, eq_self_iff_true, reduceIte, Nat.reduceLT, Nat.reduceEqDiff, decide_true, decide_false, List.cons_append, aExtract, bodyR_ret, bodyR_normal, resL, resV, List.getD_cons_zero, List.getD_cons_succ, List.getD_nil, Nat.succ_ne_self, reduceCtorEq, hn, hd, h0, h1, h12, h13, h14, e1, e2]
      refine condV_of (fun hne => ?_) (fun heq => ?_)
      · have hnp : ¬ (IsPerm zs ∧ (zs.length : Int) = n) := by
          rintro ⟨hp, _⟩
          have := hp i hi
          rw [List.getElem?_eq_getElem hi'] at this
          have e : (sortL zs)[i] = (i : Int) := by simpa using this
          rw [e] at hne; simp at hne
        simp only [wpA_skip, wpA_ret, wpA_exit, wpA_seq, wpA_block, wpA_cond, wpA_region, wpA_draw, wpA_loop, thenQ_normal, thenQ_ret, thenQ_exit, blockQ_normal, blockQ_ret, blockQ_exit, condV_true, condV_false, opsM_nil, opsM_cons, seqM, okB, Keeps_nil, contK_app, List.zip_cons_cons, List.zip_nil_left, List.zip_nil_right, Op.operands, Call.operands, Array.toList_append, List.append_nil, List.nil_append, List.all_cons, List.all_nil, cOK, plain, put_n, put_tm, put_none, put_df, ev_tmp, ev_const, ev_func, wanted_none, wanted_some, callR_func, dop, ex_some1, aBuiltin, aBin, intBin, aUn, Option.map_some, Bool.and_true, Bool.true_and, Bool.and_self, true_and, and_true, List.map_cons, List.map_nil, List.toList_toArray, List.getElem?_toArray, List.getElem?_cons_zero, List.getElem?_cons_succ, Option.getD_some, Option.getD_none, if_true, if_false, Bool.false_eq_true, eq_self_iff_true, reduceIte, Nat.reduceLT, Nat.reduceEqDiff, decide_true, decide_false, List.cons_append, aExtract, bodyR_ret, bodyR_normal, resL, resV, List.getD_cons_zero, List.getD_cons_succ, List.getD_nil, Nat.succ_ne_self, reduceCtorEq, hn, hd, h0, h1, hnp]
        exact hsub3
      · have heq' : (sortL zs)[i] = (i : Int) := by simpa using heq
        have hw : IntKind.i64.wrap ((i : Int) + 1) = ((i + 1 : Nat) : Int) := by rw [Go.IntWalk.i64_in _ (by omega)]; omega
        simp only [wpA_skip, wpA_ret, wpA_exit, wpA_seq, wpA_block, wpA_cond, wpA_region, wpA_draw, wpA_loop, thenQ_normal, thenQ_ret, thenQ_exit, blockQ_normal, blockQ_ret, blockQ_exit, condV_true, condV_false, opsM_nil, opsM_cons, seqM, okB, Keeps_nil, contK_app, List.zip_cons_cons, List.zip_nil_left, List.zip_nil_right, Op.operands, Call.operands, Array.toList_append, List.append_nil, List.nil_append, List.all_cons, List.all_nil, cOK, plain, put_n, put_tm, put_none, put_df, ev_tmp, ev_const, ev_func, wanted_none, wanted_some, callR_func, dop, ex_some1, aBuiltin, aBin, intBin, aUn, Option.map_some, Bool.and_true, Bool.true_and, Bool.and_self, true_and, and_true, List.map_cons, List.map_nil, List.toList_toArray, List.getElem?_toArray, List.getElem?_cons_zero, List.getElem?_cons_succ, Option.getD_some, Option.getD_none, if_true, if_false, Bool.false_eq_true, eq_self_iff_true, reduceIte, Nat.reduceLT, Nat.reduceEqDiff, decide_true, decide_false, List.cons_append, aExtract, bodyR_ret, bodyR_normal, resL, resV, List.getD_cons_zero, List.getD_cons_succ, List.getD_nil, Nat.succ_ne_self, reduceCtorEq, hn, hd, h0, h1, h12, h13, h14, hw]
        refine ⟨m - 1, by omega, i + 1, rfl, by omega, fun j hj => ?_⟩
        by_cases e : j = i
        · subst e; rw [List.getElem?_eq_getElem hi', heq']
        · exact hall j (by omega)
    · have hge : zs.length ≤ i := by simpa using hge
      have hp : IsPerm zs := fun j hj => hall j (by omega)
      simp only [wpA_skip, wpA_ret, wpA_exit, wpA_seq, wpA_block, wpA_cond, wpA_region, wpA_draw, wpA_loop, thenQ_normal, thenQ_ret, thenQ_exit, blockQ_normal, blockQ_ret, blockQ_exit, condV_true, condV_false, opsM_nil, opsM_cons, seqM, okB, Keeps_nil, contK_app, List.zip_cons_cons, List.zip_nil_left, List.zip_nil_right, Op.operands, Call.operands, Array.toList_append, List.append_nil, List.nil_append, List.all_cons, List.all_nil, cOK, plain, put_n, put_tm, put_none, put_df, ev_tmp, ev_const, ev_func, wanted_none, wanted_some, callR_func, dop, ex_some1, aBuiltin, aBin, intBin, aUn, Option.map_some, Bool.and_true, Bool.true_and, Bool.and_self, true_and, and_true, List.map_cons, List.map_nil, List.toList_toArray, List.getElem?_toArray, List.getElem?_cons_zero, List.getElem?_cons_succ, Option.getD_some, Option.getD_none, if_true, if_false, Bool.false_eq_true, eq_self_iff_true, reduceIte, Nat.reduceLT, Nat.reduceEqDiff, decide_true, decide_false, List.cons_append, aExtract, bodyR_ret, bodyR_normal, resL, resV, List.getD_cons_zero, List.getD_cons_succ, List.getD_nil, Nat.succ_ne_self, reduceCtorEq, hn, hd, h0, h1, l0, List.length_map]
      refine ⟨?_, hsub3⟩
      simp only [hp, true_and]
      rfl
end Go.Ab.S1

set_option linter.unusedSimpArgs false
set_option linter.unusedVariables false
namespace Go.Ab.S1
open Go.Proofs

theorem sortL_perm (zs : List Int) : (sortL zs).Perm zs := List.mergeSort_perm zs _
theorem sortL_len (zs : List Int) : (sortL zs).length = zs.length := by simp [sortL]

theorem IsPerm.range {zs : List Int} (hp : IsPerm zs) {z : Int} (hz : z ∈ zs) : ∃ i : Nat, i < zs.length ∧ z = i := by
  have h1 : z ∈ sortL zs := (sortL_perm zs).mem_iff.2 hz
  obtain ⟨i, hi, e⟩ := List.getElem_of_mem h1
  have hi' : i < zs.length := by rw [← sortL_len]; exact hi
  have := hp i hi'
  rw [List.getElem?_eq_getElem hi] at this
  exact ⟨i, hi', by rw [← e]; simpa using this⟩

theorem IsPerm.nodup {zs : List Int} (hp : IsPerm zs) : zs.Nodup := by
  refine (sortL_perm zs).nodup_iff.1 ?_
  rw [List.nodup_iff_pairwise_ne, List.pairwise_iff_getElem]
  intro i j hi hj hij e
  have h1 := hp i (by rw [← sortL_len]; exact hi)
  have h2 := hp j (by rw [← sortL_len]; exact hj)
  rw [List.getElem?_eq_getElem hi] at h1
  rw [List.getElem?_eq_getElem hj] at h2
  simp only [Option.some.injEq] at h1 h2
  omega

theorem IsPerm.inj {zs : List Int} (hp : IsPerm zs) {i j : Nat} {z : Int} (hi : zs[i]? = some z) (hj : zs[j]? = some z) : i = j := by
  obtain ⟨h1, e1⟩ := List.getElem?_eq_some_iff.1 hi
  obtain ⟨h2, e2⟩ := List.getElem?_eq_some_iff.1 hj
  have hn := hp.nodup
  rw [List.nodup_iff_pairwise_ne, List.pairwise_iff_getElem] at hn
  rcases Nat.lt_trichotomy i j with h | h | h
  · exact absurd (e1.trans e2.symm) (hn i j h1 h2 h)
  · exact h
  · exact absurd (e2.trans e1.symm) (hn j i h2 h1 h)

theorem IsPerm.onto {zs : List Int} (hp : IsPerm zs) {j : Nat} (hj : j < zs.length) : ∃ k : Nat, zs[k]? = some (j : Int) := by
  have h1 := hp j hj
  have hm : (j : Int) ∈ sortL zs := List.mem_of_getElem? h1
  exact List.getElem?_of_mem ((sortL_perm zs).mem_iff.1 hm)

def chainE (zs : List Int) (k : Nat) : Int := if IsPerm zs then (if k = zs.length then 0 else 12) else 1

set_option maxRecDepth 100000 in
theorem chain {h : AH} {v : Value} {zs : List Int} {k : Nat} (hv : SlOf h v (zs.map (.int .i64))) (hb : zs.length ≤ 17592186043904) :
    ACall Tryz.prog 54 [v, .int .i64 k] h (fun r h' => r = .int .i64 (chainE zs k) ∧ Sub h h') := by
  refine ACall.of_wp 16 [.tmp 4] Tryz.func54 rfl (by kernel_rfl) rfl rfl fun a hn hd ha => ?_
  have h0 := ha 0
  have h1 := ha 1
  have l0 := hv.len Tryz.underlying25
  simp only [List.getD_cons_zero, List.getD_cons_succ] at h0 h1
  simp only [wpA_skip, wpA_ret, wpA_exit, wpA_seq, wpA_block, wpA_cond, wpA_region, wpA_draw, wpA_loop, thenQ_normal, thenQ_ret, thenQ_exit, blockQ_normal, blockQ_ret, blockQ_exit, condV_true, condV_false, opsM_nil, opsM_cons, seqM, okB, Keeps_nil, contK_app, List.zip_cons_cons, List.zip_nil_left, List.zip_nil_right, Op.operands, Call.operands, Array.toList_append, List.append_nil, List.nil_append, List.all_cons, List.all_nil, cOK, plain, put_n, put_tm, put_none, put_df, ev_tmp, ev_const, ev_func, wanted_none, wanted_some, callR_func, dop, ex_some1, aBuiltin, aBin, intBin, aUn, Option.map_some, Bool.and_true, Bool.true_and, Bool.and_self, true_and, and_true, List.map_cons, List.map_nil, List.toList_toArray, List.getElem?_toArray, List.getElem?_cons_zero, List.getElem?_cons_succ, Option.getD_some, Option.getD_none, if_true, if_false, Bool.false_eq_true, eq_self_iff_true, reduceIte, Nat.reduceLT, Nat.reduceEqDiff, decide_true, decide_false, List.cons_append, aExtract, bodyR_ret, bodyR_normal, resL, resV, List.getD_cons_zero, List.getD_cons_succ, List.getD_nil, Nat.succ_ne_self, reduceCtorEq, hn, hd, h0, h1, l0, List.length_map]
  refine ACall.mono ?_ (permutation hv hb)
  rintro r h2 ⟨rfl, hsub⟩
  have l2 := (hv.sub hsub).len Tryz.underlying25
  by_cases hp : IsPerm zs
  · simp only [wpA_skip, wpA_ret, wpA_exit, wpA_seq, wpA_block, wpA_cond, wpA_region, wpA_draw, wpA_loop, thenQ_normal, thenQ_ret, thenQ_exit, blockQ_normal, blockQ_ret, blockQ_exit, condV_true, condV_false, opsM_nil, opsM_cons, seqM, okB, Keeps_nil, contK_app, List.zip_cons_cons, List.zip_nil_left, List.zip_nil_right, Op.operands, Call.operands, Array.toList_append, List.append_nil, List.nil_append, List.all_cons, List.all_nil, cOK, plain, put_n, put_tm, put_none, put_df, ev_tmp, ev_const, ev_func, wanted_none, wanted_some, callR_func, dop, ex_some1, aBuiltin, aBin, intBin, aUn, Option.map_some, Bool.and_true, Bool.true_and, Bool.and_self, true_and, and_true, List.map_cons, List.map_nil, List.toList_toArray, List.getElem?_toArray, List.getElem?_cons_zero, List.getElem?_cons_succ, Option.getD_some, Option.getD_none, if_true, if_false, Bool.false_eq_true, eq_self_iff_true, reduceIte, Nat.reduceLT, Nat.reduceEqDiff, decide_true, decide_false, List.cons_append, aExtract, bodyR_ret, bodyR_normal, resL, resV, List.getD_cons_zero, List.getD_cons_succ, List.getD_nil, Nat.succ_ne_self, reduceCtorEq, hn, hd, h0, h1, l2, List.length_map, hp, Bool.not_true]
    refine condV_of (fun hne => ?_) (fun heq => ?_)
    · have : k ≠ zs.length := fun e => by subst e; simp at hne
      simp only [wpA_skip, wpA_ret, wpA_exit, wpA_seq, wpA_block, wpA_cond, wpA_region, wpA_draw, wpA_loop, thenQ_normal, thenQ_ret, thenQ_exit, blockQ_normal, blockQ_ret, blockQ_exit, condV_true, condV_false, opsM_nil, opsM_cons, seqM, okB, Keeps_nil, contK_app, List.zip_cons_cons, List.zip_nil_left, List.zip_nil_right, Op.operands, Call.operands, Array.toList_append, List.append_nil, List.nil_append, List.all_cons, List.all_nil, cOK, plain, put_n, put_tm, put_none, put_df, ev_tmp, ev_const, ev_func, wanted_none, wanted_some, callR_func, dop, ex_some1, aBuiltin, aBin, intBin, aUn, Option.map_some, Bool.and_true, Bool.true_and, Bool.and_self, true_and, and_true, List.map_cons, List.map_nil, List.toList_toArray, List.getElem?_toArray, List.getElem?_cons_zero, List.getElem?_cons_succ, Option.getD_some, Option.getD_none, if_true, if_false, Bool.false_eq_true, eq_self_iff_true, reduceIte, Nat.reduceLT, Nat.reduceEqDiff, decide_true, decide_false, List.cons_append, aExtract, bodyR_ret, bodyR_normal, resL, resV, List.getD_cons_zero, List.getD_cons_succ, List.getD_nil, Nat.succ_ne_self, reduceCtorEq, hn, hd, h0, h1, chainE, hp, this]
      exact hsub
    · have : k = zs.length := by
        have : (k : Int) = zs.length := by simpa using heq
        omega
      simp only [wpA_skip, wpA_ret, wpA_exit, wpA_seq, wpA_block, wpA_cond, wpA_region, wpA_draw, wpA_loop, thenQ_normal, thenQ_ret, thenQ_exit, blockQ_normal, blockQ_ret, blockQ_exit, condV_true, condV_false, opsM_nil, opsM_cons, seqM, okB, Keeps_nil, contK_app, List.zip_cons_cons, List.zip_nil_left, List.zip_nil_right, Op.operands, Call.operands, Array.toList_append, List.append_nil, List.nil_append, List.all_cons, List.all_nil, cOK, plain, put_n, put_tm, put_none, put_df, ev_tmp, ev_const, ev_func, wanted_none, wanted_some, callR_func, dop, ex_some1, aBuiltin, aBin, intBin, aUn, Option.map_some, Bool.and_true, Bool.true_and, Bool.and_self, true_and, and_true, List.map_cons, List.map_nil, List.toList_toArray, List.getElem?_toArray, List.getElem?_cons_zero, List.getElem?_cons_succ, Option.getD_some, Option.getD_none, if_true, if_false, Bool.false_eq_true, eq_self_iff_true, reduceIte, Nat.reduceLT, Nat.reduceEqDiff, decide_true, decide_false, List.cons_append, aExtract, bodyR_ret, bodyR_normal, resL, resV, List.getD_cons_zero, List.getD_cons_succ, List.getD_nil, Nat.succ_ne_self, reduceCtorEq, hn, hd, h0, h1, chainE, hp, this]
      exact hsub
  · simp only [wpA_skip, wpA_ret, wpA_exit, wpA_seq, wpA_block, wpA_cond, wpA_region, wpA_draw, wpA_loop, thenQ_normal, thenQ_ret, thenQ_exit, blockQ_normal, blockQ_ret, blockQ_exit, condV_true, condV_false, opsM_nil, opsM_cons, seqM, okB, Keeps_nil, contK_app, List.zip_cons_cons, List.zip_nil_left, List.zip_nil_right, Op.operands, Call.operands, Array.toList_append, List.append_nil, List.nil_append, List.all_cons, List.all_nil, cOK, plain, put_n, put_tm, put_none, put_df, ev_tmp, ev_const, ev_func, wanted_none, wanted_some, callR_func, dop, ex_some1, aBuiltin, aBin, intBin, aUn, Option.map_some, Bool.and_true, Bool.true_and, Bool.and_self, true_and, and_true, List.map_cons, List.map_nil, List.toList_toArray, List.getElem?_toArray, List.getElem?_cons_zero, List.getElem?_cons_succ, Option.getD_some, Option.getD_none, if_true, if_false, Bool.false_eq_true, eq_self_iff_true, reduceIte, Nat.reduceLT, Nat.reduceEqDiff, decide_true, decide_false, List.cons_append, aExtract, bodyR_ret, bodyR_normal, resL, resV, List.getD_cons_zero, List.getD_cons_succ, List.getD_nil, Nat.succ_ne_self, reduceCtorEq, hn, hd, h0, h1, l2, List.length_map, hp, false_and, Bool.not_false, chainE]
    exact hsub


/-- What Load hands back. -/
def IsLoad (zs : List Int) (bs out : List Bool) : Prop := out.length = zs.length ∧ ∀ k z, zs[k]? = some z → out[zs.length - 1 - k]? = bs[z.toNat]?
/-- What Unload hands back. -/
def IsUnload (zs : List Int) (bs out : List Bool) : Prop := out.length = zs.length ∧ ∀ k z, zs[k]? = some z → out[z.toNat]? = bs[zs.length - 1 - k]?

def LoadPost (R : List Int → List Bool → List Bool → Prop) (zs : List Int) (bs : List Bool) (h : AH) (r : Value) (h' : AH) : Prop :=
  Sub h h' ∧ ((chainE zs bs.length ≠ 0 ∧ r = .tuple #[.slice none 0 0, .int .i64 (chainE zs bs.length)]) ∨
    (chainE zs bs.length = 0 ∧ ∃ u out, r = .tuple #[u, .int .i64 0] ∧ R zs bs out ∧ SlOf h' u (out.map .bool)))

theorem chainE_zero {zs : List Int} {k : Nat} (h : chainE zs k = 0) : IsPerm zs ∧ k = zs.length := by
  unfold chainE at h
  split at h
  · rename_i hp
    split at h
    · rename_i hk; exact ⟨hp, hk⟩
    · omega
  · omega

set_option maxRecDepth 100000 in
theorem load {h : AH} {v1 v2 : Value} {zs : List Int} {bs : List Bool} (hv : SlOf h v1 (zs.map (.int .i64))) (hw : SlOf h v2 (bs.map .bool)) (hb : zs.length ≤ 17592186043904) :
    ACall Tryz.prog 27 [v1, v2] h (LoadPost IsLoad zs bs h) := by
  refine ACall.wf ⟨_, Tryz.func27, rfl, by kernel_rfl⟩ fun hwf => ?_
  refine ACall.of_wp 40 [.tmp 4, .tmp 5] Tryz.func27 rfl (by kernel_rfl) rfl rfl fun a hn hd ha => ?_
  have h0 := ha 0
  have h1 := ha 1
  have l1 := hw.len Tryz.underlying43
  simp only [List.getD_cons_zero, List.getD_cons_succ] at h0 h1
  simp only [wpA_skip, wpA_ret, wpA_exit, wpA_seq, wpA_block, wpA_cond, wpA_region, wpA_draw, wpA_loop, thenQ_normal, thenQ_ret, thenQ_exit, blockQ_normal, blockQ_ret, blockQ_exit, condV_true, condV_false, opsM_nil, opsM_cons, seqM, okB, Keeps_nil, contK_app, List.zip_cons_cons, List.zip_nil_left, List.zip_nil_right, Op.operands, Call.operands, Array.toList_append, List.append_nil, List.nil_append, List.all_cons, List.all_nil, cOK, plain, put_n, put_tm, put_none, put_df, ev_tmp, ev_const, ev_func, wanted_none, wanted_some, callR_func, dop, ex_some1, aBuiltin, aBin, intBin, aUn, Option.map_some, Bool.and_true, Bool.true_and, Bool.and_self, true_and, and_true, List.map_cons, List.map_nil, List.toList_toArray, List.getElem?_toArray, List.getElem?_cons_zero, List.getElem?_cons_succ, Option.getD_some, Option.getD_none, if_true, if_false, Bool.false_eq_true, eq_self_iff_true, reduceIte, Nat.reduceLT, Nat.reduceEqDiff, decide_true, decide_false, List.cons_append, aExtract, bodyR_ret, bodyR_normal, resL, resV, List.getD_cons_zero, List.getD_cons_succ, List.getD_nil, Nat.succ_ne_self, reduceCtorEq, hn, hd, h0, h1, l1, List.length_map]
  refine ACall.mono ?_ (ACall.wfPost (chain (k := bs.length) hv hb))
  rintro r h2 ⟨⟨rfl, hsub⟩, hwf2⟩
  have hv2 := hv.sub hsub
  have l2 := hv2.len Tryz.underlying25
  by_cases hc : chainE zs bs.length = 0
  · obtain ⟨hp, hk⟩ := chainE_zero hc
    have hmk := aMakeSlice_at t23 h2 zs.length (by omega) (by omega)
    simp only [wpA_skip, wpA_ret, wpA_exit, wpA_seq, wpA_block, wpA_cond, wpA_region, wpA_draw, wpA_loop, thenQ_normal, thenQ_ret, thenQ_exit, blockQ_normal, blockQ_ret, blockQ_exit, condV_true, condV_false, opsM_nil, opsM_cons, seqM, okB, Keeps_nil, contK_app, List.zip_cons_cons, List.zip_nil_left, List.zip_nil_right, Op.operands, Call.operands, Array.toList_append, List.append_nil, List.nil_append, List.all_cons, List.all_nil, cOK, plain, put_n, put_tm, put_none, put_df, ev_tmp, ev_const, ev_func, wanted_none, wanted_some, callR_func, dop, ex_some1, aBuiltin, aBin, intBin, aUn, Option.map_some, Bool.and_true, Bool.true_and, Bool.and_self, true_and, and_true, List.map_cons, List.map_nil, List.toList_toArray, List.getElem?_toArray, List.getElem?_cons_zero, List.getElem?_cons_succ, Option.getD_some, Option.getD_none, if_true, if_false, Bool.false_eq_true, eq_self_iff_true, reduceIte, Nat.reduceLT, Nat.reduceEqDiff, decide_true, decide_false, List.cons_append, aExtract, bodyR_ret, bodyR_normal, resL, resV, List.getD_cons_zero, List.getD_cons_succ, List.getD_nil, Nat.succ_ne_self, reduceCtorEq, hn, hd, h0, h1, l2, List.length_map, hc, hmk, bne_self_eq_false]
    have hsub3 := fun A o x => Sub.new hwf2 (.row (List.replicate zs.length (.bool false)) 4 true) A o (hsub A o x)
    have l3 := (hv.sub hsub3).len Tryz.underlying25
    simp only [wpA_skip, wpA_ret, wpA_exit, wpA_seq, wpA_block, wpA_cond, wpA_region, wpA_draw, wpA_loop, thenQ_normal, thenQ_ret, thenQ_exit, blockQ_normal, blockQ_ret, blockQ_exit, condV_true, condV_false, opsM_nil, opsM_cons, seqM, okB, Keeps_nil, contK_app, List.zip_cons_cons, List.zip_nil_left, List.zip_nil_right, Op.operands, Call.operands, Array.toList_append, List.append_nil, List.nil_append, List.all_cons, List.all_nil, cOK, plain, put_n, put_tm, put_none, put_df, ev_tmp, ev_const, ev_func, wanted_none, wanted_some, callR_func, dop, ex_some1, aBuiltin, aBin, intBin, aUn, Option.map_some, Bool.and_true, Bool.true_and, Bool.and_self, true_and, and_true, List.map_cons, List.map_nil, List.toList_toArray, List.getElem?_toArray, List.getElem?_cons_zero, List.getElem?_cons_succ, Option.getD_some, Option.getD_none, if_true, if_false, Bool.false_eq_true, eq_self_iff_true, reduceIte, Nat.reduceLT, Nat.reduceEqDiff, decide_true, decide_false, List.cons_append, aExtract, bodyR_ret, bodyR_normal, resL, resV, List.getD_cons_zero, List.getD_cons_succ, List.getD_nil, Nat.succ_ne_self, reduceCtorEq, hn, hd, h0, h1, l3, List.length_map]
    have hA : h.get h2.next = none := by
      cases e : h.get h2.next with
      | none => rfl
      | some o => have := hsub _ _ e; rw [hwf2 _ (Nat.le_refl _)] at this; cases this
    generalize hAe : h2.next = A at *
    refine AW.loop (fun m a' h' => Sub h h' ∧ a'.n = 40 ∧ a'.df = [] ∧ a'.tm 0 = v1 ∧ a'.tm 1 = v2 ∧ a'.tm 7 = .slice (some ⟨A, 0, none⟩) zs.length zs.length ∧ a'.tm 20 = v1 ∧ a'.tm 21 = .int .i64 zs.length ∧
        ∃ (i : Nat) (out : List Bool), a'.tm 22 = .int .i64 i ∧ i + m = zs.length ∧ h'.get A = some (.row (out.map .bool) 4 true) ∧ out.length = zs.length ∧
          ∀ k z, k < i → zs[k]? = some z → out[zs.length - 1 - k]? = bs[z.toNat]?) zs.length ?_ ?_
    · refine ⟨hsub3, by simp only [put_n, hn], by simp only [put_df, hd], by simp [put_tm, h0], by simp [put_tm, h1], by simp [put_tm], by simp [put_tm], by simp [put_tm], 0, List.replicate zs.length false, by simp [put_tm], by omega, by simp [AH.new_get, hAe], by simp, fun k z hk => by omega⟩
    · rintro m a' h' ⟨hs', hn, hd, h0, h1, h7, h20, h21, i, out, h22, him, hg, hlen, hall⟩
      refine wpA_sound _ _ _ _ ?_
      simp only [wpA_skip, wpA_ret, wpA_exit, wpA_seq, wpA_block, wpA_cond, wpA_region, wpA_draw, wpA_loop, thenQ_normal, thenQ_ret, thenQ_exit, blockQ_normal, blockQ_ret, blockQ_exit, condV_true, condV_false, opsM_nil, opsM_cons, seqM, okB, Keeps_nil, contK_app, List.zip_cons_cons, List.zip_nil_left, List.zip_nil_right, Op.operands, Call.operands, Array.toList_append, List.append_nil, List.nil_append, List.all_cons, List.all_nil, cOK, plain, put_n, put_tm, put_none, put_df, ev_tmp, ev_const, ev_func, wanted_none, wanted_some, callR_func, dop, ex_some1, aBuiltin, aBin, intBin, aUn, Option.map_some, Bool.and_true, Bool.true_and, Bool.and_self, true_and, and_true, List.map_cons, List.map_nil, List.toList_toArray, List.getElem?_toArray, List.getElem?_cons_zero, List.getElem?_cons_succ, Option.getD_some, Option.getD_none, if_true, if_false, Bool.false_eq_true, eq_self_iff_true, reduceIte, Nat.reduceLT, Nat.reduceEqDiff, decide_true, decide_false, List.cons_append, aExtract, bodyR_ret, bodyR_normal, resL, resV, List.getD_cons_zero, List.getD_cons_succ, List.getD_nil, Nat.succ_ne_self, reduceCtorEq, hn, hd, h0, h1, h7, h20, h21, h22]
      refine condV_of (fun hlt => ?_) (fun hge => ?_)
      · have hi : i < zs.length := by simpa using hlt
        obtain ⟨z0, hz0, hze⟩ := hp.range (List.getElem_mem hi)
        have hzi : zs[i]? = some ((z0 : Nat) : Int) := by rw [List.getElem?_eq_getElem hi, hze]
        obtain ⟨q1, e1, e2⟩ := (hv.sub hs').at sl22 (k := .i64) (i := i) (x := .int .i64 z0) (by simp [hzi])
        obtain ⟨q2, e3, e4⟩ := (hw.sub hs').at sl23 (k := .i64) (i := z0) (x := .bool (bs[z0]'(by omega))) (by simp [show z0 < bs.length by omega])
        have w1 : IntKind.i64.wrap ((zs.length : Int) - 1) = (zs.length : Int) - 1 := by rw [Go.IntWalk.i64_in _ (by omega)]
        have w2 : IntKind.i64.wrap ((zs.length : Int) - 1 - i) = ((zs.length - 1 - i : Nat) : Int) := by rw [Go.IntWalk.i64_in _ (by omega)]; omega
        have e5 := aIndexAddr_in t23 (A := A) (off := 0) (cap := zs.length) (k := .i64) (n := ((zs.length - 1 - i : Nat) : Int)) rfl (show zs.length - 1 - i < zs.length by omega)
        have hoff : 0 + (zs.length - 1 - i) < (out.map Value.bool).length := by simp; omega
        have e6 := aStore_row t23 (x := .bool (bs[z0]'(by omega))) hg hoff rfl rfl
        have l7 : aLen Tryz.prog 43 (.slice (some ⟨A, 0, none⟩) zs.length zs.length) h' = some (.int .i64 zs.length) := by simp only [aLen, Tryz.underlying43]
        have hw3 : IntKind.i64.wrap ((i : Int) + 1) = ((i + 1 : Nat) : Int) := by rw [Go.IntWalk.i64_in _ (by omega)]; omega
        simp only [wpA_skip, wpA_ret, wpA_exit, wpA_seq, wpA_block, wpA_cond, wpA_region, wpA_draw, wpA_loop, thenQ_normal, thenQ_ret, thenQ_exit, blockQ_normal, blockQ_ret, blockQ_exit, condV_true, condV_false, opsM_nil, opsM_cons, seqM, okB, Keeps_nil, contK_app, List.zip_cons_cons, List.zip_nil_left, List.zip_nil_right, Op.operands, Call.operands, Array.toList_append, List.append_nil, List.nil_append, List.all_cons, List.all_nil, cOK, plain, put_n, put_tm, put_none, put_df, ev_tmp, ev_const, ev_func, wanted_none, wanted_some, callR_func, dop, ex_some1, aBuiltin, aBin, intBin, aUn, Option.map_some, Bool.and_true, Bool.true_and, Bool.and_self, true_and, and_true, List.map_cons, List.map_nil, List.toList_toArray, List.getElem?_toArray, List.getElem?_cons_zero, List.getElem?_cons_succ, Option.getD_some, Option.getD_none, if_true, if_false, Bool.false_eq_true, eq_self_iff_true, reduceIte, Nat.reduceLT, Nat.reduceEqDiff, decide_true, decide_false, List.cons_append, aExtract, bodyR_ret, bodyR_normal, resL, resV, List.getD_cons_zero, List.getD_cons_succ, List.getD_nil, Nat.succ_ne_self, reduceCtorEq, hn, hd, h0, h1, h7, h20, h21, h22, e1, e2, e3, e4, l7, w1, w2, e5, e6, hw3]
        refine ⟨m - 1, by omega, fun B o hB => ?_, i + 1, out.set (zs.length - 1 - i) (bs[z0]'(by omega)), rfl, by omega, by simp [AH.set_get, List.map_set], by simp [hlen], fun k z hk hz => ?_⟩
        · rw [AH.set_get, if_neg]
          · exact hs' B o hB
          · intro e; subst e; rw [hA] at hB; cases hB
        · by_cases e : k = i
          · subst e
            rw [hzi] at hz; cases hz
            rw [List.getElem?_set_self (by omega)]
            simp [show z0 < bs.length by omega]
          · have hkz : k < zs.length := (List.getElem?_eq_some_iff.1 hz).1
            rw [List.getElem?_set_ne (by omega)]
            exact hall k z (by omega) hz
      · have hge : zs.length ≤ i := by simpa using hge
        simp only [wpA_skip, wpA_ret, wpA_exit, wpA_seq, wpA_block, wpA_cond, wpA_region, wpA_draw, wpA_loop, thenQ_normal, thenQ_ret, thenQ_exit, blockQ_normal, blockQ_ret, blockQ_exit, condV_true, condV_false, opsM_nil, opsM_cons, seqM, okB, Keeps_nil, contK_app, List.zip_cons_cons, List.zip_nil_left, List.zip_nil_right, Op.operands, Call.operands, Array.toList_append, List.append_nil, List.nil_append, List.all_cons, List.all_nil, cOK, plain, put_n, put_tm, put_none, put_df, ev_tmp, ev_const, ev_func, wanted_none, wanted_some, callR_func, dop, ex_some1, aBuiltin, aBin, intBin, aUn, Option.map_some, Bool.and_true, Bool.true_and, Bool.and_self, true_and, and_true, List.map_cons, List.map_nil, List.toList_toArray, List.getElem?_toArray, List.getElem?_cons_zero, List.getElem?_cons_succ, Option.getD_some, Option.getD_none, if_true, if_false, Bool.false_eq_true, eq_self_iff_true, reduceIte, Nat.reduceLT, Nat.reduceEqDiff, decide_true, decide_false, List.cons_append, aExtract, bodyR_ret, bodyR_normal, resL, resV, List.getD_cons_zero, List.getD_cons_succ, List.getD_nil, Nat.succ_ne_self, reduceCtorEq, hn, hd, h0, h1, h7, h20, h21, h22]
        refine ⟨hs', .inr ⟨hc, _, out, rfl, ⟨hlen, fun k z hz => hall k z ?_ hz⟩, some ⟨A, 0, none⟩, _, _, rfl, by simp [hlen], fun q e => by cases e; rfl, .inr ⟨A, 0, _, _, rfl, hg, rfl, fun j x hx => by rw [Nat.zero_add]; exact hx⟩⟩⟩
        have := (List.getElem?_eq_some_iff.1 hz).1
        omega
  · have hne : (chainE zs bs.length != 0) = true := by simpa using hc
    simp only [wpA_skip, wpA_ret, wpA_exit, wpA_seq, wpA_block, wpA_cond, wpA_region, wpA_draw, wpA_loop, thenQ_normal, thenQ_ret, thenQ_exit, blockQ_normal, blockQ_ret, blockQ_exit, condV_true, condV_false, opsM_nil, opsM_cons, seqM, okB, Keeps_nil, contK_app, List.zip_cons_cons, List.zip_nil_left, List.zip_nil_right, Op.operands, Call.operands, Array.toList_append, List.append_nil, List.nil_append, List.all_cons, List.all_nil, cOK, plain, put_n, put_tm, put_none, put_df, ev_tmp, ev_const, ev_func, wanted_none, wanted_some, callR_func, dop, ex_some1, aBuiltin, aBin, intBin, aUn, Option.map_some, Bool.and_true, Bool.true_and, Bool.and_self, true_and, and_true, List.map_cons, List.map_nil, List.toList_toArray, List.getElem?_toArray, List.getElem?_cons_zero, List.getElem?_cons_succ, Option.getD_some, Option.getD_none, if_true, if_false, Bool.false_eq_true, eq_self_iff_true, reduceIte, Nat.reduceLT, Nat.reduceEqDiff, decide_true, decide_false, List.cons_append, aExtract, bodyR_ret, bodyR_normal, resL, resV, List.getD_cons_zero, List.getD_cons_succ, List.getD_nil, Nat.succ_ne_self, reduceCtorEq, hn, hd, h0, h1, hne]
    exact ⟨hsub, .inl ⟨hc, rfl⟩⟩

set_option maxRecDepth 100000 in
theorem unload {h : AH} {v1 v2 : Value} {zs : List Int} {bs : List Bool} (hv : SlOf h v1 (zs.map (.int .i64))) (hw : SlOf h v2 (bs.map .bool)) (hb : zs.length ≤ 17592186043904) :
    ACall Tryz.prog 46 [v1, v2] h (LoadPost IsUnload zs bs h) := by
  refine ACall.wf ⟨_, Tryz.func46, rfl, by kernel_rfl⟩ fun hwf => ?_
  refine ACall.of_wp 40 [.tmp 4, .tmp 5] Tryz.func46 rfl (by kernel_rfl) rfl rfl fun a hn hd ha => ?_
  have h0 := ha 0
  have h1 := ha 1
  have l1 := hw.len Tryz.underlying43
  simp only [List.getD_cons_zero, List.getD_cons_succ] at h0 h1
  simp only [wpA_skip, wpA_ret, wpA_exit, wpA_seq, wpA_block, wpA_cond, wpA_region, wpA_draw, wpA_loop, thenQ_normal, thenQ_ret, thenQ_exit, blockQ_normal, blockQ_ret, blockQ_exit, condV_true, condV_false, opsM_nil, opsM_cons, seqM, okB, Keeps_nil, contK_app, List.zip_cons_cons, List.zip_nil_left, List.zip_nil_right, Op.operands, Call.operands, Array.toList_append, List.append_nil, List.nil_append, List.all_cons, List.all_nil, cOK, plain, put_n, put_tm, put_none, put_df, ev_tmp, ev_const, ev_func, wanted_none, wanted_some, callR_func, dop, ex_some1, aBuiltin, aBin, intBin, aUn, Option.map_some, Bool.and_true, Bool.true_and, Bool.and_self, true_and, and_true, List.map_cons, List.map_nil, List.toList_toArray, List.getElem?_toArray, List.getElem?_cons_zero, List.getElem?_cons_succ, Option.getD_some, Option.getD_none, if_true, if_false, Bool.false_eq_true, eq_self_iff_true, reduceIte, Nat.reduceLT, Nat.reduceEqDiff, decide_true, decide_false, List.cons_append, aExtract, bodyR_ret, bodyR_normal, resL, resV, List.getD_cons_zero, List.getD_cons_succ, List.getD_nil, Nat.succ_ne_self, reduceCtorEq, hn, hd, h0, h1, l1, List.length_map]
  refine ACall.mono ?_ (ACall.wfPost (chain (k := bs.length) hv hb))
  rintro r h2 ⟨⟨rfl, hsub⟩, hwf2⟩
  have hv2 := hv.sub hsub
  have l2 := hv2.len Tryz.underlying25
  by_cases hc : chainE zs bs.length = 0
  · obtain ⟨hp, hk⟩ := chainE_zero hc
    have hmk := aMakeSlice_at t23 h2 zs.length (by omega) (by omega)
    simp only [wpA_skip, wpA_ret, wpA_exit, wpA_seq, wpA_block, wpA_cond, wpA_region, wpA_draw, wpA_loop, thenQ_normal, thenQ_ret, thenQ_exit, blockQ_normal, blockQ_ret, blockQ_exit, condV_true, condV_false, opsM_nil, opsM_cons, seqM, okB, Keeps_nil, contK_app, List.zip_cons_cons, List.zip_nil_left, List.zip_nil_right, Op.operands, Call.operands, Array.toList_append, List.append_nil, List.nil_append, List.all_cons, List.all_nil, cOK, plain, put_n, put_tm, put_none, put_df, ev_tmp, ev_const, ev_func, wanted_none, wanted_some, callR_func, dop, ex_some1, aBuiltin, aBin, intBin, aUn, Option.map_some, Bool.and_true, Bool.true_and, Bool.and_self, true_and, and_true, List.map_cons, List.map_nil, List.toList_toArray, List.getElem?_toArray, List.getElem?_cons_zero, List.getElem?_cons_succ, Option.getD_some, Option.getD_none, if_true, if_false, Bool.false_eq_true, eq_self_iff_true, reduceIte, Nat.reduceLT, Nat.reduceEqDiff, decide_true, decide_false, List.cons_append, aExtract, bodyR_ret, bodyR_normal, resL, resV, List.getD_cons_zero, List.getD_cons_succ, List.getD_nil, Nat.succ_ne_self, reduceCtorEq, hn, hd, h0, h1, l2, List.length_map, hc, hmk, bne_self_eq_false]
    have hsub3 := fun A o x => Sub.new hwf2 (.row (List.replicate zs.length (.bool false)) 4 true) A o (hsub A o x)
    have l3 := (hv.sub hsub3).len Tryz.underlying25
    simp only [wpA_skip, wpA_ret, wpA_exit, wpA_seq, wpA_block, wpA_cond, wpA_region, wpA_draw, wpA_loop, thenQ_normal, thenQ_ret, thenQ_exit, blockQ_normal, blockQ_ret, blockQ_exit, condV_true, condV_false, opsM_nil, opsM_cons, seqM, okB, Keeps_nil, contK_app, List.zip_cons_cons, List.zip_nil_left, List.zip_nil_right, Op.operands, Call.operands, Array.toList_append, List.append_nil, List.nil_append, List.all_cons, List.all_nil, cOK, plain, put_n, put_tm, put_none, put_df, ev_tmp, ev_const, ev_func, wanted_none, wanted_some, callR_func, dop, ex_some1, aBuiltin, aBin, intBin, aUn, Option.map_some, Bool.and_true, Bool.true_and, Bool.and_self, true_and, and_true, List.map_cons, List.map_nil, List.toList_toArray, List.getElem?_toArray, List.getElem?_cons_zero, List.getElem?_cons_succ, Option.getD_some, Option.getD_none, if_true, if_false, Bool.false_eq_true, eq_self_iff_true, reduceIte, Nat.reduceLT, Nat.reduceEqDiff, decide_true, decide_false, List.cons_append, aExtract, bodyR_ret, bodyR_normal, resL, resV, List.getD_cons_zero, List.getD_cons_succ, List.getD_nil, Nat.succ_ne_self, reduceCtorEq, hn, hd, h0, h1, l3, List.length_map]
    have hA : h.get h2.next = none := by
      cases e : h.get h2.next with
      | none => rfl
      | some o => have := hsub _ _ e; rw [hwf2 _ (Nat.le_refl _)] at this; cases this
    generalize hAe : h2.next = A at *
    refine AW.loop (fun m a' h' => Sub h h' ∧ a'.n = 40 ∧ a'.df = [] ∧ a'.tm 0 = v1 ∧ a'.tm 1 = v2 ∧ a'.tm 7 = .slice (some ⟨A, 0, none⟩) zs.length zs.length ∧ a'.tm 20 = v1 ∧ a'.tm 21 = .int .i64 zs.length ∧
        ∃ (i : Nat) (out : List Bool), a'.tm 22 = .int .i64 i ∧ i + m = zs.length ∧ h'.get A = some (.row (out.map .bool) 4 true) ∧ out.length = zs.length ∧
          ∀ k z, k < i → zs[k]? = some z → out[z.toNat]? = bs[zs.length - 1 - k]?) zs.length ?_ ?_
    · refine ⟨hsub3, by simp only [put_n, hn], by simp only [put_df, hd], by simp [put_tm, h0], by simp [put_tm, h1], by simp [put_tm], by simp [put_tm], by simp [put_tm], 0, List.replicate zs.length false, by simp [put_tm], by omega, by simp [AH.new_get, hAe], by simp, fun k z hk => by omega⟩
    · rintro m a' h' ⟨hs', hn, hd, h0, h1, h7, h20, h21, i, out, h22, him, hg, hlen, hall⟩
      refine wpA_sound _ _ _ _ ?_
      simp only [wpA_skip, wpA_ret, wpA_exit, wpA_seq, wpA_block, wpA_cond, wpA_region, wpA_draw, wpA_loop, thenQ_normal, thenQ_ret, thenQ_exit, blockQ_normal, blockQ_ret, blockQ_exit, condV_true, condV_false, opsM_nil, opsM_cons, seqM, okB, Keeps_nil, contK_app, List.zip_cons_cons, List.zip_nil_left, List.zip_nil_right, Op.operands, Call.operands, Array.toList_append, List.append_nil, List.nil_append, List.all_cons, List.all_nil, cOK, plain, put_n, put_tm, put_none, put_df, ev_tmp, ev_const, ev_func, wanted_none, wanted_some, callR_func, dop, ex_some1, aBuiltin, aBin, intBin, aUn, Option.map_some, Bool.and_true, Bool.true_and, Bool.and_self, true_and, and_true, List.map_cons, List.map_nil, List.toList_toArray, List.getElem?_toArray, List.getElem?_cons_zero, List.getElem?_cons_succ, Option.getD_some, Option.getD_none, if_true, if_false, Bool.false_eq_true, eq_self_iff_true, reduceIte, Nat.reduceLT, Nat.reduceEqDiff, decide_true, decide_false, List.cons_append, aExtract, bodyR_ret, bodyR_normal, resL, resV, List.getD_cons_zero, List.getD_cons_succ, List.getD_nil, Nat.succ_ne_self, reduceCtorEq, hn, hd, h0, h1, h7, h20, h21, h22]
      refine condV_of (fun hlt => ?_) (fun hge => ?_)
      · have hi : i < zs.length := by simpa using hlt
        obtain ⟨z0, hz0, hze⟩ := hp.range (List.getElem_mem hi)
        have hzi : zs[i]? = some ((z0 : Nat) : Int) := by rw [List.getElem?_eq_getElem hi, hze]
        obtain ⟨q1, e1, e2⟩ := (hv.sub hs').at sl22 (k := .i64) (i := i) (x := .int .i64 z0) (by simp [hzi])
        obtain ⟨q2, e3, e4⟩ := (hw.sub hs').at sl23 (k := .i64) (i := zs.length - 1 - i) (x := .bool (bs[zs.length - 1 - i]'(by omega))) (by simp [show zs.length - 1 - i < bs.length by omega])
        have w1 : IntKind.i64.wrap ((zs.length : Int) - 1) = (zs.length : Int) - 1 := by rw [Go.IntWalk.i64_in _ (by omega)]
        have w2 : IntKind.i64.wrap ((zs.length : Int) - 1 - i) = ((zs.length - 1 - i : Nat) : Int) := by rw [Go.IntWalk.i64_in _ (by omega)]; omega
        have e5 := aIndexAddr_in t23 (A := A) (off := 0) (cap := zs.length) (k := .i64) (n := ((z0 : Nat) : Int)) rfl hz0
        have hoff : 0 + z0 < (out.map Value.bool).length := by simp; omega
        have e6 := aStore_row t23 (x := .bool (bs[zs.length - 1 - i]'(by omega))) hg hoff rfl rfl
        have l7 : aLen Tryz.prog 43 (.slice (some ⟨A, 0, none⟩) zs.length zs.length) h' = some (.int .i64 zs.length) := by simp only [aLen, Tryz.underlying43]
        have hw3 : IntKind.i64.wrap ((i : Int) + 1) = ((i + 1 : Nat) : Int) := by rw [Go.IntWalk.i64_in _ (by omega)]; omega
        simp only [wpA_skip, wpA_ret, wpA_exit, wpA_seq, wpA_block, wpA_cond, wpA_region, wpA_draw, wpA_loop, thenQ_normal, thenQ_ret, thenQ_exit, blockQ_normal, blockQ_ret, blockQ_exit, condV_true, condV_false, opsM_nil, opsM_cons, seqM, okB, Keeps_nil, contK_app, List.zip_cons_cons, List.zip_nil_left, List.zip_nil_right, Op.operands, Call.operands, Array.toList_append, List.append_nil, List.nil_append, List.all_cons, List.all_nil, cOK, plain, put_n, put_tm, put_none, put_df, ev_tmp, ev_const, ev_func, wanted_none, wanted_some, callR_func, dop, ex_some1, aBuiltin, aBin, intBin, aUn, Option.map_some, Bool.and_true, Bool.true_and, Bool.and_self, true_and, and_true, List.map_cons, List.map_nil, List.toList_toArray, List.getElem?_toArray, List.getElem?_cons_zero, List.getElem?_cons_succ, Option.getD_some, Option.getD_none, if_true, if_false, Bool.false_eq_true, eq_self_iff_true, reduceIte, Nat.reduceLT, Nat.reduceEqDiff, decide_true, decide_false, List.cons_append, aExtract, bodyR_ret, bodyR_normal, resL, resV, List.getD_cons_zero, List.getD_cons_succ, List.getD_nil, Nat.succ_ne_self, reduceCtorEq, hn, hd, h0, h1, h7, h20, h21, h22, e1, e2, e3, e4, l7, w1, w2, e5, e6, hw3]
        refine ⟨m - 1, by omega, fun B o hB => ?_, i + 1, out.set z0 (bs[zs.length - 1 - i]'(by omega)), rfl, by omega, by simp [AH.set_get, List.map_set], by simp [hlen], fun k z hk hz => ?_⟩
        · rw [AH.set_get, if_neg]
          · exact hs' B o hB
          · intro e; subst e; rw [hA] at hB; cases hB
        · by_cases e : k = i
          · subst e
            rw [hzi] at hz; cases hz
            rw [Int.toNat_natCast, List.getElem?_set_self (by omega)]
            simp [show zs.length - 1 - k < bs.length by omega]
          · have hkz : k < zs.length := (List.getElem?_eq_some_iff.1 hz).1
            obtain ⟨z1, hz1, hz1e⟩ := hp.range (List.mem_of_getElem? hz)
            have hne : z0 ≠ z.toNat := by
              intro e'
              have : z = (z0 : Int) := by omega
              rw [this] at hz
              exact e (hp.inj hz hzi)
            rw [List.getElem?_set_ne hne]
            exact hall k z (by omega) hz
      · have hge : zs.length ≤ i := by simpa using hge
        simp only [wpA_skip, wpA_ret, wpA_exit, wpA_seq, wpA_block, wpA_cond, wpA_region, wpA_draw, wpA_loop, thenQ_normal, thenQ_ret, thenQ_exit, blockQ_normal, blockQ_ret, blockQ_exit, condV_true, condV_false, opsM_nil, opsM_cons, seqM, okB, Keeps_nil, contK_app, List.zip_cons_cons, List.zip_nil_left, List.zip_nil_right, Op.operands, Call.operands, Array.toList_append, List.append_nil, List.nil_append, List.all_cons, List.all_nil, cOK, plain, put_n, put_tm, put_none, put_df, ev_tmp, ev_const, ev_func, wanted_none, wanted_some, callR_func, dop, ex_some1, aBuiltin, aBin, intBin, aUn, Option.map_some, Bool.and_true, Bool.true_and, Bool.and_self, true_and, and_true, List.map_cons, List.map_nil, List.toList_toArray, List.getElem?_toArray, List.getElem?_cons_zero, List.getElem?_cons_succ, Option.getD_some, Option.getD_none, if_true, if_false, Bool.false_eq_true, eq_self_iff_true, reduceIte, Nat.reduceLT, Nat.reduceEqDiff, decide_true, decide_false, List.cons_append, aExtract, bodyR_ret, bodyR_normal, resL, resV, List.getD_cons_zero, List.getD_cons_succ, List.getD_nil, Nat.succ_ne_self, reduceCtorEq, hn, hd, h0, h1, h7, h20, h21, h22]
        refine ⟨hs', .inr ⟨hc, _, out, rfl, ⟨hlen, fun k z hz => hall k z ?_ hz⟩, some ⟨A, 0, none⟩, _, _, rfl, by simp [hlen], fun q e => by cases e; rfl, .inr ⟨A, 0, _, _, rfl, hg, rfl, fun j x hx => by rw [Nat.zero_add]; exact hx⟩⟩⟩
        have := (List.getElem?_eq_some_iff.1 hz).1
        omega
  · have hne : (chainE zs bs.length != 0) = true := by simpa using hc
    simp only [wpA_skip, wpA_ret, wpA_exit, wpA_seq, wpA_block, wpA_cond, wpA_region, wpA_draw, wpA_loop, thenQ_normal, thenQ_ret, thenQ_exit, blockQ_normal, blockQ_ret, blockQ_exit, condV_true, condV_false, opsM_nil, opsM_cons, seqM, okB, Keeps_nil, contK_app, List.zip_cons_cons, List.zip_nil_left, List.zip_nil_right, Op.operands, Call.operands, Array.toList_append, List.append_nil, List.nil_append, List.all_cons, List.all_nil, cOK, plain, put_n, put_tm, put_none, put_df, ev_tmp, ev_const, ev_func, wanted_none, wanted_some, callR_func, dop, ex_some1, aBuiltin, aBin, intBin, aUn, Option.map_some, Bool.and_true, Bool.true_and, Bool.and_self, true_and, and_true, List.map_cons, List.map_nil, List.toList_toArray, List.getElem?_toArray, List.getElem?_cons_zero, List.getElem?_cons_succ, Option.getD_some, Option.getD_none, if_true, if_false, Bool.false_eq_true, eq_self_iff_true, reduceIte, Nat.reduceLT, Nat.reduceEqDiff, decide_true, decide_false, List.cons_append, aExtract, bodyR_ret, bodyR_normal, resL, resV, List.getD_cons_zero, List.getD_cons_succ, List.getD_nil, Nat.succ_ne_self, reduceCtorEq, hn, hd, h0, h1, hne]
    exact ⟨hsub, .inl ⟨hc, rfl⟩⟩

end Go.Ab.S1
