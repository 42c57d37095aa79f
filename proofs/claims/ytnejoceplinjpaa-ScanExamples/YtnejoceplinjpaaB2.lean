/- The orders in which the operations of the regions that draw are taken: data, written by a program of ours. The types of the seat; netlabref20.EqBools on the abstract heap. DERIVED: THE SHELF's CONTRACTS AT THIS DUMP, IN PLAIN WORDS (tools/lay-plain.mjs out of 'TrySortShelf.lean', which tools/lay-shelf.mjs wrote): THE SAME DECLARATIONS UNDER THE SAME NAMES: 'import', 'namespace', 'open', 'def', 'theorem' AND NOTHING ELSE: no command of the shelf's: FOR A HAND-IN. Each laying: the table of numbers ('.._ren') and one theorem, a field a fact of the dump's own or the kernel's comparison; each contract: ONE APPLICATION. Own layer 'Ab': the library's sort of a slice of integers. slices.Clone at []int, scan.permutation and scan.chain on the abstract heap. Permutations, plainly; scan.chain, scan.Load and scan.Unload on the abstract heap. Own layer 'Ab': a row's arguments, as the abstract heap holds them. Own layer 'Ab': rules for a walk whose side conditions are reckoned: guards, loops, slices read, numbers in range, appends. Own layer 'Ab': rows of elements of several cells, local variables of struct types, bytes of strings, read. Own layer 'Ab': operations shown by what the model does; capacities; a row that may grow, laid open. Own layer 'Ab': slices that are inserted into; blocks that are one's own, by their roles. Own layer 'Ab': parts of slices and copies of one-cell elements; an append of zeros. Own layer 'Ab': a drawn region with two ways at one place. Own layer 'Ab': slices of one's own whose elements take several cells. Own layer 'Ab': a drawn region by a plan with any branches; an append of several elements. Permutations by marks; netlabref21.Order, netlabref31.chain on the abstract heap. Netlists as data; table.limited, .Mask, .Valid; cell.validName and cell.check on the abstract heap. Looking for an element; cell.check and cell.Check on the abstract heap. cell.Check on the abstract heap. -/
import Derived.Test.YtnejoceplinjpaaB1
import Derived.Test.YtnejoceplinjpaaProg
import Derived.KernelRfl
import Derived.IntWalk
import Derived.Shelf.SortM.Plain
import Derived.Shelf.SortM.SortNone
import Derived.Ground.SlgmProg
import Derived.Sort.Row
import Derived.Sort.Grow
import Derived.ProofKit
import Derived.Carry
import Derived.Lib.Overlaps
import Derived.Laws.Strings
set_option linter.unusedSimpArgs false
set_option linter.unusedVariables false
namespace Go.Ab
def s1plans : List (Nat × Nat × Plan) := [
  (15, 18, (.take 0 [17, 16, 15, 14] (.take 1 [17, 16, 15, 14] (.take 2 [17, 16] (.take 3 [17, 16] (.take 4 [17, 16, 15, 14, 8, 7, 6] (.take 5 [17, 16, 15, 14, 8, 7, 6] (.take 6 [17, 16, 15, 14, 8, 7] (.take 7 [17, 16, 15, 14, 8] (.take 8 [17, 16, 15, 14] (.take 9 [17, 16, 15, 14, 13, 12, 11] (.take 10 [17, 16, 15, 14, 13, 12, 11] (.take 11 [17, 16, 15, 14, 13, 12] (.take 12 [17, 16, 15, 14, 13] (.take 13 [17, 16] (.take 14 [17, 16, 15] (.only 15 (.take 16 [17] (.only 17 .done))))))))))))))))))),
  (8, 27, (.take 0 [26, 25, 24, 23, 22, 21, 20, 19, 18, 17, 16, 15, 14, 13, 12, 11, 10, 9, 8, 7, 6, 5, 4, 3, 2, 1] (.take 1 [26, 25, 24, 23, 22, 21, 20, 19, 18, 17, 16, 15, 14, 13, 12, 11, 10, 9, 8, 7, 6, 5, 4, 3, 2] (.take 2 [26, 25, 24, 23, 22, 21, 20, 19, 18, 17, 16, 15, 14, 13, 12, 11, 10, 9, 8, 7, 6, 5, 4, 3] (.take 3 [26, 25, 24, 23, 22, 21, 20, 19, 18, 17, 16, 15, 14, 13, 12, 11, 10, 9, 8, 7, 6, 5, 4] (.take 4 [26, 25, 24, 23, 22, 21, 20, 19, 18, 17, 16, 15, 14, 13, 12, 11, 10, 9, 8, 7, 6, 5] (.take 5 [26, 25, 24, 23, 22, 21, 20, 19, 18, 17, 16, 15, 14, 13, 12, 11, 10, 9, 8, 7, 6] (.take 6 [26, 25, 24, 23, 22, 21, 20, 19, 18, 17, 16, 15, 14, 13, 12, 11, 10, 9, 8, 7] (.take 7 [26, 25, 24, 23, 22, 21, 20, 19, 18, 17, 9, 8] (.take 8 [26, 25, 24, 23, 22, 21, 20, 19, 18, 17, 9] (.take 9 [26, 25, 24, 23, 22, 21, 20, 19, 18, 17] (.take 10 [26, 25, 24, 23, 22, 21, 20, 19, 18, 17, 16, 12, 11] (.take 11 [26, 25, 24, 23, 22, 21, 20, 19, 18, 17, 16, 12] (.take 12 [26, 25, 24, 23, 22, 21, 20, 19, 18, 17, 16] (.take 13 [26, 25, 24, 23, 22, 21, 20, 19, 18, 17, 16, 15, 14] (.take 14 [26, 25, 24, 23, 22, 21, 20, 19, 18, 17, 16, 15] (.take 15 [26, 25, 24, 23, 22, 21, 20, 19, 18, 17, 16] (.take 16 [26, 25, 24, 23, 22, 21, 20, 19, 18, 17] (.take 17 [26, 25, 24, 23, 22, 21, 20, 19, 18] (.take 18 [26, 25, 24, 23, 22, 21, 20, 19] (.take 19 [26, 25, 24, 23, 22, 21, 20] (.take 20 [26, 25, 24, 23, 21] (.watch 22 [26, 25, 24, 23] (.only 21 (.only 23 (.only 24 (.take 25 [26] (.take 26 [] .done)))))))))))))))))))))))))))),
  (13, 26, (.take 0 [25, 24, 23, 22, 21, 20, 19, 18, 17, 16, 15, 14, 13, 12, 11, 10, 9, 8, 7, 6, 5, 4, 3, 2, 1] (.take 1 [25, 24, 23, 22, 21, 20, 19, 18, 17, 16, 15, 14, 13, 12, 11, 10, 9, 8, 7, 6, 5, 4, 3, 2] (.take 2 [25, 24, 23, 22, 21, 20, 19, 18, 17, 16, 15, 14, 13, 12, 11, 10, 9, 8, 7, 6, 5, 4, 3] (.take 3 [25, 24, 23, 22, 21, 20, 19, 18, 17, 16, 15, 14, 13, 12, 11, 10, 9, 8, 7] (.take 4 [25, 24, 23, 22, 21, 20, 19, 18, 17, 16, 15, 14, 13, 12, 11, 10, 9, 8, 7, 6, 5] (.take 5 [25, 24, 23, 22, 21, 20, 19, 18, 17, 16, 15, 14, 13, 12, 11, 10, 9, 8, 7, 6] (.take 6 [25, 24, 23, 22, 21, 20, 19, 18, 17, 16, 15, 14, 13, 12, 11, 10, 9, 8, 7] (.take 7 [25, 24, 23, 22, 21, 20, 19, 18, 17, 16, 15, 14, 13, 12, 11, 10, 9, 8] (.take 8 [25, 24, 23, 22, 21, 20, 19, 18, 17, 16, 15, 14, 13, 12, 11, 10, 9] (.take 9 [25, 24, 23, 22, 21, 20, 19, 18, 17, 16, 15, 14, 13, 12, 11, 10] (.take 10 [25, 24, 23] (.take 11 [25, 24, 23, 22] (.take 12 [25, 24, 23, 22, 21, 14, 13] (.take 13 [25, 24, 23, 22, 21, 14] (.take 14 [25, 24, 23, 22, 21] (.take 15 [25, 24, 23, 22, 21, 20, 19, 18, 16] (.take 16 [25, 24, 23, 22, 21, 20, 19, 18] (.take 17 [25, 24, 23, 22, 21, 20, 19, 18] (.take 18 [25, 24, 23, 22, 21, 20, 19] (.take 19 [25, 24, 23, 22, 21, 20] (.take 20 [25, 24, 23, 22, 21] (.take 21 [25, 24, 23, 22] (.take 22 [25, 24, 23] (.take 23 [25, 24] (.take 24 [25] (.take 25 [] .done))))))))))))))))))))))))))),
  (8, 15, (.take 0 [14, 13] (.take 1 [14, 13, 8, 7] (.take 2 [14, 13, 8, 7, 6, 4, 3] (.take 3 [14, 13, 8, 7, 6, 4] (.take 4 [14, 13, 8, 7, 6] (.take 5 [14, 13, 8, 7, 6] (.take 6 [14, 13, 8, 7] (.take 7 [14, 13, 8] (.take 8 [14, 13] (.take 9 [14, 13, 12, 11] (.take 10 [14, 13, 12, 11] (.take 11 [14, 13, 12] (.take 12 [14, 13] (.take 13 [14] (.only 14 .done)))))))))))))))),
  (6, 9, (.take 0 [8, 3, 2] (.take 1 [8, 3, 2] (.take 2 [8, 3] (.take 3 [8] (.take 4 [8, 7, 6] (.take 5 [8, 7, 6] (.take 6 [8, 7] (.take 7 [8] (.take 8 [] .done)))))))))),
  (2, 11, (.take 0 [10, 9, 8, 7, 6, 5, 4, 3, 2, 1] (.take 1 [10, 9, 8, 7, 6, 5, 4, 3, 2] (.take 2 [10, 9, 8, 7, 6, 5, 4, 3] (.take 3 [10, 9, 5, 4] (.take 6 [10, 9, 8, 7] (.watch 7 [10, 9, 8] (.watch 8 [10, 9] (.only 4 (.take 5 [10, 9] (.take 9 [10] (.take 10 [] .done)))))))))))),
  (10, 7, (.take 0 [6, 5, 1] (.take 1 [6, 5] (.take 2 [6, 4, 3] (.take 3 [6, 4] (.take 4 [6] (.take 5 [6] (.take 6 [] .done)))))))),
  (11, 13, (.take 0 [12, 10, 2, 1] (.take 3 [12, 10, 9, 5, 4] (.take 4 [12, 10, 9, 5] (.take 6 [12, 10, 9] (.take 7 [12, 10, 9, 8] (.watch 1 [12, 10, 2] (.take 2 [12, 10] (.watch 8 [12, 10, 9] (.two 5 (.two 9 (.take 10 [12] (.only 11 (.only 12 .done))) 11 (.only 9 (.take 10 [12] (.only 12 .done)))) 11 (.only 5 (.only 9 (.take 10 [12] (.only 12 .done)))))))))))))),
  (21, 13, (.take 0 [12, 11, 10, 1] (.take 2 [12, 11, 10, 9, 8, 3] (.take 4 [12, 11, 10, 9, 8, 7] (.take 5 [12, 11, 10, 9, 8, 7, 6] (.take 6 [12, 11, 10, 9, 8, 7] (.watch 1 [12, 11, 10] (.watch 3 [12, 11, 10, 9, 8] (.only 7 (.take 8 [12, 11, 10, 9] (.only 9 (.only 10 (.take 11 [12] (.only 12 .done)))))))))))))),
  (34, 12, (.take 0 [11, 10, 9, 1] (.take 1 [11, 10, 9] (.take 2 [11, 10, 9, 8, 7, 5, 4, 3] (.take 3 [11, 10, 9, 8, 7, 5, 4] (.take 4 [11, 10, 9, 8, 7, 5] (.take 5 [11, 10, 9, 8, 7] (.take 6 [11, 10, 9, 8, 7] (.take 7 [11, 10, 9, 8] (.only 8 (.only 9 (.take 10 [11] (.only 11 .done))))))))))))),
  (6, 11, (.take 0 [10, 4, 3, 1] (.take 1 [10, 4, 3] (.take 2 [10, 4, 3] (.take 3 [10, 4] (.take 4 [10] (.take 5 [10, 9, 8, 6] (.take 6 [10, 9, 8] (.take 7 [10, 9, 8] (.take 8 [10, 9] (.take 9 [10] (.take 10 [] .done)))))))))))),
  (11, 29, (.take 0 [28, 27, 26, 25, 24, 23, 22, 21, 20, 19, 18, 17, 16, 15, 14, 13, 12, 5, 4, 3, 1] (.take 1 [28, 27, 26, 25, 24, 23, 22, 21, 20, 19, 18, 17, 16, 15, 14, 13, 12, 5, 4, 3] (.take 2 [28, 27, 26, 25, 24, 23, 22, 21, 20, 19, 18, 17, 16, 15, 14, 13, 12, 5, 4, 3] (.take 3 [28, 27, 26, 25, 24, 23, 22, 21, 20, 19, 18, 17, 16, 15, 14, 13, 12, 5, 4] (.take 4 [28, 27, 26, 25, 24, 23, 22, 21, 20, 19, 18, 17, 16, 15, 14, 13, 12, 5] (.take 5 [28, 27, 26, 25, 24, 23, 22, 21, 20, 19, 18, 17, 16, 15, 14, 13, 12] (.take 6 [28, 27, 26, 25, 24, 23, 22, 21, 20, 19, 18, 17, 16, 15, 14, 13, 12, 11, 10, 9, 7] (.take 7 [28, 27, 26, 25, 24, 23, 22, 21, 20, 19, 18, 17, 16, 15, 14, 13, 12, 11, 10, 9] (.take 8 [28, 27, 26, 25, 24, 23, 22, 21, 20, 19, 18, 17, 16, 15, 14, 13, 12, 11, 10, 9] (.take 9 [28, 27, 26, 25, 24, 23, 22, 21, 20, 19, 18, 17, 16, 15, 14, 13, 12, 11, 10] (.take 10 [28, 27, 26, 25, 24, 23, 22, 21, 20, 19, 18, 17, 16, 15, 14, 13, 12, 11] (.take 11 [28, 27, 26, 25, 24, 23, 22, 21, 20, 19, 18, 17, 16, 15, 14, 13, 12] (.take 12 [28, 27, 26, 25, 24, 23, 22, 21, 20, 19, 18, 17, 16, 15, 14, 13] (.take 13 [28, 27, 26, 25, 24, 23, 22, 21, 20, 19, 18, 17, 16, 15, 14] (.take 14 [28, 27, 26, 19, 18, 17, 15] (.take 15 [28, 27, 26, 19, 18, 17] (.take 16 [28, 27, 26, 19, 18, 17] (.take 17 [28, 27, 26, 19, 18] (.take 18 [28, 27, 26, 19] (.take 19 [28, 27, 26] (.take 20 [28, 27, 26, 25, 24, 23, 21] (.take 21 [28, 27, 26, 25, 24, 23] (.take 22 [28, 27, 26, 25, 24, 23] (.take 23 [28, 27, 26, 25, 24] (.take 24 [28, 27, 26, 25] (.take 25 [28, 27, 26] (.only 26 (.take 27 [28] (.take 28 [] .done)))))))))))))))))))))))))))))),
  (6, 10, (.take 0 [9, 8, 3, 2] (.take 1 [9, 8, 3, 2] (.take 2 [9, 8, 3] (.take 3 [9, 8] (.take 4 [9, 8, 7, 6] (.take 5 [9, 8, 7, 6] (.take 6 [9, 8, 7] (.take 7 [9, 8] (.only 8 (.take 9 [] .done))))))))))),
  (13, 11, (.take 0 [10, 2, 1] (.take 1 [10, 2] (.take 2 [10] (.take 3 [10, 9, 8, 7, 4] (.take 4 [10, 9, 8, 7] (.take 5 [10, 9, 8, 7, 6] (.take 6 [10, 9, 8, 7] (.take 7 [10, 9, 8] (.take 8 [10, 9] (.take 9 [10] (.take 10 [] .done)))))))))))),
  (6, 12, (.take 0 [11, 10, 3, 2] (.take 1 [11, 10, 3, 2] (.take 2 [11, 10, 3] (.take 3 [11, 10] (.take 4 [11, 7, 6] (.take 5 [11, 7, 6] (.take 6 [11, 7] (.watch 7 [11] (.two 8 (.only 9 (.only 10 (.only 11 .done))) 9 (.only 8 (.only 10 (.only 11 .done))))))))))))),
  (12, 11, (.take 0 [10, 4, 3, 1] (.take 1 [10, 4, 3] (.take 2 [10, 4, 3] (.take 3 [10, 4] (.take 4 [10] (.take 5 [10, 9, 8, 6] (.take 6 [10, 9, 8] (.take 7 [10, 9, 8] (.take 8 [10, 9] (.take 9 [10] (.take 10 [] .done)))))))))))),
  (10, 11, (.take 0 [10, 4, 3, 2] (.take 1 [10, 4, 3, 2] (.take 2 [10, 4, 3] (.take 3 [10, 4] (.take 4 [10] (.take 5 [10, 9, 8, 7] (.take 6 [10, 9, 8, 7] (.take 7 [10, 9, 8] (.take 8 [10, 9] (.take 9 [10] (.take 10 [] .done)))))))))))),
  (4, 10, (.take 0 [9, 8, 3, 2, 1] (.take 1 [9, 8, 3, 2] (.take 2 [9, 8, 3] (.take 4 [9, 7, 6, 5] (.take 5 [9, 7, 6] (.take 6 [9, 7] (.two 3 (.take 8 [9] (.only 7 (.take 9 [] .done))) 7 (.only 3 (.take 8 [9] (.take 9 [] .done))))))))))),
  (3, 4, (.take 0 [3] (.take 1 [3, 2] (.only 2 (.only 3 .done))))),
  (2, 5, (.take 1 [4, 3, 2] (.watch 0 [4, 3] (.only 2 (.only 3 (.take 4 [] .done)))))),
  (6, 13, (.take 0 [12, 11, 10, 9, 8, 7, 6, 5, 4, 3, 2] (.take 1 [12, 11, 10, 9, 8, 7, 6, 5, 4, 3, 2] (.only 2 (.take 3 [12, 11, 10, 9, 8, 7, 6, 5, 4] (.take 4 [12, 11, 10, 9, 8, 7, 6, 5] (.take 6 [12, 11, 10, 9] (.take 7 [12, 11, 10, 9, 8] (.watch 5 [12, 11, 10] (.only 8 (.only 9 (.only 10 (.take 11 [12] (.take 12 [] .done)))))))))))))),
  (13, 12, (.take 0 [11, 10, 2, 1] (.take 1 [11, 10, 2] (.take 2 [11, 10] (.take 3 [11, 10, 9, 8, 7, 4] (.take 4 [11, 10, 9, 8, 7] (.take 5 [11, 10, 9, 8, 7, 6] (.take 6 [11, 10, 9, 8, 7] (.take 7 [11, 10, 9, 8] (.take 8 [11, 10, 9] (.take 9 [11, 10] (.take 10 [11] (.take 11 [] .done))))))))))))),
  (15, 6, (.take 0 [5, 4, 1] (.take 2 [5, 4, 3] (.watch 1 [5, 4] (.only 3 (.only 4 (.take 5 [] .done))))))),
  (21, 10, (.take 0 [9, 8, 7, 6, 5, 4, 1] (.take 2 [9, 8, 7, 6, 5, 4, 3] (.watch 3 [9, 8, 7, 6, 5, 4] (.only 1 (.only 4 (.take 5 [9, 8, 7, 6] (.take 6 [9, 8, 7] (.take 7 [9, 8] (.take 8 [9] (.take 9 [] .done))))))))))),
  (24, 5, (.take 0 [4, 1] (.take 2 [4, 3] (.watch 1 [4] (.only 3 (.only 4 .done)))))),
  (17, 15, (.take 0 [14, 13, 12, 11, 10, 9, 8, 7, 6, 5, 4, 3, 2, 1] (.take 1 [14, 13, 12, 11, 10, 9, 8, 7, 6, 5, 4, 3, 2] (.take 2 [14, 13, 12, 11, 10, 9, 8, 7, 6, 5, 4, 3] (.take 3 [14, 13, 12, 7, 6] (.take 4 [14, 13, 12, 7, 6, 5] (.take 5 [14, 13, 12, 7, 6] (.take 6 [14, 13, 12, 7] (.take 7 [14, 13, 12] (.take 8 [14, 13, 12, 11, 10] (.take 9 [14, 13, 12, 11, 10] (.take 10 [14, 13, 12, 11] (.take 11 [14, 13, 12] (.only 12 (.take 13 [14] (.take 14 [] .done)))))))))))))))),
  (11, 9, (.take 0 [8, 4] (.take 1 [8, 4, 3] (.take 2 [8, 4, 3] (.take 3 [8, 4] (.take 4 [8] (.take 5 [8, 7] (.take 6 [8, 7] (.take 7 [8] (.only 8 .done)))))))))),
  (15, 9, (.take 0 [8, 4] (.take 1 [8, 4, 3] (.take 2 [8, 4, 3] (.take 3 [8, 4] (.take 4 [8] (.take 5 [8, 7] (.take 6 [8, 7] (.take 7 [8] (.only 8 .done)))))))))),
  (4, 15, (.take 0 [14, 13, 12, 11, 10, 9, 8, 7, 6, 5, 4, 3, 2] (.take 1 [14, 13, 12, 11, 10, 9, 8, 7, 6, 5, 4, 3, 2] (.take 2 [14, 13, 12, 11, 10, 9, 8, 7, 6, 5, 4, 3] (.take 3 [14, 13, 12, 11, 10, 9, 8, 7, 6, 5, 4] (.take 4 [14, 13, 7, 6] (.take 5 [14, 13, 7, 6] (.take 6 [14, 13, 7] (.take 7 [14, 13] (.take 8 [14, 13, 12, 11] (.take 9 [14, 13, 12, 11, 10] (.take 10 [14, 13, 12, 11] (.take 11 [14, 13, 12] (.take 12 [14, 13] (.only 13 (.take 14 [] .done)))))))))))))))),
  (6, 18, (.take 0 [17, 16, 15, 14] (.take 1 [17, 16, 15, 14] (.take 2 [17, 16] (.take 3 [17, 16, 4] (.take 4 [17, 16] (.take 5 [17, 16, 15, 14, 9, 8] (.take 6 [17, 16, 15, 14, 9, 8, 7] (.take 7 [17, 16, 15, 14, 9, 8] (.take 8 [17, 16, 15, 14, 9] (.take 9 [17, 16, 15, 14] (.take 10 [17, 16, 15, 14, 13, 12] (.take 11 [17, 16, 15, 14, 13, 12] (.take 12 [17, 16, 15, 14, 13] (.take 13 [17, 16, 15, 14] (.take 14 [17, 16, 15] (.only 15 (.take 16 [17] (.only 17 .done))))))))))))))))))),
  (10, 20, (.take 0 [19, 18, 17, 16] (.take 1 [19, 18, 17, 16] (.take 2 [19, 18] (.take 3 [19, 18, 5] (.take 4 [19, 18, 5] (.take 5 [19, 18] (.take 6 [19, 18, 17, 16, 11, 10] (.take 7 [19, 18, 17, 16, 11, 10, 9] (.take 8 [19, 18, 17, 16, 11, 10, 9] (.take 9 [19, 18, 17, 16, 11, 10] (.take 10 [19, 18, 17, 16, 11] (.take 11 [19, 18, 17, 16] (.take 12 [19, 18, 17, 16, 15, 14] (.take 13 [19, 18, 17, 16, 15, 14] (.take 14 [19, 18, 17, 16, 15] (.take 15 [19, 18, 17, 16] (.take 16 [19, 18, 17] (.only 17 (.take 18 [19] (.only 19 .done))))))))))))))))))))),
  (3, 16, (.take 0 [15, 14, 13, 12] (.take 1 [15, 14, 13, 12] (.take 2 [15, 14] (.take 3 [15, 14] (.take 4 [15, 14, 13, 12, 7, 6] (.take 5 [15, 14, 13, 12, 7, 6] (.take 6 [15, 14, 13, 12, 7] (.take 7 [15, 14, 13, 12] (.take 8 [15, 14, 13, 12, 11, 10] (.take 9 [15, 14, 13, 12, 11, 10] (.take 10 [15, 14, 13, 12, 11] (.take 11 [15, 14, 13, 12] (.take 12 [15, 14, 13] (.only 13 (.take 14 [15] (.only 15 .done))))))))))))))))),
  (5, 16, (.take 0 [15, 14, 13, 12, 11, 10, 9, 8, 7, 6, 5, 4, 3, 2] (.take 1 [15, 14, 13, 12, 11, 10, 9, 8, 7, 6, 5, 4, 3, 2] (.take 2 [15, 14, 13, 12, 11, 10, 9, 8, 7, 6, 5, 4, 3] (.take 3 [15, 14, 13, 12, 11, 10, 9, 8, 7, 6, 5, 4] (.take 4 [15, 14, 13, 7, 6] (.take 5 [15, 14, 13, 7, 6] (.take 6 [15, 14, 13, 7] (.take 7 [15, 14, 13] (.take 8 [15, 14, 13, 12, 11] (.take 9 [15, 14, 13, 12, 11, 10] (.take 10 [15, 14, 13, 12, 11] (.take 11 [15, 14, 13, 12] (.take 12 [15, 14, 13] (.only 13 (.take 14 [15] (.take 15 [] .done))))))))))))))))),
  (11, 18, (.take 0 [17, 16, 15, 14] (.take 1 [17, 16, 15, 14] (.take 2 [17, 16] (.take 3 [17, 16, 4] (.take 4 [17, 16] (.take 5 [17, 16, 15, 14, 9, 8] (.take 6 [17, 16, 15, 14, 9, 8, 7] (.take 7 [17, 16, 15, 14, 9, 8] (.take 8 [17, 16, 15, 14, 9] (.take 9 [17, 16, 15, 14] (.take 10 [17, 16, 15, 14, 13, 12] (.take 11 [17, 16, 15, 14, 13, 12] (.take 12 [17, 16, 15, 14, 13] (.take 13 [17, 16, 15, 14] (.take 14 [17, 16, 15] (.only 15 (.take 16 [17] (.only 17 .done))))))))))))))))))),
  (16, 11, (.take 0 [10, 9, 3, 2] (.take 1 [10, 9, 3, 2] (.take 2 [10, 9, 3] (.take 3 [10, 9] (.take 4 [10, 9, 8, 7] (.take 5 [10, 9, 8, 7, 6] (.take 6 [10, 9, 8, 7] (.take 7 [10, 9, 8] (.take 8 [10, 9] (.only 9 (.take 10 [] .done)))))))))))),
  (17, 18, (.take 0 [17, 16, 15, 14] (.take 1 [17, 16, 15, 14] (.take 2 [17, 16] (.take 3 [17, 16, 4] (.take 4 [17, 16] (.take 5 [17, 16, 15, 14, 9, 8] (.take 6 [17, 16, 15, 14, 9, 8, 7] (.take 7 [17, 16, 15, 14, 9, 8] (.take 8 [17, 16, 15, 14, 9] (.take 9 [17, 16, 15, 14] (.take 10 [17, 16, 15, 14, 13, 12] (.take 11 [17, 16, 15, 14, 13, 12] (.take 12 [17, 16, 15, 14, 13] (.take 13 [17, 16, 15, 14] (.take 14 [17, 16, 15] (.only 15 (.take 16 [17] (.only 17 .done))))))))))))))))))),
  (22, 11, (.take 0 [10, 9, 3, 2] (.take 1 [10, 9, 3, 2] (.take 2 [10, 9, 3] (.take 3 [10, 9] (.take 4 [10, 9, 8, 7] (.take 5 [10, 9, 8, 7, 6] (.take 6 [10, 9, 8, 7] (.take 7 [10, 9, 8] (.take 8 [10, 9] (.only 9 (.take 10 [] .done)))))))))))),
  (23, 18, (.take 0 [17, 16, 15, 14] (.take 1 [17, 16, 15, 14] (.take 2 [17, 16] (.take 3 [17, 16, 4] (.take 4 [17, 16] (.take 5 [17, 16, 15, 14, 9, 8] (.take 6 [17, 16, 15, 14, 9, 8, 7] (.take 7 [17, 16, 15, 14, 9, 8] (.take 8 [17, 16, 15, 14, 9] (.take 9 [17, 16, 15, 14] (.take 10 [17, 16, 15, 14, 13, 12] (.take 11 [17, 16, 15, 14, 13, 12] (.take 12 [17, 16, 15, 14, 13] (.take 13 [17, 16, 15, 14] (.take 14 [17, 16, 15] (.only 15 (.take 16 [17] (.only 17 .done))))))))))))))))))),
  (1, 16, (.take 0 [15, 14, 13, 12] (.take 1 [15, 14, 13, 12] (.take 2 [15, 14] (.take 3 [15, 14] (.take 4 [15, 14, 13, 12, 7, 6] (.take 5 [15, 14, 13, 12, 7, 6] (.take 6 [15, 14, 13, 12, 7] (.take 7 [15, 14, 13, 12] (.take 8 [15, 14, 13, 12, 11, 10] (.take 9 [15, 14, 13, 12, 11, 10] (.take 10 [15, 14, 13, 12, 11] (.take 11 [15, 14, 13, 12] (.take 12 [15, 14, 13] (.only 13 (.take 14 [15] (.only 15 .done))))))))))))))))),
  (3, 15, (.take 0 [14, 13, 12, 11, 10, 9, 8, 7, 6, 5, 4, 3, 2] (.take 1 [14, 13, 12, 11, 10, 9, 8, 7, 6, 5, 4, 3, 2] (.take 2 [14, 13, 12, 11, 10, 9, 8, 7, 6, 5, 4, 3] (.take 3 [14, 13, 12, 11, 10, 9, 8, 7, 6, 5, 4] (.take 4 [14, 13, 12, 7, 6] (.take 5 [14, 13, 12, 7, 6] (.take 6 [14, 13, 12, 7] (.take 7 [14, 13, 12] (.take 8 [14, 13, 12, 11, 10] (.take 9 [14, 13, 12, 11, 10] (.take 10 [14, 13, 12, 11] (.take 11 [14, 13, 12] (.only 12 (.take 13 [14] (.take 14 [] .done)))))))))))))))),
  (5, 14, (.take 0 [13, 12, 11, 10, 9, 8, 7, 6, 5, 4, 3, 2] (.take 1 [13, 12, 11, 10, 9, 8, 7, 6, 5, 4, 3, 2] (.take 2 [13, 12, 11, 10, 9, 8, 7, 6, 5, 4, 3] (.take 3 [13, 12, 11, 10, 9, 8, 7, 6, 5, 4] (.take 4 [13, 12, 7, 6] (.take 5 [13, 12, 7, 6] (.take 6 [13, 12, 7] (.take 7 [13, 12] (.take 8 [13, 12, 11, 10] (.take 9 [13, 12, 11, 10] (.take 10 [13, 12, 11] (.take 11 [13, 12] (.only 12 (.take 13 [] .done))))))))))))))),
  (8, 16, (.take 0 [15, 14, 13, 12] (.take 1 [15, 14, 13, 12] (.take 2 [15, 14] (.take 3 [15, 14] (.take 4 [15, 14, 13, 12, 7, 6] (.take 5 [15, 14, 13, 12, 7, 6] (.take 6 [15, 14, 13, 12, 7] (.take 7 [15, 14, 13, 12] (.take 8 [15, 14, 13, 12, 11, 10] (.take 9 [15, 14, 13, 12, 11, 10] (.take 10 [15, 14, 13, 12, 11] (.take 11 [15, 14, 13, 12] (.take 12 [15, 14, 13] (.only 13 (.take 14 [15] (.only 15 .done))))))))))))))))),
  (3, 14, (.take 0 [13, 12, 11, 10, 9, 8, 7, 6, 5, 4, 3, 2] (.take 1 [13, 12, 11, 10, 9, 8, 7, 6, 5, 4, 3, 2] (.take 2 [13, 12, 11, 10, 9, 8, 7, 6, 5, 4, 3] (.take 3 [13, 12, 11, 10, 9, 8, 7, 6, 5, 4] (.take 4 [13, 12, 7, 6] (.take 5 [13, 12, 7, 6] (.take 6 [13, 12, 7] (.take 7 [13, 12] (.take 8 [13, 12, 11, 10] (.take 9 [13, 12, 11, 10] (.take 10 [13, 12, 11] (.take 11 [13, 12] (.only 12 (.take 13 [] .done))))))))))))))),
  (5, 15, (.take 0 [14, 13, 12, 11, 10, 9, 8, 7, 6, 5, 4, 3, 2] (.take 1 [14, 13, 12, 11, 10, 9, 8, 7, 6, 5, 4, 3, 2] (.take 2 [14, 13, 12, 11, 10, 9, 8, 7, 6, 5, 4, 3] (.take 3 [14, 13, 12, 11, 10, 9, 8, 7, 6, 5, 4] (.take 4 [14, 13, 12, 7, 6] (.take 5 [14, 13, 12, 7, 6] (.take 6 [14, 13, 12, 7] (.take 7 [14, 13, 12] (.take 8 [14, 13, 12, 11, 10] (.take 9 [14, 13, 12, 11, 10] (.take 10 [14, 13, 12, 11] (.take 11 [14, 13, 12] (.only 12 (.take 13 [14] (.take 14 [] .done)))))))))))))))),
  (10, 16, (.take 0 [15, 14, 13, 12] (.take 1 [15, 14, 13, 12] (.take 2 [15, 14] (.take 3 [15, 14] (.take 4 [15, 14, 13, 12, 7, 6] (.take 5 [15, 14, 13, 12, 7, 6] (.take 6 [15, 14, 13, 12, 7] (.take 7 [15, 14, 13, 12] (.take 8 [15, 14, 13, 12, 11, 10] (.take 9 [15, 14, 13, 12, 11, 10] (.take 10 [15, 14, 13, 12, 11] (.take 11 [15, 14, 13, 12] (.take 12 [15, 14, 13] (.only 13 (.take 14 [15] (.only 15 .done))))))))))))))))),
  (13, 14, (.take 0 [13, 12, 11, 10, 9, 8, 7, 6, 5, 4, 3, 2] (.take 1 [13, 12, 11, 10, 9, 8, 7, 6, 5, 4, 3, 2] (.take 2 [13, 12, 11, 10, 9, 8, 7, 6, 5, 4, 3] (.take 3 [13, 12, 11, 10, 9, 8, 7, 6, 5, 4] (.take 4 [13, 12, 7, 6] (.take 5 [13, 12, 7, 6] (.take 6 [13, 12, 7] (.take 7 [13, 12] (.take 8 [13, 12, 11, 10] (.take 9 [13, 12, 11, 10] (.take 10 [13, 12, 11] (.take 11 [13, 12] (.only 12 (.take 13 [] .done))))))))))))))),
  (15, 15, (.take 0 [14, 13, 12, 11, 10, 9, 8, 7, 6, 5, 4, 3, 2] (.take 1 [14, 13, 12, 11, 10, 9, 8, 7, 6, 5, 4, 3, 2] (.take 2 [14, 13, 12, 11, 10, 9, 8, 7, 6, 5, 4, 3] (.take 3 [14, 13, 12, 11, 10, 9, 8, 7, 6, 5, 4] (.take 4 [14, 13, 12, 7, 6] (.take 5 [14, 13, 12, 7, 6] (.take 6 [14, 13, 12, 7] (.take 7 [14, 13, 12] (.take 8 [14, 13, 12, 11, 10] (.take 9 [14, 13, 12, 11, 10] (.take 10 [14, 13, 12, 11] (.take 11 [14, 13, 12] (.only 12 (.take 13 [14] (.take 14 [] .done)))))))))))))))),
  (18, 16, (.take 0 [15, 14, 13, 12] (.take 1 [15, 14, 13, 12] (.take 2 [15, 14] (.take 3 [15, 14] (.take 4 [15, 14, 13, 12, 7, 6] (.take 5 [15, 14, 13, 12, 7, 6] (.take 6 [15, 14, 13, 12, 7] (.take 7 [15, 14, 13, 12] (.take 8 [15, 14, 13, 12, 11, 10] (.take 9 [15, 14, 13, 12, 11, 10] (.take 10 [15, 14, 13, 12, 11] (.take 11 [15, 14, 13, 12] (.take 12 [15, 14, 13] (.only 13 (.take 14 [15] (.only 15 .done))))))))))))))))),
  (21, 16, (.take 0 [15, 14, 13, 12] (.take 1 [15, 14, 13, 12] (.take 2 [15, 14] (.take 3 [15, 14] (.take 4 [15, 14, 13, 12, 7, 6] (.take 5 [15, 14, 13, 12, 7, 6] (.take 6 [15, 14, 13, 12, 7] (.take 7 [15, 14, 13, 12] (.take 8 [15, 14, 13, 12, 11, 10] (.take 9 [15, 14, 13, 12, 11, 10] (.take 10 [15, 14, 13, 12, 11] (.take 11 [15, 14, 13, 12] (.take 12 [15, 14, 13] (.only 13 (.take 14 [15] (.only 15 .done))))))))))))))))),
  (1, 13, (.take 0 [12, 11, 10, 9, 8, 7, 6, 5, 4, 3, 2, 1] (.take 1 [12, 11, 10, 9, 8, 7, 6, 5, 4, 3, 2] (.take 2 [12, 11, 10, 9, 8, 7, 6, 5, 4, 3] (.take 3 [12, 11, 10] (.take 4 [12, 11, 10, 9, 5] (.take 6 [12, 11, 10, 9, 8, 7] (.watch 7 [12, 11, 10, 9, 8] (.watch 8 [12, 11, 10, 9] (.only 5 (.take 9 [12, 11, 10] (.take 10 [12, 11] (.take 11 [12] (.take 12 [] .done)))))))))))))),
  (3, 20, (.take 0 [19, 18, 17, 16, 15, 14, 13, 12, 11, 10, 9, 8, 7, 6, 5, 4, 3, 1] (.take 1 [19, 18, 17, 16, 15, 14, 13, 12, 11, 10, 9, 8, 7, 6, 5, 4, 3] (.take 2 [19, 18, 17, 16, 15, 14, 13, 12, 11, 10, 9, 8, 7, 6, 5, 4, 3] (.take 3 [19, 18, 17, 16, 15, 14, 13, 12, 11, 10, 9, 8, 7, 6, 5, 4] (.take 4 [19, 18, 17, 16, 15, 14, 13, 12, 11, 10, 9, 8, 7, 6, 5] (.take 5 [19, 18, 10, 9] (.take 6 [19, 18, 10, 9, 8] (.take 7 [19, 18, 10, 9, 8] (.take 8 [19, 18, 10, 9] (.take 9 [19, 18, 10] (.take 10 [19, 18] (.take 11 [19, 18, 17, 16] (.take 12 [19, 18, 17, 16, 15, 14] (.take 13 [19, 18, 17, 16, 15, 14] (.take 14 [19, 18, 17, 16, 15] (.take 15 [19, 18, 17, 16] (.take 16 [19, 18, 17] (.take 17 [19, 18] (.only 18 (.take 19 [] .done))))))))))))))))))))),
  (5, 14, (.take 0 [13, 12, 5, 4] (.take 1 [13, 12, 5, 4, 3] (.take 2 [13, 12, 5, 4, 3] (.take 3 [13, 12, 5, 4] (.take 4 [13, 12, 5] (.take 5 [13, 12] (.take 6 [13, 12, 11, 10] (.take 7 [13, 12, 11, 10, 9] (.take 8 [13, 12, 11, 10, 9] (.take 9 [13, 12, 11, 10] (.take 10 [13, 12, 11] (.take 11 [13, 12] (.only 12 (.take 13 [] .done))))))))))))))),
  (6, 24, (.take 0 [23, 22, 21, 20] (.take 1 [23, 22, 21, 20, 3] (.take 2 [23, 22, 21, 20, 3] (.take 3 [23, 22, 21, 20] (.take 4 [23, 22] (.take 5 [23, 22, 7] (.take 6 [23, 22, 7] (.take 7 [23, 22] (.take 8 [23, 22, 21, 20, 13, 12] (.take 9 [23, 22, 21, 20, 13, 12, 11] (.take 10 [23, 22, 21, 20, 13, 12, 11] (.take 11 [23, 22, 21, 20, 13, 12] (.take 12 [23, 22, 21, 20, 13] (.take 13 [23, 22, 21, 20] (.take 14 [23, 22, 21, 20, 19, 18] (.take 15 [23, 22, 21, 20, 19, 18, 17] (.take 16 [23, 22, 21, 20, 19, 18, 17] (.take 17 [23, 22, 21, 20, 19, 18] (.take 18 [23, 22, 21, 20, 19] (.take 19 [23, 22, 21, 20] (.take 20 [23, 22, 21] (.only 21 (.take 22 [23] (.only 23 .done))))))))))))))))))))))))),
  (1, 10, (.take 0 [9, 8, 7, 2, 1] (.take 1 [9, 8, 7, 2] (.take 2 [9, 8, 7] (.take 3 [9, 8, 7, 6, 5, 4] (.take 4 [9, 8, 7, 6, 5] (.take 5 [9, 8, 7, 6] (.take 6 [9, 8, 7] (.take 7 [9, 8] (.take 8 [9] (.only 9 .done))))))))))),
  (2, 10, (.take 0 [9, 8, 7, 2, 1] (.take 1 [9, 8, 7, 2] (.take 2 [9, 8, 7] (.take 3 [9, 8, 7, 6, 5, 4] (.take 4 [9, 8, 7, 6, 5] (.take 5 [9, 8, 7, 6] (.take 6 [9, 8, 7] (.take 7 [9, 8] (.take 8 [9] (.only 9 .done))))))))))),
  (3, 10, (.take 0 [9, 8, 7, 2, 1] (.take 1 [9, 8, 7, 2] (.take 2 [9, 8, 7] (.take 3 [9, 8, 7, 6, 5, 4] (.take 4 [9, 8, 7, 6, 5] (.take 5 [9, 8, 7, 6] (.take 6 [9, 8, 7] (.take 7 [9, 8] (.take 8 [9] (.only 9 .done))))))))))),
  (1, 9, (.take 0 [8, 3, 2] (.take 1 [8, 3, 2] (.take 2 [8, 3] (.take 3 [8] (.take 4 [8, 7, 6] (.take 5 [8, 7, 6] (.take 6 [8, 7] (.take 7 [8] (.only 8 .done))))))))))]
end Go.Ab

set_option linter.unusedSimpArgs false
set_option linter.unusedVariables false
namespace Go.Ab.S1
open Go.Proofs

theorem mixed : Try.prog.follows .mixedOrders = true := by kernel_rfl
theorem info3 : ∃ i, Try.prog.info? 3 = some i ∧ i.size = 1 ∧ i.bytes = 8 ∧ i.zero = some (.int .i64 0) := ⟨(Try.prog.info? 3).get (by kernel_rfl), by kernel_rfl, by kernel_rfl, by kernel_rfl, by kernel_rfl⟩
theorem info4 : ∃ i, Try.prog.info? 4 = some i ∧ i.size = 1 ∧ i.bytes = 1 ∧ i.zero = some (.bool false) := ⟨(Try.prog.info? 4).get (by kernel_rfl), by kernel_rfl, by kernel_rfl, by kernel_rfl, by kernel_rfl⟩
theorem t22 : SlT Try.prog 22 3 8 (.int .i64 0) := ⟨Try.underlying22, info3, ⟨_, Try.underlying3, rfl⟩, rfl, rfl, rfl⟩
theorem t23 : SlT Try.prog 23 4 1 (.bool false) := ⟨Try.underlying23, info4, ⟨_, Try.underlying4, rfl⟩, rfl, rfl, rfl⟩
theorem sl22 : Sl1 Try.prog 22 3 := t22.sl1
theorem sl23 : Sl1 Try.prog 23 4 := t23.sl1

theorem eqBools {h : AH} {v1 v2 : Value} {xs ys : List Bool} (h1 : SlOf h v1 (xs.map .bool)) (h2 : SlOf h v2 (ys.map .bool)) (hbig : xs.length < 4611686018427387904) :
    ACall Try.prog 12 [v1, v2] h (fun v h' => v = .bool (decide (xs = ys)) ∧ h' = h) := by
  refine ACall.of_wp 26 [.tmp 4] Try.func12 rfl (by kernel_rfl) rfl rfl fun a hn hd ha => ?_
  have l1 := h1.len Try.underlying23
  have l2 := h2.len Try.underlying23
  have h0 := ha 0
  have h1' := ha 1
  simp only [List.getD_cons_zero, List.getD_cons_succ] at h0 h1'
  simp only [wpA_skip, wpA_ret, wpA_exit, wpA_seq, wpA_block, wpA_cond, wpA_region, wpA_draw, wpA_loop, thenQ_normal, thenQ_ret, thenQ_exit, blockQ_normal, blockQ_ret, blockQ_exit, condV_true, condV_false, opsM_nil, opsM_cons, seqM, okB, Keeps_nil, contK_app, List.zip_cons_cons, List.zip_nil_left, List.zip_nil_right, Op.operands, Call.operands, Array.toList_append, List.append_nil, List.nil_append, List.all_cons, List.all_nil, cOK, plain, put_n, put_tm, put_none, put_df, ev_tmp, ev_const, ev_func, wanted_none, wanted_some, callR_func, dop, ex_some1, aBuiltin, aBin, intBin, aUn, Option.map_some, Bool.and_true, Bool.true_and, Bool.and_self, true_and, and_true, List.map_cons, List.map_nil, List.toList_toArray, List.getElem?_toArray, List.getElem?_cons_zero, List.getElem?_cons_succ, Option.getD_some, Option.getD_none, if_true, if_false, Bool.false_eq_true, eq_self_iff_true, reduceIte, Nat.reduceLT, Nat.reduceEqDiff, decide_true, decide_false, List.cons_append, aExtract, bodyR_ret, bodyR_normal, resL, resV, List.getD_cons_zero, List.getD_cons_succ, List.getD_nil, Nat.succ_ne_self, reduceCtorEq, hn, hd, h0, h1', l1, l2, List.length_map]
  refine condV_of (fun hne => ?_) (fun heq => ?_)
  · have : xs ≠ ys := fun e => by subst e; simp at hne
    simp only [wpA_skip, wpA_ret, wpA_exit, wpA_seq, wpA_block, wpA_cond, wpA_region, wpA_draw, wpA_loop, thenQ_normal, thenQ_ret, thenQ_exit, blockQ_normal, blockQ_ret, blockQ_exit, condV_true, condV_false, opsM_nil, opsM_cons, seqM, okB, Keeps_nil, contK_app, List.zip_cons_cons, List.zip_nil_left, List.zip_nil_right, Op.operands, Call.operands, Array.toList_append, List.append_nil, List.nil_append, List.all_cons, List.all_nil, cOK, plain, put_n, put_tm, put_none, put_df, ev_tmp, ev_const, ev_func, wanted_none, wanted_some, callR_func, dop, ex_some1, aBuiltin, aBin, intBin, aUn, Option.map_some, Bool.and_true, Bool.true_and, Bool.and_self, true_and, and_true, List.map_cons, List.map_nil, List.toList_toArray, List.getElem?_toArray, List.getElem?_cons_zero, List.getElem?_cons_succ, Option.getD_some, Option.getD_none, if_true, if_false, Bool.false_eq_true, eq_self_iff_true, reduceIte, Nat.reduceLT, Nat.reduceEqDiff, decide_true, decide_false, List.cons_append, aExtract, bodyR_ret, bodyR_normal, resL, resV, List.getD_cons_zero, List.getD_cons_succ, List.getD_nil, Nat.succ_ne_self, reduceCtorEq, hn, hd, this]
  · have hl : xs.length = ys.length := by
      have : (xs.length : Int) = ys.length := by simpa using heq
      omega
    simp only [wpA_skip, wpA_ret, wpA_exit, wpA_seq, wpA_block, wpA_cond, wpA_region, wpA_draw, wpA_loop, thenQ_normal, thenQ_ret, thenQ_exit, blockQ_normal, blockQ_ret, blockQ_exit, condV_true, condV_false, opsM_nil, opsM_cons, seqM, okB, Keeps_nil, contK_app, List.zip_cons_cons, List.zip_nil_left, List.zip_nil_right, Op.operands, Call.operands, Array.toList_append, List.append_nil, List.nil_append, List.all_cons, List.all_nil, cOK, plain, put_n, put_tm, put_none, put_df, ev_tmp, ev_const, ev_func, wanted_none, wanted_some, callR_func, dop, ex_some1, aBuiltin, aBin, intBin, aUn, Option.map_some, Bool.and_true, Bool.true_and, Bool.and_self, true_and, and_true, List.map_cons, List.map_nil, List.toList_toArray, List.getElem?_toArray, List.getElem?_cons_zero, List.getElem?_cons_succ, Option.getD_some, Option.getD_none, if_true, if_false, Bool.false_eq_true, eq_self_iff_true, reduceIte, Nat.reduceLT, Nat.reduceEqDiff, decide_true, decide_false, List.cons_append, aExtract, bodyR_ret, bodyR_normal, resL, resV, List.getD_cons_zero, List.getD_cons_succ, List.getD_nil, Nat.succ_ne_self, reduceCtorEq, hn, hd]
    refine AW.loop (fun m a' h' => h' = h ∧ a'.n = 26 ∧ a'.df = [] ∧ a'.tm 0 = v1 ∧ a'.tm 1 = v2 ∧ ∃ i : Nat, a'.tm 5 = .int .i64 i ∧ i + m = xs.length ∧ ∀ j : Nat, j < i → xs[j]? = ys[j]?) xs.length ?_ ?_
    · refine ⟨rfl, by simp only [put_n, hn], by simp only [put_df, hd], by simp [put_tm, h0], by simp [put_tm, h1'], 0, by simp [put_tm], by omega, fun j hj => by omega⟩
    · rintro m a' h' ⟨rfl, hn, hd, h0, h1', i, h5, him, hall⟩
      refine wpA_sound _ _ _ _ ?_
      simp only [wpA_skip, wpA_ret, wpA_exit, wpA_seq, wpA_block, wpA_cond, wpA_region, wpA_draw, wpA_loop, thenQ_normal, thenQ_ret, thenQ_exit, blockQ_normal, blockQ_ret, blockQ_exit, condV_true, condV_false, opsM_nil, opsM_cons, seqM, okB, Keeps_nil, contK_app, List.zip_cons_cons, List.zip_nil_left, List.zip_nil_right, Op.operands, Call.operands, Array.toList_append, List.append_nil, List.nil_append, List.all_cons, List.all_nil, cOK, plain, put_n, put_tm, put_none, put_df, ev_tmp, ev_const, ev_func, wanted_none, wanted_some, callR_func, dop, ex_some1, aBuiltin, aBin, intBin, aUn, Option.map_some, Bool.and_true, Bool.true_and, Bool.and_self, true_and, and_true, List.map_cons, List.map_nil, List.toList_toArray, List.getElem?_toArray, List.getElem?_cons_zero, List.getElem?_cons_succ, Option.getD_some, Option.getD_none, if_true, if_false, Bool.false_eq_true, eq_self_iff_true, reduceIte, Nat.reduceLT, Nat.reduceEqDiff, decide_true, decide_false, List.cons_append, aExtract, bodyR_ret, bodyR_normal, resL, resV, List.getD_cons_zero, List.getD_cons_succ, List.getD_nil, Nat.succ_ne_self, reduceCtorEq, hn, hd, h0, h1', h5, l1, l2, List.length_map]
      refine condV_of (fun hlt => ?_) (fun hge => ?_)
      · have hi : i < xs.length := by simpa using hlt
        obtain ⟨q1, e1, e2⟩ := h1.at sl23 (k := .i64) (i := i) (x := .bool xs[i]) (by simp [hi])
        obtain ⟨q2, e3, e4⟩ := h2.at sl23 (k := .i64) (i := i) (x := .bool (ys[i]'(hl ▸ hi))) (by simp [hl ▸ hi])
        refine AW.drawT (.take 0 [8, 3, 2] (.take 1 [8, 3, 2] (.take 2 [8, 3] (.take 3 [8] (.take 4 [8, 7, 6] (.take 5 [8, 7, 6] (.take 6 [8, 7] (.take 7 [8] (.take 8 [] .done))))))))) [0, 0, 0, 0, 0, 0, 0, 0, 0] mixed (by kernel_rfl) (by kernel_rfl) ?_
        simp only [wpA_skip, wpA_ret, wpA_exit, wpA_seq, wpA_block, wpA_cond, wpA_region, wpA_draw, wpA_loop, thenQ_normal, thenQ_ret, thenQ_exit, blockQ_normal, blockQ_ret, blockQ_exit, condV_true, condV_false, opsM_nil, opsM_cons, seqM, okB, Keeps_nil, contK_app, List.zip_cons_cons, List.zip_nil_left, List.zip_nil_right, Op.operands, Call.operands, Array.toList_append, List.append_nil, List.nil_append, List.all_cons, List.all_nil, cOK, plain, put_n, put_tm, put_none, put_df, ev_tmp, ev_const, ev_func, wanted_none, wanted_some, callR_func, dop, ex_some1, aBuiltin, aBin, intBin, aUn, Option.map_some, Bool.and_true, Bool.true_and, Bool.and_self, true_and, and_true, List.map_cons, List.map_nil, List.toList_toArray, List.getElem?_toArray, List.getElem?_cons_zero, List.getElem?_cons_succ, Option.getD_some, Option.getD_none, if_true, if_false, Bool.false_eq_true, eq_self_iff_true, reduceIte, Nat.reduceLT, Nat.reduceEqDiff, decide_true, decide_false, List.cons_append, aExtract, bodyR_ret, bodyR_normal, resL, resV, List.getD_cons_zero, List.getD_cons_succ, List.getD_nil, Nat.succ_ne_self, reduceCtorEq, hn, hd, h0, h1', h5, e1, e2, e3, e4, eqBin_bool_neq Try.underlying4]
        refine condV_of (fun hne => ?_) (fun heq => ?_)
        · have : xs ≠ ys := fun e => by subst e; simp at hne
          simp only [wpA_skip, wpA_ret, wpA_exit, wpA_seq, wpA_block, wpA_cond, wpA_region, wpA_draw, wpA_loop, thenQ_normal, thenQ_ret, thenQ_exit, blockQ_normal, blockQ_ret, blockQ_exit, condV_true, condV_false, opsM_nil, opsM_cons, seqM, okB, Keeps_nil, contK_app, List.zip_cons_cons, List.zip_nil_left, List.zip_nil_right, Op.operands, Call.operands, Array.toList_append, List.append_nil, List.nil_append, List.all_cons, List.all_nil, cOK, plain, put_n, put_tm, put_none, put_df, ev_tmp, ev_const, ev_func, wanted_none, wanted_some, callR_func, dop, ex_some1, aBuiltin, aBin, intBin, aUn, Option.map_some, Bool.and_true, Bool.true_and, Bool.and_self, true_and, and_true, List.map_cons, List.map_nil, List.toList_toArray, List.getElem?_toArray, List.getElem?_cons_zero, List.getElem?_cons_succ, Option.getD_some, Option.getD_none, if_true, if_false, Bool.false_eq_true, eq_self_iff_true, reduceIte, Nat.reduceLT, Nat.reduceEqDiff, decide_true, decide_false, List.cons_append, aExtract, bodyR_ret, bodyR_normal, resL, resV, List.getD_cons_zero, List.getD_cons_succ, List.getD_nil, Nat.succ_ne_self, reduceCtorEq, hn, hd, this]
        · have hw : IntKind.i64.wrap ((i : Int) + 1) = ((i + 1 : Nat) : Int) := by rw [Go.IntWalk.i64_in _ (by omega)]; omega
          simp only [wpA_skip, wpA_ret, wpA_exit, wpA_seq, wpA_block, wpA_cond, wpA_region, wpA_draw, wpA_loop, thenQ_normal, thenQ_ret, thenQ_exit, blockQ_normal, blockQ_ret, blockQ_exit, condV_true, condV_false, opsM_nil, opsM_cons, seqM, okB, Keeps_nil, contK_app, List.zip_cons_cons, List.zip_nil_left, List.zip_nil_right, Op.operands, Call.operands, Array.toList_append, List.append_nil, List.nil_append, List.all_cons, List.all_nil, cOK, plain, put_n, put_tm, put_none, put_df, ev_tmp, ev_const, ev_func, wanted_none, wanted_some, callR_func, dop, ex_some1, aBuiltin, aBin, intBin, aUn, Option.map_some, Bool.and_true, Bool.true_and, Bool.and_self, true_and, and_true, List.map_cons, List.map_nil, List.toList_toArray, List.getElem?_toArray, List.getElem?_cons_zero, List.getElem?_cons_succ, Option.getD_some, Option.getD_none, if_true, if_false, Bool.false_eq_true, eq_self_iff_true, reduceIte, Nat.reduceLT, Nat.reduceEqDiff, decide_true, decide_false, List.cons_append, aExtract, bodyR_ret, bodyR_normal, resL, resV, List.getD_cons_zero, List.getD_cons_succ, List.getD_nil, Nat.succ_ne_self, reduceCtorEq, hn, hd, h0, h1', h5, hw]
          refine ⟨m - 1, by omega, i + 1, rfl, by omega, fun j hj => ?_⟩
          by_cases e : j = i
          · subst e
            have : xs[j] = ys[j]'(hl ▸ hi) := by simpa using heq
            rw [List.getElem?_eq_getElem hi, List.getElem?_eq_getElem (hl ▸ hi), this]
          · exact hall j (by omega)
      · have hge : xs.length ≤ i := by simpa using hge
        have he : xs = ys := by
          apply List.ext_getElem?
          intro j
          by_cases hj : j < i
          · exact hall j hj
          · rw [List.getElem?_eq_none (by omega), List.getElem?_eq_none (by omega)]
        simp only [wpA_skip, wpA_ret, wpA_exit, wpA_seq, wpA_block, wpA_cond, wpA_region, wpA_draw, wpA_loop, thenQ_normal, thenQ_ret, thenQ_exit, blockQ_normal, blockQ_ret, blockQ_exit, condV_true, condV_false, opsM_nil, opsM_cons, seqM, okB, Keeps_nil, contK_app, List.zip_cons_cons, List.zip_nil_left, List.zip_nil_right, Op.operands, Call.operands, Array.toList_append, List.append_nil, List.nil_append, List.all_cons, List.all_nil, cOK, plain, put_n, put_tm, put_none, put_df, ev_tmp, ev_const, ev_func, wanted_none, wanted_some, callR_func, dop, ex_some1, aBuiltin, aBin, intBin, aUn, Option.map_some, Bool.and_true, Bool.true_and, Bool.and_self, true_and, and_true, List.map_cons, List.map_nil, List.toList_toArray, List.getElem?_toArray, List.getElem?_cons_zero, List.getElem?_cons_succ, Option.getD_some, Option.getD_none, if_true, if_false, Bool.false_eq_true, eq_self_iff_true, reduceIte, Nat.reduceLT, Nat.reduceEqDiff, decide_true, decide_false, List.cons_append, aExtract, bodyR_ret, bodyR_normal, resL, resV, List.getD_cons_zero, List.getD_cons_succ, List.getD_nil, Nat.succ_ne_self, reduceCtorEq, hn, hd, he]
end Go.Ab.S1

namespace Go.Proofs
open Go.Shelf
def Try.sortA_ren : Go.Shelf.Ren := ⟨fun | 5 => 51 | 8 => 70 | 7 => 69 | 19 => 93 | 20 => 94 | 10 => 84 | 11 => 85 | 12 => 86 | 13 => 87 | 14 => 88 | 15 => 89 | 16 => 90 | 17 => 91 | 18 => 92 | 30 => 103 | 31 => 104 | 32 => 105 | 33 => 106 | 34 => 107 | 35 => 108 | 40 => 112 | n => n, fun | 23 => 22 | 25 => 3 | 3 => 3 | 32 => 107 | 22 => 22 | 0 => 0 | 44 => 130 | 46 => 44 | 4 => 4 | 36 => 123 | 35 => 122 | 41 => 117 | 5 => 5 | 9 => 9 | 53 => 137 | 57 => 141 | 63 => 144 | 64 => 145 | n => n, fun | n => n⟩
theorem Try.sortA : Go.Proofs.SlLaysM.n5 Try.prog Try.sortA_ren := {
  mixed := by kernel_rfl
  f5 := ⟨Try.f51.name, by decide, Try.func51.trans (congrArg some (by kernel_rfl))⟩
  f7 := ⟨Try.f69.name, by decide, Try.func69.trans (congrArg some (by kernel_rfl))⟩
  f8 := Try.func70.trans (congrArg some (by kernel_rfl))
  f10 := ⟨Try.f84.name, by decide, Try.func84.trans (congrArg some (by kernel_rfl))⟩
  f11 := ⟨Try.f85.name, by decide, Try.func85.trans (congrArg some (by kernel_rfl))⟩
  f12 := ⟨Try.f86.name, by decide, Try.func86.trans (congrArg some (by kernel_rfl))⟩
  f13 := ⟨Try.f87.name, by decide, Try.func87.trans (congrArg some (by kernel_rfl))⟩
  f14 := ⟨Try.f88.name, by decide, Try.func88.trans (congrArg some (by kernel_rfl))⟩
  f15 := ⟨Try.f89.name, by decide, Try.func89.trans (congrArg some (by kernel_rfl))⟩
  f16 := ⟨Try.f90.name, by decide, Try.func90.trans (congrArg some (by kernel_rfl))⟩
  f17 := ⟨Try.f91.name, by decide, Try.func91.trans (congrArg some (by kernel_rfl))⟩
  f18 := ⟨Try.f92.name, by decide, Try.func92.trans (congrArg some (by kernel_rfl))⟩
  f19 := Try.func93.trans (congrArg some (by kernel_rfl))
  f20 := Try.func94.trans (congrArg some (by kernel_rfl))
  f30 := ⟨Try.f103.name, by decide, Try.func103.trans (congrArg some (by kernel_rfl))⟩
  f31 := Try.func104.trans (congrArg some (by kernel_rfl))
  f32 := Try.func105.trans (congrArg some (by kernel_rfl))
  f33 := ⟨Try.f106.name, by decide, Try.func106.trans (congrArg some (by kernel_rfl))⟩
  f34 := ⟨Try.f107.name, by decide, Try.func107.trans (congrArg some (by kernel_rfl))⟩
  f35 := ⟨Try.f108.name, by decide, Try.func108.trans (congrArg some (by kernel_rfl))⟩
  f40 := ⟨Try.f112.name, by decide, Try.func112.trans (congrArg some (by kernel_rfl))⟩
  t0 := Try.underlying0
  a0 := Try.isAgg0
  z0 := Try.sizeOf0
  v0 := Try.zeroValue0
  t3 := Try.underlying3
  a3 := Try.isAgg3
  z3 := Try.sizeOf3
  v3 := Try.zeroValue3
  t4 := Try.underlying4
  a4 := Try.isAgg4
  z4 := Try.sizeOf4
  v4 := Try.zeroValue4
  t5 := Try.underlying5
  a5 := Try.isAgg5
  z5 := Try.sizeOf5
  v5 := Try.zeroValue5
  t9 := Try.underlying9
  a9 := Try.isAgg9
  z9 := Try.sizeOf9
  v9 := Try.zeroValue9
  t22 := Try.underlying22
  a22 := Try.isAgg22
  z22 := Try.sizeOf22
  v22 := Try.zeroValue22
  t23 := Try.underlying22
  a23 := Try.isAgg22
  z23 := Try.sizeOf22
  v23 := Try.zeroValue22
  t25 := Try.underlying3
  a25 := Try.isAgg3
  z25 := Try.sizeOf3
  v25 := Try.zeroValue3
  t32 := Try.underlying107
  a32 := Try.isAgg107
  z32 := Try.sizeOf107
  v32 := Try.zeroValue107
  t35 := Try.underlying122
  a35 := Try.isAgg122
  z35 := Try.sizeOf122
  v35 := Try.zeroValue122
  t36 := Try.underlying123
  a36 := Try.isAgg123
  z36 := Try.sizeOf123
  v36 := Try.zeroValue123
  t41 := Try.underlying117
  a41 := Try.isAgg117
  z41 := Try.sizeOf117
  v41 := Try.zeroValue117
  t44 := Try.underlying130
  a44 := Try.isAgg130
  z44 := Try.sizeOf130
  v44 := Try.zeroValue130
  t46 := Try.underlying44
  a46 := Try.isAgg44
  z46 := Try.sizeOf44
  v46 := Try.zeroValue44
  t53 := Try.underlying137
  a53 := Try.isAgg137
  z53 := Try.sizeOf137
  v53 := Try.zeroValue137
  t57 := Try.underlying141
  a57 := Try.isAgg141
  z57 := Try.sizeOf141
  v57 := Try.zeroValue141
  t63 := Try.underlying144
  a63 := Try.isAgg144
  z63 := Try.sizeOf144
  v63 := Try.zeroValue144
  t64 := Try.underlying145
  a64 := Try.isAgg145
  z64 := Try.sizeOf145
  v64 := Try.zeroValue145 }
end Go.Proofs

namespace Go.Ab
open Go.Sort

theorem HR.grown {ρ : Ren} {h : AH} {w : World} (hr : HR ρ h w) (os : Array Obj) : HR ρ h (grow w os) ∧ Frm ρ h w ρ h (grow w os) := by
  have hb : ∀ b, b < w.heap.size → (grow w os).heap[b]? = w.heap[b]? := fun b hb => by simp [grow, Array.getElem?_append, hb]
  refine ⟨⟨fun A o ha => let ⟨r, q, hor⟩ := hr.obj A o ha; ⟨r, q, hor.move (Ren.le_refl _) (hb _ hor.lt)⟩, hr.inj, hr.dom⟩, Ren.le_refl _, by simp [grow], fun b hlt _ => hb b hlt, fun b hb => .inl hb, ⟨rfl, rfl, rfl⟩⟩

/-- A sort of integers, as the library's: of a row that may be written, and of none. -/
structure SortsInts (P : Program) (g : FuncId) : Prop where
  enters : Enters P g
  some : ∀ (blk off cap : Nat) (zs : List Int) (w : World), Holds (Value.int .i64) w blk off zs.toArray → blk < w.heap.size → zs.length < 4611686018427387904 →
    Calls P g #[.slice (some ⟨blk, off, none⟩) zs.length cap] w fun e w' =>
      e = .returned (.tuple #[]) ∧ ∃ n os, w' = grow (putRow (Value.int .i64) (Sort.ahead w n) blk off (zs.mergeSort fun x y => decide (x ≤ y)).toArray) os
  none : ∀ (p : Option Addr) (cap : Nat) (w : World), Calls P g #[.slice p 0 cap] w fun e w' => e = .returned (.tuple #[]) ∧ w' = w

theorem sortInts {P : Program} {g : FuncId} (hs : SortsInts P g) {h : AH} {A cap : Nat} {e : TypeId} {zs : List Int} (hg : h.get A = some (.grow (zs.map (Value.int .i64)) e)) (hz : zs ≠ []) (hbig : zs.length < 4611686018427387904) :
    ACall P g [.slice (some ⟨A, 0, none⟩) zs.length cap] h (fun v h' => v = .tuple #[] ∧ h' = h.set A (.grow ((zs.mergeSort fun x y => decide (x ≤ y)).map (Value.int .i64)) e)) := by
  refine ⟨hs.enters, fun ρ cargs w hl hr => ?_⟩
  obtain ⟨r, hq, cc, fr, hrow, hlim, hallr⟩ := hr.obj A _ hg
  have hcarg : ∃ c, cargs = #[.slice (some ⟨r.blk, r.base, none⟩) zs.length c] := by
    obtain ⟨l⟩ := cargs
    match l, hl with
    | [x], hl =>
      have hx := hl.2 0 _ x rfl rfl
      have hlen : zs.length ≠ 0 := by simpa using hz
      generalize zs.length = m at hx hlen ⊢
      generalize hv : Value.slice (some ⟨A, 0, none⟩) m cap = v at hx
      cases hx <;> cases hv
      · rename_i r' hq' hc; rw [hq] at hq'; cases hq'; exact ⟨_, rfl⟩
      · rename_i s' r' hq' h1' h2' h3'; rw [hq] at hq'; cases hq'; exact ⟨_, rfl⟩
      · exact absurd rfl hlen
      · exact absurd rfl hlen
    | [], hl => have := hl.1; simp at this
    | _ :: _ :: _, hl => have := hl.1; simp at this
  obtain ⟨c, rfl⟩ := hcarg
  have hcell : ∀ j, j < zs.length → cc[r.base + j]? = some (.int .i64 (zs[j]!)) := by
    intro j hj
    obtain ⟨v', h1, h2⟩ := hrow.cell j (.int .i64 zs[j]) (by simp [hj])
    cases h2
    rw [h1]; simp [hj]
  have hfit : r.base + zs.length ≤ cc.size := by simpa using hrow.fits
  have hlt : r.blk < w.heap.size := (Array.getElem?_eq_some_iff.1 hrow.heap).1
  have hH : Holds (Value.int .i64) w r.blk r.base zs.toArray := by
    intro j hj
    have hj' : j < zs.length := by simpa using hj
    refine ⟨?_, ?_⟩
    · simp only [World.cell?, hrow.heap, Option.isSome_none, Bool.false_eq_true, if_false, hcell j hj']
      simp [hj']
    · have := hrow.free rfl (r.base + j) (by omega)
      obtain ⟨lo, hi⟩ := fr
      simp only [World.frozen?, hrow.heap]
      simp only [Bool.and_eq_false_iff, decide_eq_false_iff_not]
      by_cases hlo : lo ≤ r.base + j
      · right; intro hh; exact this ⟨hlo, hh⟩
      · left; exact hlo
  refine (hs.some r.blk r.base c zs w hH hlt hbig).mono ?_
  rintro e' w' ⟨rfl, n, os, rfl⟩
  generalize hd : (zs.mergeSort fun x y => decide (x ≤ y)) = d
  have hdl : d.length = zs.length := by rw [← hd]; exact List.length_mergeSort _
  have hr1 : HR ρ h (Sort.ahead w n) := HR.same (w := w) rfl hr
  have hf1 : Frm ρ h w ρ h (Sort.ahead w n) := Frm.same rfl
  have hheap : (putRow (Value.int .i64) (Sort.ahead w n) r.blk r.base d.toArray).heap[r.blk]? = some (.cells (putCells (Value.int .i64) r.base d.toArray cc) e fr) := by
    show (w.heap.modify r.blk (onCells _))[r.blk]? = _
    rw [Array.getElem?_modify, if_pos rfl, hrow.heap]; rfl
  obtain ⟨hr2, hf2⟩ := hr1.store (o' := .grow (d.map (Value.int .i64)) e) (w' := putRow (Value.int .i64) (Sort.ahead w n) r.blk r.base d.toArray) hg rfl hq
    (by show (w.heap.modify _ _).size = w.heap.size; simp) (fun b hb => by show (w.heap.modify _ _)[b]? = w.heap[b]?; rw [Array.getElem?_modify, if_neg (Ne.symm hb)])
    ⟨_, fr, ⟨hheap, by simp [putCells, hdl]; exact hfit, fun i v hi => by
      rw [List.getElem?_map] at hi
      simp only [Option.map_eq_some_iff] at hi
      obtain ⟨z, hz', rfl⟩ := hi
      have hi' : i < d.length := (List.getElem?_eq_some_iff.1 hz').1
      refine ⟨.int .i64 z, ?_, .int _ _⟩
      simp only [putCells, Array.getElem?_mapIdx]
      rw [hcell i (by omega)]
      simp only [Option.map_some]
      rw [if_pos ⟨by omega, by simp; omega⟩]
      have : r.base + i - r.base = i := by omega
      rw [this]
      have : d.toArray[i]! = z := by
        rw [getElem!_pos _ i (by simpa using hi')]
        simpa using (List.getElem?_eq_some_iff.1 hz').2
      rw [this], fun hw i hi => hrow.free rfl i (by simpa [putCells] using hi), fun v hm => by
        obtain ⟨z, _, rfl⟩ := List.mem_map.1 hm; rfl⟩, by simp [putCells, hlim], fun i v' hi => by
      simp only [putCells, Array.getElem?_mapIdx, Option.map_eq_some_iff] at hi
      obtain ⟨u, hu, rfl⟩ := hi
      split
      · exact ⟨rfl, _, .int _ _⟩
      · exact hallr i u hu⟩
  obtain ⟨hr3, hf3⟩ := hr2.grown os
  exact ⟨ρ, _, _, _, rfl, ⟨rfl, rfl⟩, VR.undef ρ, hr3, (hf1.trans hf2).trans hf3⟩

theorem sortNone {P : Program} {g : FuncId} (hs : SortsInts P g) {h : AH} {p : Option Addr} {cap : Nat} :
    ACall P g [.slice p 0 cap] h (fun v h' => v = .tuple #[] ∧ h' = h) := by
  refine ⟨hs.enters, fun ρ cargs w hl hr => ?_⟩
  have hcarg : ∃ p' c, cargs = #[.slice p' 0 c] := by
    obtain ⟨l⟩ := cargs
    match l, hl with
    | [x], hl =>
      have hx := hl.2 0 _ x rfl rfl
      generalize hv : Value.slice p 0 cap = v at hx
      cases hx <;> cases hv <;> exact ⟨_, _, rfl⟩
    | [], hl => have := hl.1; simp at this
    | _ :: _ :: _, hl => have := hl.1; simp at this
  obtain ⟨p', c, rfl⟩ := hcarg
  refine (hs.none p' c w).mono ?_
  rintro e w' ⟨rfl, rfl⟩
  exact ⟨ρ, _, _, h, rfl, ⟨rfl, rfl⟩, VR.undef ρ, hr, Frm.refl _ _ _⟩

end Go.Ab

set_option linter.unusedSimpArgs false
set_option linter.unusedVariables false
namespace Go.Ab.S1
open Go.Proofs

set_option maxRecDepth 100000 in
theorem cloneInts {h : AH} {v : Value} {zs : List Int} (hv : SlOf h v (zs.map (.int .i64))) (hb : zs.length ≤ 17592186043904) :
    ACall Try.prog 33 [v] h (fun r h' => Sub h h' ∧ ((zs = [] ∧ ∃ p c, r = .slice p 0 c ∧ ∀ q, p = some q → q.spot = none) ∨
      (zs ≠ [] ∧ ∃ A, h.next ≤ A ∧ r = .slice (some ⟨A, 0, none⟩) zs.length (SL + 1) ∧ h'.get A = some (.grow (zs.map (.int .i64)) 3)))) := by
  refine ACall.wf ⟨_, Try.func33, rfl, by kernel_rfl⟩ fun hwf => ?_
  refine ACall.of_wp 8 [.tmp 2] Try.func33 rfl (by kernel_rfl) rfl rfl fun a hn hd ha => ?_
  have h0 := ha 0
  simp only [List.getD_cons_zero, List.getD_cons_succ] at h0
  have hsrc := hv.src
  obtain ⟨p, l, c, rfl, hl, hsp, _⟩ := id hv
  simp only [wpA_skip, wpA_ret, wpA_exit, wpA_seq, wpA_block, wpA_cond, wpA_region, wpA_draw, wpA_loop, thenQ_normal, thenQ_ret, thenQ_exit, blockQ_normal, blockQ_ret, blockQ_exit, condV_true, condV_false, opsM_nil, opsM_cons, seqM, okB, Keeps_nil, contK_app, List.zip_cons_cons, List.zip_nil_left, List.zip_nil_right, Op.operands, Call.operands, Array.toList_append, List.append_nil, List.nil_append, List.all_cons, List.all_nil, cOK, plain, put_n, put_tm, put_none, put_df, ev_tmp, ev_const, ev_func, wanted_none, wanted_some, callR_func, dop, ex_some1, aBuiltin, aBin, intBin, aUn, Option.map_some, Bool.and_true, Bool.true_and, Bool.and_self, true_and, and_true, List.map_cons, List.map_nil, List.toList_toArray, List.getElem?_toArray, List.getElem?_cons_zero, List.getElem?_cons_succ, Option.getD_some, Option.getD_none, if_true, if_false, Bool.false_eq_true, eq_self_iff_true, reduceIte, Nat.reduceLT, Nat.reduceEqDiff, decide_true, decide_false, List.cons_append, aExtract, bodyR_ret, bodyR_normal, resL, resV, List.getD_cons_zero, List.getD_cons_succ, List.getD_nil, Nat.succ_ne_self, reduceCtorEq, hn, hd, h0, eqBin_nil Try.underlying22]
  cases p with
  | none =>
    have hz : zs = [] := by
      rcases hv with ⟨p', l', c', e, hl', _, hcs⟩
      cases e
      rcases hcs with e | ⟨A, off, o, cs, e, _⟩
      · simpa using e
      · cases e
    subst hz
    simp only [wpA_skip, wpA_ret, wpA_exit, wpA_seq, wpA_block, wpA_cond, wpA_region, wpA_draw, wpA_loop, thenQ_normal, thenQ_ret, thenQ_exit, blockQ_normal, blockQ_ret, blockQ_exit, condV_true, condV_false, opsM_nil, opsM_cons, seqM, okB, Keeps_nil, contK_app, List.zip_cons_cons, List.zip_nil_left, List.zip_nil_right, Op.operands, Call.operands, Array.toList_append, List.append_nil, List.nil_append, List.all_cons, List.all_nil, cOK, plain, put_n, put_tm, put_none, put_df, ev_tmp, ev_const, ev_func, wanted_none, wanted_some, callR_func, dop, ex_some1, aBuiltin, aBin, intBin, aUn, Option.map_some, Bool.and_true, Bool.true_and, Bool.and_self, true_and, and_true, List.map_cons, List.map_nil, List.toList_toArray, List.getElem?_toArray, List.getElem?_cons_zero, List.getElem?_cons_succ, Option.getD_some, Option.getD_none, if_true, if_false, Bool.false_eq_true, eq_self_iff_true, reduceIte, Nat.reduceLT, Nat.reduceEqDiff, decide_true, decide_false, List.cons_append, aExtract, bodyR_ret, bodyR_normal, resL, resV, List.getD_cons_zero, List.getD_cons_succ, List.getD_nil, Nat.succ_ne_self, reduceCtorEq, Option.isNone_none, hn, hd]
    exact ⟨fun _ _ x => x, .inl ⟨none, 0, rfl, fun q e => by cases e⟩⟩
  | some q =>
    simp only [wpA_skip, wpA_ret, wpA_exit, wpA_seq, wpA_block, wpA_cond, wpA_region, wpA_draw, wpA_loop, thenQ_normal, thenQ_ret, thenQ_exit, blockQ_normal, blockQ_ret, blockQ_exit, condV_true, condV_false, opsM_nil, opsM_cons, seqM, okB, Keeps_nil, contK_app, List.zip_cons_cons, List.zip_nil_left, List.zip_nil_right, Op.operands, Call.operands, Array.toList_append, List.append_nil, List.nil_append, List.all_cons, List.all_nil, cOK, plain, put_n, put_tm, put_none, put_df, ev_tmp, ev_const, ev_func, wanted_none, wanted_some, callR_func, dop, ex_some1, aBuiltin, aBin, intBin, aUn, Option.map_some, Bool.and_true, Bool.true_and, Bool.and_self, true_and, and_true, List.map_cons, List.map_nil, List.toList_toArray, List.getElem?_toArray, List.getElem?_cons_zero, List.getElem?_cons_succ, Option.getD_some, Option.getD_none, if_true, if_false, Bool.false_eq_true, eq_self_iff_true, reduceIte, Nat.reduceLT, Nat.reduceEqDiff, decide_true, decide_false, List.cons_append, aExtract, bodyR_ret, bodyR_normal, resL, resV, List.getD_cons_zero, List.getD_cons_succ, List.getD_nil, Nat.succ_ne_self, reduceCtorEq, Option.isNone_some, hn, hd, h0, aBuildSlice_empty t22]
    by_cases hz : zs = []
    · subst hz
      rw [List.map_nil] at hsrc
      have hs1 : srcCells 1 (.slice (some q) l c) (h.new (.row [] 3 true)) = some (0, []) := by
        have hl0 : l = 0 := by simpa using hl
        subst hl0
        obtain ⟨B, o, sp⟩ := q
        have : sp = none := hsp _ rfl
        subst this; rfl
      simp only [aAppend_none t22 hs1, wpA_skip, wpA_ret, wpA_exit, wpA_seq, wpA_block, wpA_cond, wpA_region, wpA_draw, wpA_loop, thenQ_normal, thenQ_ret, thenQ_exit, blockQ_normal, blockQ_ret, blockQ_exit, condV_true, condV_false, opsM_nil, opsM_cons, seqM, okB, Keeps_nil, contK_app, List.zip_cons_cons, List.zip_nil_left, List.zip_nil_right, Op.operands, Call.operands, Array.toList_append, List.append_nil, List.nil_append, List.all_cons, List.all_nil, cOK, plain, put_n, put_tm, put_none, put_df, ev_tmp, ev_const, ev_func, wanted_none, wanted_some, callR_func, dop, ex_some1, aBuiltin, aBin, intBin, aUn, Option.map_some, Bool.and_true, Bool.true_and, Bool.and_self, true_and, and_true, List.map_cons, List.map_nil, List.toList_toArray, List.getElem?_toArray, List.getElem?_cons_zero, List.getElem?_cons_succ, Option.getD_some, Option.getD_none, if_true, if_false, Bool.false_eq_true, eq_self_iff_true, reduceIte, Nat.reduceLT, Nat.reduceEqDiff, decide_true, decide_false, List.cons_append, aExtract, bodyR_ret, bodyR_normal, resL, resV, List.getD_cons_zero, List.getD_cons_succ, List.getD_nil, Nat.succ_ne_self, reduceCtorEq, hn, hd, h0]
      exact ⟨Sub.new hwf _, .inl ⟨_, _, rfl, fun q e => by cases e; rfl⟩⟩
    · have hv' := hv.sub (Sub.new hwf (.row [] 3 true))
      have hs1 := hv'.src
      have hz' : zs.map (Value.int .i64) ≠ [] := by simpa using hz
      have hg : (h.new (.row [] 3 true)).get h.next = some (.row [] 3 true) := by simp [AH.new_get]
      have happ := aAppend_first t22 hg hs1 hz' (by simp; omega) (by simp [ML]; omega)
      simp only [happ, wpA_skip, wpA_ret, wpA_exit, wpA_seq, wpA_block, wpA_cond, wpA_region, wpA_draw, wpA_loop, thenQ_normal, thenQ_ret, thenQ_exit, blockQ_normal, blockQ_ret, blockQ_exit, condV_true, condV_false, opsM_nil, opsM_cons, seqM, okB, Keeps_nil, contK_app, List.zip_cons_cons, List.zip_nil_left, List.zip_nil_right, Op.operands, Call.operands, Array.toList_append, List.append_nil, List.nil_append, List.all_cons, List.all_nil, cOK, plain, put_n, put_tm, put_none, put_df, ev_tmp, ev_const, ev_func, wanted_none, wanted_some, callR_func, dop, ex_some1, aBuiltin, aBin, intBin, aUn, Option.map_some, Bool.and_true, Bool.true_and, Bool.and_self, true_and, and_true, List.map_cons, List.map_nil, List.toList_toArray, List.getElem?_toArray, List.getElem?_cons_zero, List.getElem?_cons_succ, Option.getD_some, Option.getD_none, if_true, if_false, Bool.false_eq_true, eq_self_iff_true, reduceIte, Nat.reduceLT, Nat.reduceEqDiff, decide_true, decide_false, List.cons_append, aExtract, bodyR_ret, bodyR_normal, resL, resV, List.getD_cons_zero, List.getD_cons_succ, List.getD_nil, Nat.succ_ne_self, reduceCtorEq, hn, hd, h0]
      have hwf2 : WFH (h.new (.row [] 3 true)) := by
        intro A hA
        simp only [AH.new_next] at hA
        rw [AH.new_get, if_neg (by omega)]
        exact hwf A (by omega)
      refine ⟨fun A o x => Sub.new hwf2 _ A o (Sub.new hwf _ A o x), .inr ⟨hz, h.next + 1, by omega, by simp, by simp [AH.new_get]⟩⟩

end Go.Ab.S1
namespace Go.Ab.S1
open Go.Proofs

theorem sorts : SortsInts Try.prog 51 := ⟨⟨_, Try.func51, rfl, by kernel_rfl⟩, fun blk off cap zs w h1 h2 h3 => AnyM.slices_Sort_int Try.sortA blk off cap zs w h1 h2 h3, fun p cap w => AnyM.slices_Sort_int_none Try.sortA p cap w⟩

def sortL (zs : List Int) : List Int := zs.mergeSort fun x y => decide (x ≤ y)

theorem sortCloned {h h2 : AH} {r : Value} {zs : List Int} (hwf : WFH h) (hb : zs.length ≤ 17592186043904) (hsub : Sub h h2) (hr : (zs = [] ∧ ∃ p c, r = .slice p 0 c ∧ ∀ q, p = some q → q.spot = none) ∨
      (zs ≠ [] ∧ ∃ A, h.next ≤ A ∧ r = .slice (some ⟨A, 0, none⟩) zs.length (SL + 1) ∧ h2.get A = some (.grow (zs.map (.int .i64)) 3))) :
    ACall Try.prog 51 [r] h2 (fun v h3 => Sub h h3 ∧ SlOf h3 r ((sortL zs).map (.int .i64))) := by
  rcases hr with ⟨rfl, p, c, rfl, hsp⟩ | ⟨hz, A, hA, rfl, hg⟩
  · refine ACall.mono ?_ (sortNone sorts)
    rintro v h3 ⟨_, rfl⟩
    exact ⟨hsub, p, 0, c, rfl, by simp [sortL], hsp, .inl (by simp [sortL])⟩
  · refine ACall.mono ?_ (sortInts sorts hg hz (by omega))
    rintro v h3 ⟨_, rfl⟩
    refine ⟨fun B o hB => ?_, some ⟨A, 0, none⟩, zs.length, _, rfl, by simp [sortL], fun q e => by cases e; rfl, .inr ⟨A, 0, .grow ((sortL zs).map (.int .i64)) 3, _, rfl, ?_, rfl, fun i x hx => by rw [Nat.zero_add]; exact hx⟩⟩
    · rw [AH.set_get, if_neg]
      · exact hsub B o hB
      · intro e; subst e; rw [hwf _ hA] at hB; cases hB
    · simp [AH.set_get, sortL]

/-- The order is one of 0 to n - 1. -/
def IsPerm (zs : List Int) : Prop := ∀ i : Nat, i < zs.length → (sortL zs)[i]? = some (i : Int)

instance (zs : List Int) : Decidable (IsPerm zs) := inferInstanceAs (Decidable (∀ i : Nat, i < zs.length → (sortL zs)[i]? = some (i : Int)))

set_option maxRecDepth 100000 in
theorem permutation {h : AH} {v : Value} {zs : List Int} {n : Int} (hv : SlOf h v (zs.map (.int .i64))) (hb : zs.length ≤ 17592186043904) :
    ACall Try.prog 40 [v, .int .i64 n] h (fun r h' => r = .bool (decide (IsPerm zs ∧ (zs.length : Int) = n)) ∧ Sub h h') := by
  refine ACall.wf ⟨_, Try.func40, rfl, by kernel_rfl⟩ fun hwf => ?_
  refine ACall.of_wp 27 [.tmp 4] Try.func40 rfl (by kernel_rfl) rfl rfl fun a hn hd ha => ?_
  have h0 := ha 0
  have h1 := ha 1
  simp only [List.getD_cons_zero, List.getD_cons_succ] at h0 h1
  simp only [wpA_skip, wpA_ret, wpA_exit, wpA_seq, wpA_block, wpA_cond, wpA_region, wpA_draw, wpA_loop, thenQ_normal, thenQ_ret, thenQ_exit, blockQ_normal, blockQ_ret, blockQ_exit, condV_true, condV_false, opsM_nil, opsM_cons, seqM, okB, Keeps_nil, contK_app, List.zip_cons_cons, List.zip_nil_left, List.zip_nil_right, Op.operands, Call.operands, Array.toList_append, List.append_nil, List.nil_append, List.all_cons, List.all_nil, cOK, plain, put_n, put_tm, put_none, put_df, ev_tmp, ev_const, ev_func, wanted_none, wanted_some, callR_func, dop, ex_some1, aBuiltin, aBin, intBin, aUn, Option.map_some, Bool.and_true, Bool.true_and, Bool.and_self, true_and, and_true, List.map_cons, List.map_nil, List.toList_toArray, List.getElem?_toArray, List.getElem?_cons_zero, List.getElem?_cons_succ, Option.getD_some, Option.getD_none, if_true, if_false, Bool.false_eq_true, eq_self_iff_true, reduceIte, Nat.reduceLT, Nat.reduceEqDiff, decide_true, decide_false, List.cons_append, aExtract, bodyR_ret, bodyR_normal, resL, resV, List.getD_cons_zero, List.getD_cons_succ, List.getD_nil, Nat.succ_ne_self, reduceCtorEq, hn, hd, h0, h1]
  refine ACall.mono ?_ (cloneInts hv hb)
  rintro r h2 ⟨hsub, hr⟩
  simp only [wpA_skip, wpA_ret, wpA_exit, wpA_seq, wpA_block, wpA_cond, wpA_region, wpA_draw, wpA_loop, thenQ_normal, thenQ_ret, thenQ_exit, blockQ_normal, blockQ_ret, blockQ_exit, condV_true, condV_false, opsM_nil, opsM_cons, seqM, okB, Keeps_nil, contK_app, List.zip_cons_cons, List.zip_nil_left, List.zip_nil_right, Op.operands, Call.operands, Array.toList_append, List.append_nil, List.nil_append, List.all_cons, List.all_nil, cOK, plain, put_n, put_tm, put_none, put_df, ev_tmp, ev_const, ev_func, wanted_none, wanted_some, callR_func, dop, ex_some1, aBuiltin, aBin, intBin, aUn, Option.map_some, Bool.and_true, Bool.true_and, Bool.and_self, true_and, and_true, List.map_cons, List.map_nil, List.toList_toArray, List.getElem?_toArray, List.getElem?_cons_zero, List.getElem?_cons_succ, Option.getD_some, Option.getD_none, if_true, if_false, Bool.false_eq_true, eq_self_iff_true, reduceIte, Nat.reduceLT, Nat.reduceEqDiff, decide_true, decide_false, List.cons_append, aExtract, bodyR_ret, bodyR_normal, resL, resV, List.getD_cons_zero, List.getD_cons_succ, List.getD_nil, Nat.succ_ne_self, reduceCtorEq, hn, hd, h0, h1]
  refine ACall.mono ?_ (sortCloned hwf hb hsub hr)
  rintro _ h3 ⟨hsub3, hs3⟩
  have hv3 := hv.sub hsub3
  have l3 := hs3.len Try.underlying22
  have l0 := hv3.len Try.underlying22
  have hsl : (sortL zs).length = zs.length := by simp [sortL]
  simp only [wpA_skip, wpA_ret, wpA_exit, wpA_seq, wpA_block, wpA_cond, wpA_region, wpA_draw, wpA_loop, thenQ_normal, thenQ_ret, thenQ_exit, blockQ_normal, blockQ_ret, blockQ_exit, condV_true, condV_false, opsM_nil, opsM_cons, seqM, okB, Keeps_nil, contK_app, List.zip_cons_cons, List.zip_nil_left, List.zip_nil_right, Op.operands, Call.operands, Array.toList_append, List.append_nil, List.nil_append, List.all_cons, List.all_nil, cOK, plain, put_n, put_tm, put_none, put_df, ev_tmp, ev_const, ev_func, wanted_none, wanted_some, callR_func, dop, ex_some1, aBuiltin, aBin, intBin, aUn, Option.map_some, Bool.and_true, Bool.true_and, Bool.and_self, true_and, and_true, List.map_cons, List.map_nil, List.toList_toArray, List.getElem?_toArray, List.getElem?_cons_zero, List.getElem?_cons_succ, Option.getD_some, Option.getD_none, if_true, if_false, Bool.false_eq_true, eq_self_iff_true, reduceIte, Nat.reduceLT, Nat.reduceEqDiff, decide_true, decide_false, List.cons_append, aExtract, bodyR_ret, bodyR_normal, resL, resV, List.getD_cons_zero, List.getD_cons_succ, List.getD_nil, Nat.succ_ne_self, reduceCtorEq, hn, hd, h0, h1, l3, l0, List.length_map, hsl]
  refine AW.loop (fun m a' h' => h' = h3 ∧ a'.n = 27 ∧ a'.df = [] ∧ a'.tm 0 = v ∧ a'.tm 1 = .int .i64 n ∧ a'.tm 12 = r ∧ a'.tm 13 = .int .i64 zs.length ∧
      ∃ i : Nat, a'.tm 14 = .int .i64 i ∧ i + m = zs.length ∧ ∀ j : Nat, j < i → (sortL zs)[j]? = some (j : Int)) zs.length ?_ ?_
  · refine ⟨rfl, by simp only [put_n, hn], by simp only [put_df, hd], by simp [put_tm, h0], by simp [put_tm, h1], by simp [put_tm], by simp [put_tm], 0, by simp [put_tm], by omega, fun j hj => by omega⟩
  · rintro m a' h' ⟨rfl, hn, hd, h0, h1, h12, h13, i, h14, him, hall⟩
    refine wpA_sound _ _ _ _ ?_
    simp only [wpA_skip, wpA_ret, wpA_exit, wpA_seq, wpA_block, wpA_cond, wpA_region, wpA_draw, wpA_loop, thenQ_normal, thenQ_ret, thenQ_exit, blockQ_normal, blockQ_ret, blockQ_exit, condV_true, condV_false, opsM_nil, opsM_cons, seqM, okB, Keeps_nil, contK_app, List.zip_cons_cons, List.zip_nil_left, List.zip_nil_right, Op.operands, Call.operands, Array.toList_append, List.append_nil, List.nil_append, List.all_cons, List.all_nil, cOK, plain, put_n, put_tm, put_none, put_df, ev_tmp, ev_const, ev_func, wanted_none, wanted_some, callR_func, dop, ex_some1, aBuiltin, aBin, intBin, aUn, Option.map_some, Bool.and_true, Bool.true_and, Bool.and_self, true_and, and_true, List.map_cons, List.map_nil, List.toList_toArray, List.getElem?_toArray, List.getElem?_cons_zero, List.getElem?_cons_succ, Option.getD_some, Option.getD_none, if_true, if_false, Bool.false_eq_true, eq_self_iff_true, reduceIte, Nat.reduceLT, Nat.reduceEqDiff, decide_true, decide_false, List.cons_append, aExtract, bodyR_ret, bodyR_normal, resL, resV, List.getD_cons_zero, List.getD_cons_succ, List.getD_nil, Nat.succ_ne_self, reduceCtorEq, hn, hd, h0, h1, h12, h13, h14]
    refine condV_of (fun hlt => ?_) (fun hge => ?_)
    · have hi : i < zs.length := by simpa using hlt
      have hi' : i < (sortL zs).length := by omega
      obtain ⟨q1, e1, e2⟩ := hs3.at sl22 (k := .i64) (i := i) (x := .int .i64 (sortL zs)[i]) (by simp [hi'])
      simp only [wpA_skip, wpA_ret, wpA_exit, wpA_seq, wpA_block, wpA_cond, wpA_region, wpA_draw, wpA_loop, thenQ_normal, thenQ_ret, thenQ_exit, blockQ_normal, blockQ_ret, blockQ_exit, condV_true, condV_false, opsM_nil, opsM_cons, seqM, okB, Keeps_nil, contK_app, List.zip_cons_cons, List.zip_nil_left, List.zip_nil_right, Op.operands, Call.operands, Array.toList_append, List.append_nil, List.nil_append, List.all_cons, List.all_nil, cOK, plain, put_n, put_tm, put_none, put_df, ev_tmp, ev_const, ev_func, wanted_none, wanted_some, callR_func, dop, ex_some1, aBuiltin, aBin, intBin, aUn, Option.map_some, Bool.and_true, Bool.true_and, Bool.and_self, true_and, and_true, List.map_cons, List.map_nil, List.toList_toArray, List.getElem?_toArray, List.getElem?_cons_zero, List.getElem?_cons_succ, Option.getD_some, Option.getD_none, if_true, if_false, Bool.false_eq_true, eq_self_iff_true, reduceIte, Nat.reduceLT, Nat.reduceEqDiff, decide_true, decide_false, List.cons_append, aExtract, bodyR_ret, bodyR_normal, resL, resV, List.getD_cons_zero, List.getD_cons_succ, List.getD_nil, Nat.succ_ne_self, reduceCtorEq, hn, hd, h0, h1, h12, h13, h14, e1, e2]
      refine condV_of (fun hne => ?_) (fun heq => ?_)
      · have hnp : ¬ (IsPerm zs ∧ (zs.length : Int) = n) := by
          rintro ⟨hp, _⟩
          have := hp i hi
          rw [List.getElem?_eq_getElem hi'] at this
          have e : (sortL zs)[i] = (i : Int) := by simpa using this
          rw [e] at hne; simp at hne
        simp only [wpA_skip, wpA_ret, wpA_exit, wpA_seq, wpA_block, wpA_cond, wpA_region, wpA_draw, wpA_loop, thenQ_normal, thenQ_ret, thenQ_exit, blockQ_normal, blockQ_ret, blockQ_exit, condV_true, condV_false, opsM_nil, opsM_cons, seqM, okB, Keeps_nil, contK_app, List.zip_cons_cons, List.zip_nil_left, List.zip_nil_right, Op.operands, Call.operands, Array.toList_append, List.append_nil, List.nil_append, List.all_cons, List.all_nil, cOK, plain, put_n, put_tm, put_none, put_df, ev_tmp, ev_const, ev_func, wanted_none, wanted_some, callR_func, dop, ex_some1, aBuiltin, aBin, intBin, aUn, Option.map_some, Bool.and_true, Bool.true_and, Bool.and_self, true_and, and_true, List.map_cons, List.map_nil, List.toList_toArray, List.getElem?_toArray, List.getElem?_cons_zero, List.getElem?_cons_succ, Option.getD_some, Option.getD_none, if_true, if_false, Bool.false_eq_true, eq_self_iff_true, reduceIte, Nat.reduceLT, Nat.reduceEqDiff, decide_true, decide_false, List.cons_append, aExtract, bodyR_ret, bodyR_normal, resL, resV, List.getD_cons_zero, List.getD_cons_succ, List.getD_nil, Nat.succ_ne_self, reduceCtorEq, hn, hd, h0, h1, hnp]
        exact hsub3
      · have heq' : (sortL zs)[i] = (i : Int) := by simpa using heq
        have hw : IntKind.i64.wrap ((i : Int) + 1) = ((i + 1 : Nat) : Int) := by rw [Go.IntWalk.i64_in _ (by omega)]; omega
        simp only [wpA_skip, wpA_ret, wpA_exit, wpA_seq, wpA_block, wpA_cond, wpA_region, wpA_draw, wpA_loop, thenQ_normal, thenQ_ret, thenQ_exit, blockQ_normal, blockQ_ret, blockQ_exit, condV_true, condV_false, opsM_nil, opsM_cons, seqM, okB, Keeps_nil, contK_app, List.zip_cons_cons, List.zip_nil_left, List.zip_nil_right, Op.operands, Call.operands, Array.toList_append, List.append_nil, List.nil_append, List.all_cons, List.all_nil, cOK, plain, put_n, put_tm, put_none, put_df, ev_tmp, ev_const, ev_func, wanted_none, wanted_some, callR_func, dop, ex_some1, aBuiltin, aBin, intBin, aUn, Option.map_some, Bool.and_true, Bool.true_and, Bool.and_self, true_and, and_true, List.map_cons, List.map_nil, List.toList_toArray, List.getElem?_toArray, List.getElem?_cons_zero, List.getElem?_cons_succ, Option.getD_some, Option.getD_none, if_true, if_false, Bool.false_eq_true, eq_self_iff_true, reduceIte, Nat.reduceLT, Nat.reduceEqDiff, decide_true, decide_false, List.cons_append, aExtract, bodyR_ret, bodyR_normal, resL, resV, List.getD_cons_zero, List.getD_cons_succ, List.getD_nil, Nat.succ_ne_self, reduceCtorEq, hn, hd, h0, h1, h12, h13, h14, hw]
        refine ⟨m - 1, by omega, i + 1, rfl, by omega, fun j hj => ?_⟩
        by_cases e : j = i
        · subst e; rw [List.getElem?_eq_getElem hi', heq']
        · exact hall j (by omega)
    · have hge : zs.length ≤ i := by simpa using hge
      have hp : IsPerm zs := fun j hj => hall j (by omega)
      simp only [wpA_skip, wpA_ret, wpA_exit, wpA_seq, wpA_block, wpA_cond, wpA_region, wpA_draw, wpA_loop, thenQ_normal, thenQ_ret, thenQ_exit, blockQ_normal, blockQ_ret, blockQ_exit, condV_true, condV_false, opsM_nil, opsM_cons, seqM, okB, Keeps_nil, contK_app, List.zip_cons_cons, List.zip_nil_left, List.zip_nil_right, Op.operands, Call.operands, Array.toList_append, List.append_nil, List.nil_append, List.all_cons, List.all_nil, cOK, plain, put_n, put_tm, put_none, put_df, ev_tmp, ev_const, ev_func, wanted_none, wanted_some, callR_func, dop, ex_some1, aBuiltin, aBin, intBin, aUn, Option.map_some, Bool.and_true, Bool.true_and, Bool.and_self, true_and, and_true, List.map_cons, List.map_nil, List.toList_toArray, List.getElem?_toArray, List.getElem?_cons_zero, List.getElem?_cons_succ, Option.getD_some, Option.getD_none, if_true, if_false, Bool.false_eq_true, eq_self_iff_true, reduceIte, Nat.reduceLT, Nat.reduceEqDiff, decide_true, decide_false, List.cons_append, aExtract, bodyR_ret, bodyR_normal, resL, resV, List.getD_cons_zero, List.getD_cons_succ, List.getD_nil, Nat.succ_ne_self, reduceCtorEq, hn, hd, h0, h1, l0, List.length_map]
      refine ⟨?_, hsub3⟩
      simp only [hp, true_and]
      rfl
end Go.Ab.S1

set_option linter.unusedSimpArgs false
set_option linter.unusedVariables false
namespace Go.Ab.S1
open Go.Proofs

theorem sortL_perm (zs : List Int) : (sortL zs).Perm zs := List.mergeSort_perm zs _
theorem sortL_len (zs : List Int) : (sortL zs).length = zs.length := by simp [sortL]

theorem IsPerm.range {zs : List Int} (hp : IsPerm zs) {z : Int} (hz : z ∈ zs) : ∃ i : Nat, i < zs.length ∧ z = i := by
  have h1 : z ∈ sortL zs := (sortL_perm zs).mem_iff.2 hz
  obtain ⟨i, hi, e⟩ := List.getElem_of_mem h1
  have hi' : i < zs.length := by rw [← sortL_len]; exact hi
  have := hp i hi'
  rw [List.getElem?_eq_getElem hi] at this
  exact ⟨i, hi', by rw [← e]; simpa using this⟩

theorem IsPerm.nodup {zs : List Int} (hp : IsPerm zs) : zs.Nodup := by
  refine (sortL_perm zs).nodup_iff.1 ?_
  rw [List.nodup_iff_pairwise_ne, List.pairwise_iff_getElem]
  intro i j hi hj hij e
  have h1 := hp i (by rw [← sortL_len]; exact hi)
  have h2 := hp j (by rw [← sortL_len]; exact hj)
  rw [List.getElem?_eq_getElem hi] at h1
  rw [List.getElem?_eq_getElem hj] at h2
  simp only [Option.some.injEq] at h1 h2
  omega

theorem IsPerm.inj {zs : List Int} (hp : IsPerm zs) {i j : Nat} {z : Int} (hi : zs[i]? = some z) (hj : zs[j]? = some z) : i = j := by
  obtain ⟨h1, e1⟩ := List.getElem?_eq_some_iff.1 hi
  obtain ⟨h2, e2⟩ := List.getElem?_eq_some_iff.1 hj
  have hn := hp.nodup
  rw [List.nodup_iff_pairwise_ne, List.pairwise_iff_getElem] at hn
  rcases Nat.lt_trichotomy i j with h | h | h
  · exact absurd (e1.trans e2.symm) (hn i j h1 h2 h)
  · exact h
  · exact absurd (e2.trans e1.symm) (hn j i h2 h1 h)

def chainE (zs : List Int) (k : Nat) : Int := if IsPerm zs then (if k = zs.length then 0 else 12) else 1

set_option maxRecDepth 100000 in
theorem chain {h : AH} {v : Value} {zs : List Int} {k : Nat} (hv : SlOf h v (zs.map (.int .i64))) (hb : zs.length ≤ 17592186043904) :
    ACall Try.prog 26 [v, .int .i64 k] h (fun r h' => r = .int .i64 (chainE zs k) ∧ Sub h h') := by
  refine ACall.of_wp 16 [.tmp 4] Try.func26 rfl (by kernel_rfl) rfl rfl fun a hn hd ha => ?_
  have h0 := ha 0
  have h1 := ha 1
  have l0 := hv.len Try.underlying22
  simp only [List.getD_cons_zero, List.getD_cons_succ] at h0 h1
  simp only [wpA_skip, wpA_ret, wpA_exit, wpA_seq, wpA_block, wpA_cond, wpA_region, wpA_draw, wpA_loop, thenQ_normal, thenQ_ret, thenQ_exit, blockQ_normal, blockQ_ret, blockQ_exit, condV_true, condV_false, opsM_nil, opsM_cons, seqM, okB, Keeps_nil, contK_app, List.zip_cons_cons, List.zip_nil_left, List.zip_nil_right, Op.operands, Call.operands, Array.toList_append, List.append_nil, List.nil_append, List.all_cons, List.all_nil, cOK, plain, put_n, put_tm, put_none, put_df, ev_tmp, ev_const, ev_func, wanted_none, wanted_some, callR_func, dop, ex_some1, aBuiltin, aBin, intBin, aUn, Option.map_some, Bool.and_true, Bool.true_and, Bool.and_self, true_and, and_true, List.map_cons, List.map_nil, List.toList_toArray, List.getElem?_toArray, List.getElem?_cons_zero, List.getElem?_cons_succ, Option.getD_some, Option.getD_none, if_true, if_false, Bool.false_eq_true, eq_self_iff_true, reduceIte, Nat.reduceLT, Nat.reduceEqDiff, decide_true, decide_false, List.cons_append, aExtract, bodyR_ret, bodyR_normal, resL, resV, List.getD_cons_zero, List.getD_cons_succ, List.getD_nil, Nat.succ_ne_self, reduceCtorEq, hn, hd, h0, h1, l0, List.length_map]
  refine ACall.mono ?_ (permutation hv hb)
  rintro r h2 ⟨rfl, hsub⟩
  have l2 := (hv.sub hsub).len Try.underlying22
  by_cases hp : IsPerm zs
  · simp only [wpA_skip, wpA_ret, wpA_exit, wpA_seq, wpA_block, wpA_cond, wpA_region, wpA_draw, wpA_loop, thenQ_normal, thenQ_ret, thenQ_exit, blockQ_normal, blockQ_ret, blockQ_exit, condV_true, condV_false, opsM_nil, opsM_cons, seqM, okB, Keeps_nil, contK_app, List.zip_cons_cons, List.zip_nil_left, List.zip_nil_right, Op.operands, Call.operands, Array.toList_append, List.append_nil, List.nil_append, List.all_cons, List.all_nil, cOK, plain, put_n, put_tm, put_none, put_df, ev_tmp, ev_const, ev_func, wanted_none, wanted_some, callR_func, dop, ex_some1, aBuiltin, aBin, intBin, aUn, Option.map_some, Bool.and_true, Bool.true_and, Bool.and_self, true_and, and_true, List.map_cons, List.map_nil, List.toList_toArray, List.getElem?_toArray, List.getElem?_cons_zero, List.getElem?_cons_succ, Option.getD_some, Option.getD_none, if_true, if_false, Bool.false_eq_true, eq_self_iff_true, reduceIte, Nat.reduceLT, Nat.reduceEqDiff, decide_true, decide_false, List.cons_append, aExtract, bodyR_ret, bodyR_normal, resL, resV, List.getD_cons_zero, List.getD_cons_succ, List.getD_nil, Nat.succ_ne_self, reduceCtorEq, hn, hd, h0, h1, l2, List.length_map, hp, Bool.not_true]
    refine condV_of (fun hne => ?_) (fun heq => ?_)
    · have : k ≠ zs.length := fun e => by subst e; simp at hne
      simp only [wpA_skip, wpA_ret, wpA_exit, wpA_seq, wpA_block, wpA_cond, wpA_region, wpA_draw, wpA_loop, thenQ_normal, thenQ_ret, thenQ_exit, blockQ_normal, blockQ_ret, blockQ_exit, condV_true, condV_false, opsM_nil, opsM_cons, seqM, okB, Keeps_nil, contK_app, List.zip_cons_cons, List.zip_nil_left, List.zip_nil_right, Op.operands, Call.operands, Array.toList_append, List.append_nil, List.nil_append, List.all_cons, List.all_nil, cOK, plain, put_n, put_tm, put_none, put_df, ev_tmp, ev_const, ev_func, wanted_none, wanted_some, callR_func, dop, ex_some1, aBuiltin, aBin, intBin, aUn, Option.map_some, Bool.and_true, Bool.true_and, Bool.and_self, true_and, and_true, List.map_cons, List.map_nil, List.toList_toArray, List.getElem?_toArray, List.getElem?_cons_zero, List.getElem?_cons_succ, Option.getD_some, Option.getD_none, if_true, if_false, Bool.false_eq_true, eq_self_iff_true, reduceIte, Nat.reduceLT, Nat.reduceEqDiff, decide_true, decide_false, List.cons_append, aExtract, bodyR_ret, bodyR_normal, resL, resV, List.getD_cons_zero, List.getD_cons_succ, List.getD_nil, Nat.succ_ne_self, reduceCtorEq, hn, hd, h0, h1, chainE, hp, this]
      exact hsub
    · have : k = zs.length := by
        have : (k : Int) = zs.length := by simpa using heq
        omega
      simp only [wpA_skip, wpA_ret, wpA_exit, wpA_seq, wpA_block, wpA_cond, wpA_region, wpA_draw, wpA_loop, thenQ_normal, thenQ_ret, thenQ_exit, blockQ_normal, blockQ_ret, blockQ_exit, condV_true, condV_false, opsM_nil, opsM_cons, seqM, okB, Keeps_nil, contK_app, List.zip_cons_cons, List.zip_nil_left, List.zip_nil_right, Op.operands, Call.operands, Array.toList_append, List.append_nil, List.nil_append, List.all_cons, List.all_nil, cOK, plain, put_n, put_tm, put_none, put_df, ev_tmp, ev_const, ev_func, wanted_none, wanted_some, callR_func, dop, ex_some1, aBuiltin, aBin, intBin, aUn, Option.map_some, Bool.and_true, Bool.true_and, Bool.and_self, true_and, and_true, List.map_cons, List.map_nil, List.toList_toArray, List.getElem?_toArray, List.getElem?_cons_zero, List.getElem?_cons_succ, Option.getD_some, Option.getD_none, if_true, if_false, Bool.false_eq_true, eq_self_iff_true, reduceIte, Nat.reduceLT, Nat.reduceEqDiff, decide_true, decide_false, List.cons_append, aExtract, bodyR_ret, bodyR_normal, resL, resV, List.getD_cons_zero, List.getD_cons_succ, List.getD_nil, Nat.succ_ne_self, reduceCtorEq, hn, hd, h0, h1, chainE, hp, this]
      exact hsub
  · simp only [wpA_skip, wpA_ret, wpA_exit, wpA_seq, wpA_block, wpA_cond, wpA_region, wpA_draw, wpA_loop, thenQ_normal, thenQ_ret, thenQ_exit, blockQ_normal, blockQ_ret, blockQ_exit, condV_true, condV_false, opsM_nil, opsM_cons, seqM, okB, Keeps_nil, contK_app, List.zip_cons_cons, List.zip_nil_left, List.zip_nil_right, Op.operands, Call.operands, Array.toList_append, List.append_nil, List.nil_append, List.all_cons, List.all_nil, cOK, plain, put_n, put_tm, put_none, put_df, ev_tmp, ev_const, ev_func, wanted_none, wanted_some, callR_func, dop, ex_some1, aBuiltin, aBin, intBin, aUn, Option.map_some, Bool.and_true, Bool.true_and, Bool.and_self, true_and, and_true, List.map_cons, List.map_nil, List.toList_toArray, List.getElem?_toArray, List.getElem?_cons_zero, List.getElem?_cons_succ, Option.getD_some, Option.getD_none, if_true, if_false, Bool.false_eq_true, eq_self_iff_true, reduceIte, Nat.reduceLT, Nat.reduceEqDiff, decide_true, decide_false, List.cons_append, aExtract, bodyR_ret, bodyR_normal, resL, resV, List.getD_cons_zero, List.getD_cons_succ, List.getD_nil, Nat.succ_ne_self, reduceCtorEq, hn, hd, h0, h1, l2, List.length_map, hp, false_and, Bool.not_false, chainE]
    exact hsub


/-- What Load hands back. -/
def IsLoad (zs : List Int) (bs out : List Bool) : Prop := out.length = zs.length ∧ ∀ k z, zs[k]? = some z → out[zs.length - 1 - k]? = bs[z.toNat]?
/-- What Unload hands back. -/
def IsUnload (zs : List Int) (bs out : List Bool) : Prop := out.length = zs.length ∧ ∀ k z, zs[k]? = some z → out[z.toNat]? = bs[zs.length - 1 - k]?

def LoadPost (R : List Int → List Bool → List Bool → Prop) (zs : List Int) (bs : List Bool) (h : AH) (r : Value) (h' : AH) : Prop :=
  Sub h h' ∧ ((chainE zs bs.length ≠ 0 ∧ r = .tuple #[.slice none 0 0, .int .i64 (chainE zs bs.length)]) ∨
    (chainE zs bs.length = 0 ∧ ∃ u out, r = .tuple #[u, .int .i64 0] ∧ R zs bs out ∧ SlOf h' u (out.map .bool)))

theorem chainE_zero {zs : List Int} {k : Nat} (h : chainE zs k = 0) : IsPerm zs ∧ k = zs.length := by
  unfold chainE at h
  split at h
  · rename_i hp
    split at h
    · rename_i hk; exact ⟨hp, hk⟩
    · omega
  · omega

set_option maxRecDepth 100000 in
theorem load {h : AH} {v1 v2 : Value} {zs : List Int} {bs : List Bool} (hv : SlOf h v1 (zs.map (.int .i64))) (hw : SlOf h v2 (bs.map .bool)) (hb : zs.length ≤ 17592186043904) :
    ACall Try.prog 10 [v1, v2] h (LoadPost IsLoad zs bs h) := by
  refine ACall.wf ⟨_, Try.func10, rfl, by kernel_rfl⟩ fun hwf => ?_
  refine ACall.of_wp 40 [.tmp 4, .tmp 5] Try.func10 rfl (by kernel_rfl) rfl rfl fun a hn hd ha => ?_
  have h0 := ha 0
  have h1 := ha 1
  have l1 := hw.len Try.underlying23
  simp only [List.getD_cons_zero, List.getD_cons_succ] at h0 h1
  simp only [wpA_skip, wpA_ret, wpA_exit, wpA_seq, wpA_block, wpA_cond, wpA_region, wpA_draw, wpA_loop, thenQ_normal, thenQ_ret, thenQ_exit, blockQ_normal, blockQ_ret, blockQ_exit, condV_true, condV_false, opsM_nil, opsM_cons, seqM, okB, Keeps_nil, contK_app, List.zip_cons_cons, List.zip_nil_left, List.zip_nil_right, Op.operands, Call.operands, Array.toList_append, List.append_nil, List.nil_append, List.all_cons, List.all_nil, cOK, plain, put_n, put_tm, put_none, put_df, ev_tmp, ev_const, ev_func, wanted_none, wanted_some, callR_func, dop, ex_some1, aBuiltin, aBin, intBin, aUn, Option.map_some, Bool.and_true, Bool.true_and, Bool.and_self, true_and, and_true, List.map_cons, List.map_nil, List.toList_toArray, List.getElem?_toArray, List.getElem?_cons_zero, List.getElem?_cons_succ, Option.getD_some, Option.getD_none, if_true, if_false, Bool.false_eq_true, eq_self_iff_true, reduceIte, Nat.reduceLT, Nat.reduceEqDiff, decide_true, decide_false, List.cons_append, aExtract, bodyR_ret, bodyR_normal, resL, resV, List.getD_cons_zero, List.getD_cons_succ, List.getD_nil, Nat.succ_ne_self, reduceCtorEq, hn, hd, h0, h1, l1, List.length_map]
  refine ACall.mono ?_ (ACall.wfPost (chain (k := bs.length) hv hb))
  rintro r h2 ⟨⟨rfl, hsub⟩, hwf2⟩
  have hv2 := hv.sub hsub
  have l2 := hv2.len Try.underlying22
  by_cases hc : chainE zs bs.length = 0
  · obtain ⟨hp, hk⟩ := chainE_zero hc
    have hmk := aMakeSlice_at t23 h2 zs.length (by omega) (by omega)
    simp only [wpA_skip, wpA_ret, wpA_exit, wpA_seq, wpA_block, wpA_cond, wpA_region, wpA_draw, wpA_loop, thenQ_normal, thenQ_ret, thenQ_exit, blockQ_normal, blockQ_ret, blockQ_exit, condV_true, condV_false, opsM_nil, opsM_cons, seqM, okB, Keeps_nil, contK_app, List.zip_cons_cons, List.zip_nil_left, List.zip_nil_right, Op.operands, Call.operands, Array.toList_append, List.append_nil, List.nil_append, List.all_cons, List.all_nil, cOK, plain, put_n, put_tm, put_none, put_df, ev_tmp, ev_const, ev_func, wanted_none, wanted_some, callR_func, dop, ex_some1, aBuiltin, aBin, intBin, aUn, Option.map_some, Bool.and_true, Bool.true_and, Bool.and_self, true_and, and_true, List.map_cons, List.map_nil, List.toList_toArray, List.getElem?_toArray, List.getElem?_cons_zero, List.getElem?_cons_succ, Option.getD_some, Option.getD_none, if_true, if_false, Bool.false_eq_true, eq_self_iff_true, reduceIte, Nat.reduceLT, Nat.reduceEqDiff, decide_true, decide_false, List.cons_append, aExtract, bodyR_ret, bodyR_normal, resL, resV, List.getD_cons_zero, List.getD_cons_succ, List.getD_nil, Nat.succ_ne_self, reduceCtorEq, hn, hd, h0, h1, l2, List.length_map, hc, hmk, bne_self_eq_false]
    have hsub3 := fun A o x => Sub.new hwf2 (.row (List.replicate zs.length (.bool false)) 4 true) A o (hsub A o x)
    have l3 := (hv.sub hsub3).len Try.underlying22
    simp only [wpA_skip, wpA_ret, wpA_exit, wpA_seq, wpA_block, wpA_cond, wpA_region, wpA_draw, wpA_loop, thenQ_normal, thenQ_ret, thenQ_exit, blockQ_normal, blockQ_ret, blockQ_exit, condV_true, condV_false, opsM_nil, opsM_cons, seqM, okB, Keeps_nil, contK_app, List.zip_cons_cons, List.zip_nil_left, List.zip_nil_right, Op.operands, Call.operands, Array.toList_append, List.append_nil, List.nil_append, List.all_cons, List.all_nil, cOK, plain, put_n, put_tm, put_none, put_df, ev_tmp, ev_const, ev_func, wanted_none, wanted_some, callR_func, dop, ex_some1, aBuiltin, aBin, intBin, aUn, Option.map_some, Bool.and_true, Bool.true_and, Bool.and_self, true_and, and_true, List.map_cons, List.map_nil, List.toList_toArray, List.getElem?_toArray, List.getElem?_cons_zero, List.getElem?_cons_succ, Option.getD_some, Option.getD_none, if_true, if_false, Bool.false_eq_true, eq_self_iff_true, reduceIte, Nat.reduceLT, Nat.reduceEqDiff, decide_true, decide_false, List.cons_append, aExtract, bodyR_ret, bodyR_normal, resL, resV, List.getD_cons_zero, List.getD_cons_succ, List.getD_nil, Nat.succ_ne_self, reduceCtorEq, hn, hd, h0, h1, l3, List.length_map]
    have hA : h.get h2.next = none := by
      cases e : h.get h2.next with
      | none => rfl
      | some o => have := hsub _ _ e; rw [hwf2 _ (Nat.le_refl _)] at this; cases this
    generalize hAe : h2.next = A at *
    refine AW.loop (fun m a' h' => Sub h h' ∧ a'.n = 40 ∧ a'.df = [] ∧ a'.tm 0 = v1 ∧ a'.tm 1 = v2 ∧ a'.tm 7 = .slice (some ⟨A, 0, none⟩) zs.length zs.length ∧ a'.tm 20 = v1 ∧ a'.tm 21 = .int .i64 zs.length ∧
        ∃ (i : Nat) (out : List Bool), a'.tm 22 = .int .i64 i ∧ i + m = zs.length ∧ h'.get A = some (.row (out.map .bool) 4 true) ∧ out.length = zs.length ∧
          ∀ k z, k < i → zs[k]? = some z → out[zs.length - 1 - k]? = bs[z.toNat]?) zs.length ?_ ?_
    · refine ⟨hsub3, by simp only [put_n, hn], by simp only [put_df, hd], by simp [put_tm, h0], by simp [put_tm, h1], by simp [put_tm], by simp [put_tm], by simp [put_tm], 0, List.replicate zs.length false, by simp [put_tm], by omega, by simp [AH.new_get, hAe], by simp, fun k z hk => by omega⟩
    · rintro m a' h' ⟨hs', hn, hd, h0, h1, h7, h20, h21, i, out, h22, him, hg, hlen, hall⟩
      refine wpA_sound _ _ _ _ ?_
      simp only [wpA_skip, wpA_ret, wpA_exit, wpA_seq, wpA_block, wpA_cond, wpA_region, wpA_draw, wpA_loop, thenQ_normal, thenQ_ret, thenQ_exit, blockQ_normal, blockQ_ret, blockQ_exit, condV_true, condV_false, opsM_nil, opsM_cons, seqM, okB, Keeps_nil, contK_app, List.zip_cons_cons, List.zip_nil_left, List.zip_nil_right, Op.operands, Call.operands, Array.toList_append, List.append_nil, List.nil_append, List.all_cons, List.all_nil, cOK, plain, put_n, put_tm, put_none, put_df, ev_tmp, ev_const, ev_func, wanted_none, wanted_some, callR_func, dop, ex_some1, aBuiltin, aBin, intBin, aUn, Option.map_some, Bool.and_true, Bool.true_and, Bool.and_self, true_and, and_true, List.map_cons, List.map_nil, List.toList_toArray, List.getElem?_toArray, List.getElem?_cons_zero, List.getElem?_cons_succ, Option.getD_some, Option.getD_none, if_true, if_false, Bool.false_eq_true, eq_self_iff_true, reduceIte, Nat.reduceLT, Nat.reduceEqDiff, decide_true, decide_false, List.cons_append, aExtract, bodyR_ret, bodyR_normal, resL, resV, List.getD_cons_zero, List.getD_cons_succ, List.getD_nil, Nat.succ_ne_self, reduceCtorEq, hn, hd, h0, h1, h7, h20, h21, h22]
      refine condV_of (fun hlt => ?_) (fun hge => ?_)
      · have hi : i < zs.length := by simpa using hlt
        obtain ⟨z0, hz0, hze⟩ := hp.range (List.getElem_mem hi)
        have hzi : zs[i]? = some ((z0 : Nat) : Int) := by rw [List.getElem?_eq_getElem hi, hze]
        obtain ⟨q1, e1, e2⟩ := (hv.sub hs').at sl22 (k := .i64) (i := i) (x := .int .i64 z0) (by simp [hzi])
        obtain ⟨q2, e3, e4⟩ := (hw.sub hs').at sl23 (k := .i64) (i := z0) (x := .bool (bs[z0]'(by omega))) (by simp [show z0 < bs.length by omega])
        have w1 : IntKind.i64.wrap ((zs.length : Int) - 1) = (zs.length : Int) - 1 := by rw [Go.IntWalk.i64_in _ (by omega)]
        have w2 : IntKind.i64.wrap ((zs.length : Int) - 1 - i) = ((zs.length - 1 - i : Nat) : Int) := by rw [Go.IntWalk.i64_in _ (by omega)]; omega
        have e5 := aIndexAddr_in t23 (A := A) (off := 0) (cap := zs.length) (k := .i64) (n := ((zs.length - 1 - i : Nat) : Int)) rfl (show zs.length - 1 - i < zs.length by omega)
        have hoff : 0 + (zs.length - 1 - i) < (out.map Value.bool).length := by simp; omega
        have e6 := aStore_row t23 (x := .bool (bs[z0]'(by omega))) hg hoff rfl rfl
        have l7 : aLen Try.prog 23 (.slice (some ⟨A, 0, none⟩) zs.length zs.length) h' = some (.int .i64 zs.length) := by simp only [aLen, Try.underlying23]
        have hw3 : IntKind.i64.wrap ((i : Int) + 1) = ((i + 1 : Nat) : Int) := by rw [Go.IntWalk.i64_in _ (by omega)]; omega
        simp only [wpA_skip, wpA_ret, wpA_exit, wpA_seq, wpA_block, wpA_cond, wpA_region, wpA_draw, wpA_loop, thenQ_normal, thenQ_ret, thenQ_exit, blockQ_normal, blockQ_ret, blockQ_exit, condV_true, condV_false, opsM_nil, opsM_cons, seqM, okB, Keeps_nil, contK_app, List.zip_cons_cons, List.zip_nil_left, List.zip_nil_right, Op.operands, Call.operands, Array.toList_append, List.append_nil, List.nil_append, List.all_cons, List.all_nil, cOK, plain, put_n, put_tm, put_none, put_df, ev_tmp, ev_const, ev_func, wanted_none, wanted_some, callR_func, dop, ex_some1, aBuiltin, aBin, intBin, aUn, Option.map_some, Bool.and_true, Bool.true_and, Bool.and_self, true_and, and_true, List.map_cons, List.map_nil, List.toList_toArray, List.getElem?_toArray, List.getElem?_cons_zero, List.getElem?_cons_succ, Option.getD_some, Option.getD_none, if_true, if_false, Bool.false_eq_true, eq_self_iff_true, reduceIte, Nat.reduceLT, Nat.reduceEqDiff, decide_true, decide_false, List.cons_append, aExtract, bodyR_ret, bodyR_normal, resL, resV, List.getD_cons_zero, List.getD_cons_succ, List.getD_nil, Nat.succ_ne_self, reduceCtorEq, hn, hd, h0, h1, h7, h20, h21, h22, e1, e2, e3, e4, l7, w1, w2, e5, e6, hw3]
        refine ⟨m - 1, by omega, fun B o hB => ?_, i + 1, out.set (zs.length - 1 - i) (bs[z0]'(by omega)), rfl, by omega, by simp [AH.set_get, List.map_set], by simp [hlen], fun k z hk hz => ?_⟩
        · rw [AH.set_get, if_neg]
          · exact hs' B o hB
          · intro e; subst e; rw [hA] at hB; cases hB
        · by_cases e : k = i
          · subst e
            rw [hzi] at hz; cases hz
            rw [List.getElem?_set_self (by omega)]
            simp [show z0 < bs.length by omega]
          · have hkz : k < zs.length := (List.getElem?_eq_some_iff.1 hz).1
            rw [List.getElem?_set_ne (by omega)]
            exact hall k z (by omega) hz
      · have hge : zs.length ≤ i := by simpa using hge
        simp only [wpA_skip, wpA_ret, wpA_exit, wpA_seq, wpA_block, wpA_cond, wpA_region, wpA_draw, wpA_loop, thenQ_normal, thenQ_ret, thenQ_exit, blockQ_normal, blockQ_ret, blockQ_exit, condV_true, condV_false, opsM_nil, opsM_cons, seqM, okB, Keeps_nil, contK_app, List.zip_cons_cons, List.zip_nil_left, List.zip_nil_right, Op.operands, Call.operands, Array.toList_append, List.append_nil, List.nil_append, List.all_cons, List.all_nil, cOK, plain, put_n, put_tm, put_none, put_df, ev_tmp, ev_const, ev_func, wanted_none, wanted_some, callR_func, dop, ex_some1, aBuiltin, aBin, intBin, aUn, Option.map_some, Bool.and_true, Bool.true_and, Bool.and_self, true_and, and_true, List.map_cons, List.map_nil, List.toList_toArray, List.getElem?_toArray, List.getElem?_cons_zero, List.getElem?_cons_succ, Option.getD_some, Option.getD_none, if_true, if_false, Bool.false_eq_true, eq_self_iff_true, reduceIte, Nat.reduceLT, Nat.reduceEqDiff, decide_true, decide_false, List.cons_append, aExtract, bodyR_ret, bodyR_normal, resL, resV, List.getD_cons_zero, List.getD_cons_succ, List.getD_nil, Nat.succ_ne_self, reduceCtorEq, hn, hd, h0, h1, h7, h20, h21, h22]
        refine ⟨hs', .inr ⟨hc, _, out, rfl, ⟨hlen, fun k z hz => hall k z ?_ hz⟩, some ⟨A, 0, none⟩, _, _, rfl, by simp [hlen], fun q e => by cases e; rfl, .inr ⟨A, 0, _, _, rfl, hg, rfl, fun j x hx => by rw [Nat.zero_add]; exact hx⟩⟩⟩
        have := (List.getElem?_eq_some_iff.1 hz).1
        omega
  · have hne : (chainE zs bs.length != 0) = true := by simpa using hc
    simp only [wpA_skip, wpA_ret, wpA_exit, wpA_seq, wpA_block, wpA_cond, wpA_region, wpA_draw, wpA_loop, thenQ_normal, thenQ_ret, thenQ_exit, blockQ_normal, blockQ_ret, blockQ_exit, condV_true, condV_false, opsM_nil, opsM_cons, seqM, okB, Keeps_nil, contK_app, List.zip_cons_cons, List.zip_nil_left, List.zip_nil_right, Op.operands, Call.operands, Array.toList_append, List.append_nil, List.nil_append, List.all_cons, List.all_nil, cOK, plain, put_n, put_tm, put_none, put_df, ev_tmp, ev_const, ev_func, wanted_none, wanted_some, callR_func, dop, ex_some1, aBuiltin, aBin, intBin, aUn, Option.map_some, Bool.and_true, Bool.true_and, Bool.and_self, true_and, and_true, List.map_cons, List.map_nil, List.toList_toArray, List.getElem?_toArray, List.getElem?_cons_zero, List.getElem?_cons_succ, Option.getD_some, Option.getD_none, if_true, if_false, Bool.false_eq_true, eq_self_iff_true, reduceIte, Nat.reduceLT, Nat.reduceEqDiff, decide_true, decide_false, List.cons_append, aExtract, bodyR_ret, bodyR_normal, resL, resV, List.getD_cons_zero, List.getD_cons_succ, List.getD_nil, Nat.succ_ne_self, reduceCtorEq, hn, hd, h0, h1, hne]
    exact ⟨hsub, .inl ⟨hc, rfl⟩⟩

end Go.Ab.S1

namespace Go.Ab
open Go.ChangeShapes Go.WideShapes Go.ChangeAt Go.RowKit

def AllRO (h : AH) : Prop := ∀ A o, h.get A = some o → o.own = false

end Go.Ab

namespace Go.Ab

section
variable {P : Program}

theorem g1 (b : Bool) : ((some b : Option Bool) == some false) = !b := by cases b <;> rfl
theorem g2 (b : Bool) : ((some b : Option Bool) == some true) = b := by cases b <;> rfl

theorem g3 (b : Bool) : ((none : Option Bool) == some b) = false := rfl

/-- The truth that a guard looks at. -/
def isB (v : Value) : Option Bool := match v with
  | .bool b => some b
  | _ => none
theorem isB_bool (b : Bool) : isB (.bool b) = some b := rfl
theorem isB_undef : isB undef = none := rfl
theorem yieldedA2 (ops : Array Oper) (a : AAct) (j : Nat) : yieldedA ops a j = match (ops[j]?).bind (·.dst) with
    | some t => if t < a.n then isB (a.tm t) else none
    | none => none := rfl

/-- One operation, behind its guard. -/
def stepM (P : Program) (ops : Array Oper) (N : AAct → AH → Prop) (o : Oper) (l : List Oper) (a : AAct) (h : AH) : Prop :=
  match o.op with
  | .call { callee := .value f, args, .. } => callR P (a.ev f) (args.toList.map a.ev) h (contK (opsM P ops N l) o.dst a)
  | .next it false => NextW (a.ev it) h (contK (opsM P ops N l) o.dst a)
  | op => match dop P a.ev op h with
    | some (v, h') => opsM P ops N l (a.put o.dst v) h'
    | none => False

def wantM (w : Bool) (P : Program) (ops : Array Oper) (N : AAct → AH → Prop) (o : Oper) (l : List Oper) (a : AAct) (h : AH) : Prop :=
  match w with
  | false => opsM P ops N l (a.put o.dst undef) h
  | true => stepM P ops N o l a h

def okM (k : Bool) (P : Program) (ops : Array Oper) (N : AAct → AH → Prop) (o : Oper) (l : List Oper) (a : AAct) (h : AH) : Prop :=
  match k with
  | false => False
  | true => wantM (Region.wanted o (yieldedA ops a)) P ops N o l a h

theorem okM_true {ops : Array Oper} {N : AAct → AH → Prop} {o : Oper} {l : List Oper} {a : AAct} {h : AH} : okM true P ops N o l a h = wantM (Region.wanted o (yieldedA ops a)) P ops N o l a h := rfl

theorem opsM_cons2 {ops : Array Oper} {N : AAct → AH → Prop} {o : Oper} {l : List Oper} {a : AAct} {h : AH} : opsM P ops N (o :: l) a h = okM (okB o a) P ops N o l a h := by
  rw [opsM_cons]
  cases okB o a
  · rfl
  · simp only [okM_true, wantM]
    cases Region.wanted o (yieldedA ops a)
    · rfl
    · simp only [stepM]
      obtain ⟨dst, op, ty, pos, after, guard⟩ := o
      cases op with
      | call c => obtain ⟨f, args, at'⟩ := c; cases f <;> rfl
      | next it b => cases b <;> rfl
      | _ => rfl

theorem wantM_true {ops : Array Oper} {N : AAct → AH → Prop} {o : Oper} {l : List Oper} {a : AAct} {h : AH} : wantM true P ops N o l a h = stepM P ops N o l a h := rfl
theorem wantM_false {ops : Array Oper} {N : AAct → AH → Prop} {o : Oper} {l : List Oper} {a : AAct} {h : AH} : wantM false P ops N o l a h = opsM P ops N l (a.put o.dst undef) h := rfl
theorem wantM_of {b : Bool} {ops : Array Oper} {N : AAct → AH → Prop} {o : Oper} {l : List Oper} {a : AAct} {h : AH} (ht : b = true → stepM P ops N o l a h) (hf : b = false → opsM P ops N l (a.put o.dst undef) h) : wantM b P ops N o l a h := by
  cases b
  · exact hf rfl
  · exact ht rfl
theorem wantM_not {b : Bool} {ops : Array Oper} {N : AAct → AH → Prop} {o : Oper} {l : List Oper} {a : AAct} {h : AH} (ht : b = true → opsM P ops N l (a.put o.dst undef) h) (hf : b = false → stepM P ops N o l a h) : wantM (!b) P ops N o l a h := by
  cases b
  · exact hf rfl
  · exact ht rfl

theorem ex_some0 {α : Type} {x : α} : (∃ v, some x = some v) = True := by simp
/-- Both; the second unapplied, so that it is looked at once. -/
def andK (A : Prop) (F : AAct → AH → Prop) (a : AAct) (h : AH) : Prop := A ∧ F a h
theorem andK_true {F : AAct → AH → Prop} {a : AAct} {h : AH} : andK True F a h = F a h := by simp [andK]

theorem wpA_cond2 {rd : Option Nat} {Q : Exit → AAct → AH → Prop} {a : AAct} {h : AH} {c : Operand} {x y : Code} : wpA P rd (.cond c x y) Q a h = andK (cOK c = true) (condV (a.ev c) (wpA P rd x Q) (wpA P rd y Q)) a h := rfl

theorem condV_not {b : Bool} {F G : AAct → AH → Prop} {a : AAct} {h : AH} (hf : b = false → F a h) (ht : b = true → G a h) : condV (.bool (!b)) F G a h := by
  cases b
  · exact hf rfl
  · exact ht rfl
theorem closeMarks_nil (h : AH) : closeMarks [] h = some h := rfl
theorem bodyR_ret2 {rs : List ResultVar} {K : Value → AH → Prop} {a : AAct} {h : AH} : bodyR P rs K .ret a h = ∃ h', closeMarks a.df h = some h' ∧ ∃ vs, resL P a.tm h' rs = some vs ∧ K (resV vs) h' := by
  apply propext
  constructor
  · rintro ⟨_, h', vs, e, x, y⟩; exact ⟨h', e, vs, x, y⟩
  · rintro ⟨h', e, vs, x, y⟩; exact ⟨.inr rfl, h', vs, e, x, y⟩
theorem bodyR_normal2 {rs : List ResultVar} {K : Value → AH → Prop} {a : AAct} {h : AH} : bodyR P rs K .normal a h = ∃ h', closeMarks a.df h = some h' ∧ ∃ vs, resL P a.tm h' rs = some vs ∧ K (resV vs) h' := by
  apply propext
  constructor
  · rintro ⟨_, h', vs, e, x, y⟩; exact ⟨h', e, vs, x, y⟩
  · rintro ⟨h', e, vs, x, y⟩; exact ⟨.inl rfl, h', vs, e, x, y⟩

/-! ### Drawn regions -/

def stepS (P : Program) (ops : Array Oper) (N : AAct → AH → Prop) (k : Nat) (o : Oper) (l : List (Nat × Oper)) (R : List (Oper × Value)) (a : AAct) (h : AH) : Prop :=
  match k with
  | 0 => (match dop P a.ev o.op h with
    | some (v, h') => andK (h' = h) (seqM P ops N l R) (a.put o.dst v) h
    | none => False)
  | 1 => (match dop P a.ev o.op h with
    | some (v, h') => andK (h' = h) (seqM P ops N l ((o, v) :: R)) (a.put o.dst v) h
    | none => False)
  | _ => match o.op with
    | .call { callee := .value f, args, .. } => callR P (a.ev f) (args.toList.map a.ev) h (contK (fun a h => andK (Keeps P ops R a h) (seqM P ops N l R) a h) o.dst a)
    | .next it false => NextW (a.ev it) h (contK (fun a h => andK (Keeps P ops R a h) (seqM P ops N l R) a h) o.dst a)
    | op => match dop P a.ev op h with
      | some (v, h') => andK (Keeps P ops R (a.put o.dst v) h') (seqM P ops N l R) (a.put o.dst v) h'
      | none => False

def skipS (P : Program) (ops : Array Oper) (N : AAct → AH → Prop) (k : Nat) (o : Oper) (l : List (Nat × Oper)) (R : List (Oper × Value)) (a : AAct) (h : AH) : Prop :=
  match k with
  | 0 => seqM P ops N l R (a.put o.dst undef) h
  | 1 => seqM P ops N l ((o, undef) :: R) (a.put o.dst undef) h
  | _ => andK (Keeps P ops R (a.put o.dst undef) h) (seqM P ops N l R) (a.put o.dst undef) h

def wantS (w : Bool) (P : Program) (ops : Array Oper) (N : AAct → AH → Prop) (k : Nat) (o : Oper) (l : List (Nat × Oper)) (R : List (Oper × Value)) (a : AAct) (h : AH) : Prop :=
  match w with
  | false => skipS P ops N k o l R a h
  | true => stepS P ops N k o l R a h

def okS (b : Bool) (P : Program) (ops : Array Oper) (N : AAct → AH → Prop) (k : Nat) (o : Oper) (l : List (Nat × Oper)) (R : List (Oper × Value)) (a : AAct) (h : AH) : Prop :=
  match b with
  | false => False
  | true => wantS (Region.wanted o (yieldedA ops a)) P ops N k o l R a h

theorem okS_true {ops : Array Oper} {N : AAct → AH → Prop} {k : Nat} {o : Oper} {l : List (Nat × Oper)} {R : List (Oper × Value)} {a : AAct} {h : AH} : okS true P ops N k o l R a h = wantS (Region.wanted o (yieldedA ops a)) P ops N k o l R a h := rfl
theorem seqM_nil2 {ops : Array Oper} {N : AAct → AH → Prop} {R : List (Oper × Value)} {a : AAct} {h : AH} : seqM P ops N [] R a h = N a h := rfl
theorem seqM_cons2 {ops : Array Oper} {N : AAct → AH → Prop} {k : Nat} {o : Oper} {l : List (Nat × Oper)} {R : List (Oper × Value)} {a : AAct} {h : AH} :
    seqM P ops N ((k, o) :: l) R a h = okS (okB o a) P ops N k o l R a h := by
  cases hk : okB o a
  · simp [seqM, hk, okS]
  · simp only [seqM, hk, okS_true, wantS]
    rcases k with _ | _ | k
    · cases Region.wanted o (yieldedA ops a) <;> rfl
    · cases Region.wanted o (yieldedA ops a) <;> rfl
    · cases Region.wanted o (yieldedA ops a)
      · rfl
      · simp only [stepS]
        obtain ⟨dst, op, ty, pos, after, guard⟩ := o
        cases op with
        | call c => obtain ⟨f, args, at'⟩ := c; cases f <;> rfl
        | next it b => cases b <;> rfl
        | _ => rfl

theorem wantS_true {ops : Array Oper} {N : AAct → AH → Prop} {k : Nat} {o : Oper} {l : List (Nat × Oper)} {R : List (Oper × Value)} {a : AAct} {h : AH} : wantS true P ops N k o l R a h = stepS P ops N k o l R a h := rfl
theorem wantS_false {ops : Array Oper} {N : AAct → AH → Prop} {k : Nat} {o : Oper} {l : List (Nat × Oper)} {R : List (Oper × Value)} {a : AAct} {h : AH} : wantS false P ops N k o l R a h = skipS P ops N k o l R a h := rfl
theorem wantS_not {b : Bool} {ops : Array Oper} {N : AAct → AH → Prop} {k : Nat} {o : Oper} {l : List (Nat × Oper)} {R : List (Oper × Value)} {a : AAct} {h : AH} (ht : b = true → skipS P ops N k o l R a h) (hf : b = false → stepS P ops N k o l R a h) : wantS (!b) P ops N k o l R a h := by
  cases b
  · exact hf rfl
  · exact ht rfl

theorem Keeps_cons {ops : Array Oper} {o : Oper} {v : Value} {R : List (Oper × Value)} {a : AAct} {h : AH} : Keeps P ops ((o, v) :: R) a h = (Still P ops o v a h ∧ Keeps P ops R a h) := by
  apply propext
  constructor
  · intro k; exact ⟨k (o, v) (by simp), fun p hp => k p (by simp [hp])⟩
  · rintro ⟨k1, k2⟩ p hp
    rcases List.mem_cons.1 hp with rfl | hp
    · exact k1
    · exact k2 p hp
theorem Still_eq {ops : Array Oper} {o : Oper} {v : Value} {a : AAct} {h : AH} : Still P ops o v a h = (okB o a = true ∧ if Region.wanted o (yieldedA ops a) = true then dop P a.ev o.op h = some (v, h) else v = undef) := by
  apply propext
  constructor
  · rintro ⟨h1, h2, h3⟩
    refine ⟨?_, h3⟩
    simp only [okB, h1, Bool.true_and]
    cases hd : o.dst with
    | none => rfl
    | some t => rw [hd] at h2; exact decide_eq_true h2
  · rintro ⟨h1, h3⟩
    exact ⟨(okB_spec h1).1, (okB_spec h1).2, h3⟩

/-- Some of the operations, by their places, with the way each is taken. -/
def op0 : Oper := { dst := none, op := .move (.const (.bool false)), type := 0, pos := "", after := #[], guard := none }
def selL (ops : List Oper) : List (Nat × Nat) → List (Nat × Oper)
  | [] => []
  | (k, i) :: r => (k, ops.getD i op0) :: selL ops r

/-- A drawn region, by a plan of any order. -/
theorem AW.drawP {rd : Option Nat} {id : Nat} {ops : Array Oper} {Q : Exit → AAct → AH → Prop} {a : AAct} {h : AH} (p : Plan) (ix : List (Nat × Nat)) (hm : P.follows .mixedOrders = true)
    (hp : (planOK ops (Array.replicate ops.size false) [] p && decide (p.len ≤ ops.size)) = true) (hk : planK ops p = some (selL ops.toList ix))
    (hx : seqM P ops (Q .normal) (selL ops.toList ix) [] a h) : AW P rd (.region id ops true) Q a h := by
  rw [Bool.and_eq_true] at hp
  exact AW.plan p hm hp.1 (of_decide_eq_true hp.2) (seqM_sound p _ [] a h hk hx)

/-! ### Loops -/

/-- The temporaries that a loop leaves: those below 'lo', but for X. -/
def Kp (lo : Nat) (X : List Nat) (a0 a : AAct) : Prop := a.n = a0.n ∧ a.df = a0.df ∧ ∀ i, i < lo → i ∉ X → a.tm i = a0.tm i

theorem Kp.refl (lo : Nat) (X : List Nat) (a : AAct) : Kp lo X a a := ⟨rfl, rfl, fun _ _ _ => rfl⟩
theorem Kp.put {lo : Nat} {X : List Nat} {a0 a : AAct} (h : Kp lo X a0 a) {t : Tmp} {v : Value} (ht : (decide (lo ≤ t) || X.contains t) = true) : Kp lo X a0 (a.put (some t) v) := by
  refine ⟨h.1, h.2.1, fun i hi hx => ?_⟩
  rw [put_tm, if_neg]
  · exact h.2.2 i hi hx
  · rintro rfl
    simp at ht
    rcases ht with ht | ht
    · omega
    · exact hx ht
theorem Kp_put {lo : Nat} {X : List Nat} {a0 a : AAct} {t : Tmp} {v : Value} (ht : (decide (lo ≤ t) || X.contains t) = true) : Kp lo X a0 (a.put (some t) v) = Kp lo X a0 a := by
  apply propext
  constructor
  · intro h
    refine ⟨h.1, (put_df a (some t) v).symm.trans h.2.1, fun i hi hx => ?_⟩
    have := h.2.2 i hi hx
    rw [put_tm, if_neg] at this
    · exact this
    · rintro rfl
      simp at ht
      rcases ht with ht | ht
      · omega
      · exact hx ht
  · exact fun h => h.put ht
theorem Kp.none {lo : Nat} {X : List Nat} {a0 a : AAct} (h : Kp lo X a0 a) {v : Value} : Kp lo X a0 (a.put none v) := h
theorem Kp.trans {lo lo' : Nat} {X X' : List Nat} {a0 a1 a : AAct} (h : Kp lo X a0 a1) (g : Kp lo' X' a1 a) (hl : lo ≤ lo') (hX : ∀ i ∈ X', i < lo → i ∈ X) : Kp lo X a0 a :=
  ⟨g.1.trans h.1, g.2.1.trans h.2.1, fun i hi hx => (g.2.2 i (by omega) (fun hm => hx (hX i hm hi))).trans (h.2.2 i hi hx)⟩
theorem Kp.n {lo : Nat} {X : List Nat} {a0 a : AAct} (h : Kp lo X a0 a) : a.n = a0.n := h.1
theorem Kp.df {lo : Nat} {X : List Nat} {a0 a : AAct} (h : Kp lo X a0 a) : a.df = a0.df := h.2.1
theorem Kp.tm {lo : Nat} {X : List Nat} {a0 a : AAct} (h : Kp lo X a0 a) : ∀ i, i < lo → i ∉ X → a.tm i = a0.tm i := h.2.2

/-- Behind a round. -/
def loopQ (lo : Nat) (X : List Nat) (a0 : AAct) (I : Nat → AAct → AH → Prop) (m : Nat) (a : AAct) (h : AH) : Prop := ∃ m', m' < m ∧ Kp lo X a0 a ∧ I m' a h

theorem AW.loopK {rd : Option Nat} {c : Code} {Q : Exit → AAct → AH → Prop} {a0 : AAct} {h : AH} (lo : Nat) (X : List Nat) (I : Nat → AAct → AH → Prop) (m : Nat) (h0 : I m a0 h)
    (round : ∀ m a h, Kp lo X a0 a → I m a h → wpA P rd c (thenQ (loopQ lo X a0 I m) Q) a h) : AW P rd (.loop c) Q a0 h := by
  refine AW.loop (fun m a h => Kp lo X a0 a ∧ I m a h) m ⟨Kp.refl _ _ _, h0⟩ ?_
  rintro m a h ⟨hk, hI⟩
  refine AW.mono ?_ (wpA_sound _ _ _ _ (round m a h hk hI))
  intro e a h hq
  cases e with
  | normal => obtain ⟨m', h1, h2, h3⟩ := hq; exact ⟨m', h1, h2, h3⟩
  | _ => exact hq

/-- The same; the state at the loop's head stays a name. -/
theorem AW.loopN {rd : Option Nat} {c : Code} {Q : Exit → AAct → AH → Prop} {a0 : AAct} {h : AH} (lo : Nat) (X : List Nat) (I : Nat → AAct → AH → Prop) (m : Nat) (h0 : I m a0 h)
    (round : ∀ a1 m a h, Kp lo X a1 a → a.n = a0.n → a.df = a0.df → (∀ i, i < lo → i ∉ X → a.tm i = a0.tm i) → I m a h → wpA P rd c (thenQ (loopQ lo X a1 I m) Q) a h) : AW P rd (.loop c) Q a0 h :=
  AW.loopK lo X I m h0 fun m a h hk hI => round a0 m a h hk hk.1 hk.2.1 hk.2.2 hI

/-! ### Numbers -/

theorem ieq (a b : Int) : (a == b) = decide (a = b) := by
  by_cases h : a = b <;> simp [h]
theorem ine (a b : Int) : (a != b) = !decide (a = b) := by
  by_cases h : a = b <;> simp [h]

theorem wrapI {x : Int} (h0 : -9223372036854775808 ≤ x) (h1 : x < 9223372036854775808) : IntKind.i64.wrap x = x := Go.IntWalk.i64_in _ (by omega)

/-! ### Slices, read -/

/-- The address of a slice's element. -/
def slAt (sz : Nat) (v : Value) (i : Nat) : Value :=
  match v with
  | .slice (some ⟨A, off, none⟩) _ _ => .pointer (some ⟨A, off + i * sz, none⟩)
  | _ => undef

theorem SlOf.idx {h : AH} {v : Value} {vs : List Value} (hs : SlOf h v vs) {t e : TypeId} (ht : Sl1 P t e) : ∀ (k : IntKind) (n : Int), 0 ≤ n → n < vs.length → aIndexAddr P t v (.int k n) = some (slAt 1 v n.toNat) := by
  intro k n h0 hn
  obtain ⟨p, l, c, rfl, rfl, hsp, hcs⟩ := hs
  rcases hcs with rfl | ⟨A, off, o, cs, rfl, hg, hc, hall⟩
  · simp at hn; omega
  · obtain ⟨ie, hi, h1⟩ := ht.one
    simp only [aIndexAddr, ht.sl, hi]
    rw [if_pos ⟨by omega, by omega⟩, h1]; rfl

theorem SlOf.ld {h : AH} {v : Value} {vs : List Value} (hs : SlOf h v vs) {t e : TypeId} (ht : Sl1 P t e) : ∀ (n : Nat), n < vs.length → aLoad P e (slAt 1 v n) h = some (vs.getD n undef) := by
  intro n hn
  obtain ⟨p, l, c, rfl, rfl, hsp, hcs⟩ := hs
  rcases hcs with rfl | ⟨A, off, o, cs, rfl, hg, hc, hall⟩
  · simp at hn
  · obtain ⟨d, hd, hagg⟩ := ht.flat
    simp only [slAt, aLoad, hg, Option.bind_some, hc, hd, hagg, Bool.false_eq_true, if_false, Nat.mul_one]
    rw [hall n vs[n] (List.getElem?_eq_getElem hn)]
    simp [List.getD_eq_getElem?_getD, hn]

/-- Slices of integers. -/
theorem SlOf.idxI {h : AH} {v : Value} {zs : List Int} {k0 : IntKind} (hs : SlOf h v (zs.map (.int k0))) {t e : TypeId} (ht : Sl1 P t e) : ∀ (k : IntKind) (n : Int), 0 ≤ n → n < zs.length → aIndexAddr P t v (.int k n) = some (slAt 1 v n.toNat) :=
  fun k n h0 hn => hs.idx ht k n h0 (by simpa using hn)
theorem SlOf.ldI {h : AH} {v : Value} {zs : List Int} {k0 : IntKind} (hs : SlOf h v (zs.map (.int k0))) {t e : TypeId} (ht : Sl1 P t e) : ∀ (n : Nat), n < zs.length → aLoad P e (slAt 1 v n) h = some (.int k0 (zs.getD n 0)) := by
  intro n hn
  rw [hs.ld ht n (by simpa using hn)]
  simp [List.getD_eq_getElem?_getD, hn]
theorem SlOf.idxB {h : AH} {v : Value} {bs : List Bool} (hs : SlOf h v (bs.map .bool)) {t e : TypeId} (ht : Sl1 P t e) : ∀ (k : IntKind) (n : Int), 0 ≤ n → n < bs.length → aIndexAddr P t v (.int k n) = some (slAt 1 v n.toNat) :=
  fun k n h0 hn => hs.idx ht k n h0 (by simpa using hn)
theorem SlOf.ldB {h : AH} {v : Value} {bs : List Bool} (hs : SlOf h v (bs.map .bool)) {t e : TypeId} (ht : Sl1 P t e) : ∀ (n : Nat), n < bs.length → aLoad P e (slAt 1 v n) h = some (.bool (bs.getD n false)) := by
  intro n hn
  rw [hs.ld ht n (by simpa using hn)]
  simp [List.getD_eq_getElem?_getD, hn]
theorem SlOf.lenM {h : AH} {v : Value} {α : Type} {f : α → Value} {xs : List α} (hs : SlOf h v (xs.map f)) {t e : TypeId} (ht : P.underlying t = some (.slice e)) : aLen P t v h = some (.int .i64 xs.length) := by
  rw [hs.len ht]; simp

/-! ### Rows of one's own -/

theorem lenS {t e : TypeId} (ht : P.underlying t = some (.slice e)) : ∀ (p : Option Addr) (n c : Nat) (h : AH), aLen P t (.slice p n c) h = some (.int .i64 n) := by
  intro p n c h
  simp only [aLen, ht]
theorem SlOf.lit {h : AH} {A cap n : Nat} {o : AObj} {vs : List Value} (hg : h.get A = some o) (ho : o.cells? = some vs) (hn : n = vs.length) : SlOf h (.slice (some ⟨A, 0, none⟩) n cap) vs :=
  ⟨_, _, _, rfl, hn, (fun q x => by cases x; rfl), .inr ⟨A, 0, o, vs, rfl, hg, ho, fun i x hx => by rw [Nat.zero_add]; exact hx⟩⟩

theorem idxL {t e : TypeId} (ht : Sl1 P t e) : ∀ (A off len cap : Nat) (k : IntKind) (n : Int), 0 ≤ n → n < len → aIndexAddr P t (.slice (some ⟨A, off, none⟩) len cap) (.int k n) = some (.pointer (some ⟨A, off + n.toNat, none⟩)) := by
  intro A off len cap k n h0 hn
  obtain ⟨ie, hi, h1⟩ := ht.one
  simp only [aIndexAddr, ht.sl, hi]
  rw [if_pos ⟨h0, hn⟩, h1, Nat.mul_one]

theorem ldRow {t e : TypeId} (ht : Sl1 P t e) {h : AH} {A : Nat} {o : AObj} {α : Type} {f : α → Value} {xs : List α} (d : α) (hg : h.get A = some o) (ho : o.cells? = some (xs.map f)) : ∀ (i : Nat), i < xs.length → aLoad P e (.pointer (some ⟨A, i, none⟩)) h = some (f (xs.getD i d)) := by
  intro i hi
  obtain ⟨D, hd, hagg⟩ := ht.flat
  simp only [aLoad, hg, Option.bind_some, ho, hd, hagg, Bool.false_eq_true, if_false]
  simp [List.getD_eq_getElem?_getD, hi]

theorem stRow {t e : TypeId} (ht : Sl1 P t e) {h : AH} {A : Nat} {α : Type} {f : α → Value} {xs : List α} (hg : h.get A = some (.row (xs.map f) e true)) (hf : ∀ x, (f x).cells.toList = [f x] ∧ oneC (f x) = true) : ∀ (i : Nat) (x : α), i < xs.length →
    aStore P e (.pointer (some ⟨A, i, none⟩)) (f x) h = some (h.set A (.row ((xs.set i x).map f) e true)) := by
  intro i x hi
  obtain ⟨ie, hie, h1⟩ := ht.one
  obtain ⟨hx, ho1⟩ := hf x
  have hc : (f x).cells.size = 1 := by
    have := congrArg List.length hx
    simpa using this
  have hle : i + 1 ≤ xs.length := hi
  simp only [aStore, hie, hc, h1, hx, List.all_cons, List.all_nil, ho1, Bool.and_self, and_self, if_true, hg, AObj.setCells]
  simp [setL, hle, List.map_set]

theorem one_bool : ∀ b : Bool, (Value.bool b).cells.toList = [Value.bool b] ∧ oneC (Value.bool b) = true := fun _ => ⟨rfl, rfl⟩
theorem one_int (k : IntKind) : ∀ b : Int, (Value.int k b).cells.toList = [Value.int k b] ∧ oneC (Value.int k b) = true := fun _ => ⟨rfl, rfl⟩

/-! ### The heap's view, and what grows -/

theorem SlOf.view {h : AH} {v : Value} {vs : List Value} (hs : SlOf h v vs) : SlOf (AH.view h) v vs := by
  obtain ⟨p, l, c, rfl, rfl, hsp, hcs⟩ := hs
  refine ⟨p, _, c, rfl, rfl, hsp, ?_⟩
  rcases hcs with e | ⟨A, off, o, cs, rfl, hg, hc, hall⟩
  · exact .inl e
  · cases o with
    | row c e wr => exact .inr ⟨A, off, .row c e false, cs, rfl, by simp [AH.view, hg, AObj.view], hc, hall⟩
    | grow c e => exact .inr ⟨A, off, .row c e false, cs, rfl, by simp [AH.view, hg, AObj.view], hc, hall⟩
    | _ => simp [AObj.cells?] at hc

/-- Nothing but the blocks of X changes. -/
def FrX (X : List Nat) (h h' : AH) : Prop := ∀ A o, h.get A = some o → A ∉ X → h'.get A = some o

theorem Sub.frx {h0 h h' : AH} {X : List Nat} (hs : Sub h0 h) (hf : FrX X h h') (hX : ∀ B ∈ X, h0.get B = none) : Sub h0 h' :=
  fun A o ha => hf A o (hs A o ha) (fun hm => by rw [hX A hm] at ha; cases ha)
theorem Sub.set {h0 h : AH} (hs : Sub h0 h) {A : Nat} (hA : h0.get A = none) (o : AObj) : Sub h0 (h.set A o) := by
  intro B p hB
  rw [AH.set_get, if_neg]
  · exact hs B p hB
  · rintro rfl; rw [hA] at hB; cases hB
theorem Sub.trans {h0 h h' : AH} (a : Sub h0 h) (b : Sub h h') : Sub h0 h' := fun A o x => b A o (a A o x)
theorem Sub.refl (h : AH) : Sub h h := fun _ _ x => x

theorem AH.get_lt {h : AH} (hw : WFH h) {A : Nat} {o : AObj} (hg : h.get A = some o) : A < h.next := by
  apply Classical.byContradiction
  intro hn
  rw [hw A (by omega)] at hg; cases hg

theorem WFH.new {h : AH} (hw : WFH h) (o : AObj) : WFH (h.new o) := by
  intro A hA
  simp only [AH.new_next] at hA
  rw [AH.new_get, if_neg (by omega)]
  exact hw A (by omega)
theorem WFH.set {h : AH} (hw : WFH h) {A : Nat} (hA : A < h.next) (o : AObj) : WFH (h.set A o) := by
  intro B hB
  simp only [AH.set_next] at hB
  rw [AH.set_get, if_neg (by omega)]
  exact hw B hB
theorem WFH.del {h : AH} (hw : WFH h) (A : Nat) : WFH (h.del A) := by
  intro B hB
  simp only [AH.del_next] at hB
  rw [AH.del_get]; split
  · rfl
  · exact hw B hB

/-- A slice of one's own that is appended to: nil, or the whole of a growing row. 'B' is its row. -/
def OwnSl (e : TypeId) (h : AH) (v : Value) (B : Nat) (vs : List Value) : Prop :=
  (vs = [] ∧ v = .slice none 0 0) ∨ (vs ≠ [] ∧ v = .slice (some ⟨B, 0, none⟩) vs.length (SL + 1) ∧ h.get B = some (.grow vs e))

theorem OwnSl.sl {e : TypeId} {h : AH} {v : Value} {B : Nat} {vs : List Value} (ho : OwnSl e h v B vs) : SlOf h v vs := by
  rcases ho with ⟨rfl, rfl⟩ | ⟨_, rfl, hg⟩
  · exact ⟨none, 0, 0, rfl, rfl, (fun q x => by cases x), .inl rfl⟩
  · exact ⟨_, _, _, rfl, rfl, (fun q x => by cases x; rfl), .inr ⟨B, 0, _, _, rfl, hg, rfl, fun i x hx => by rw [Nat.zero_add]; exact hx⟩⟩

theorem OwnSl.keep {e : TypeId} {h h' : AH} {v : Value} {B : Nat} {vs : List Value} (ho : OwnSl e h v B vs) (hg : vs ≠ [] → h'.get B = h.get B) : OwnSl e h' v B vs := by
  rcases ho with ⟨rfl, rfl⟩ | ⟨hn, rfl, h1⟩
  · exact .inl ⟨rfl, rfl⟩
  · exact .inr ⟨hn, rfl, (hg hn).trans h1⟩

theorem OwnSl.nil (e : TypeId) (h : AH) (B : Nat) : OwnSl e h (.slice none 0 0) B [] := .inl ⟨rfl, rfl⟩

/-- The slice of one element that append is handed. -/
theorem aBuild1 {t e : TypeId} {B : Nat} {z : Value} (ht : SlT P t e B z) (h : AH) {x : Value} (hx : x.cells.toList = [x]) (ho : oneC x = true) :
    aBuildSlice P t 1 [(0, x)] h = some (.slice (some ⟨h.next, 0, none⟩) 1 1, h.new (.row [x] e true)) := by
  obtain ⟨i, hi, h1, hb, hz⟩ := ht.info
  have hc : z.cells.size = 1 := by
    have := congrArg List.length ht.zc
    simpa using this
  have hx1 : x.cells.size = 1 := by
    have := congrArg List.length hx
    simpa using this
  simp only [aBuildSlice, ht.sl, hi, hz, h1, ht.zp, hc, fillL, ht.zc, zeros_one]
  simp [SL, hx, hx1, setL, ho, List.replicate]

/-- What an append of one element makes of the heap. -/
def app1H (e : TypeId) (h : AH) (v x : Value) (vs : List Value) : AH :=
  match v with
  | .slice (some ⟨B, _, _⟩) _ _ => ((h.new (.row [x] e true)).del B).new (.grow (vs ++ [x]) e)
  | _ => (h.new (.row [x] e true)).new (.grow (vs ++ [x]) e)

theorem aAppend1 {t e : TypeId} {B : Nat} {z : Value} (ht : SlT P t e B z) {h : AH} (hw : WFH h) {v x : Value} {A : Nat} {vs : List Value} (ho : OwnSl e h v A vs) (hb : (2 * vs.length + 194) * B ≤ 281474976710656) (hm : vs.length < 4611686018427387903) :
    aAppend P #[t, t] v (.slice (some ⟨h.next, 0, none⟩) 1 1) (h.new (.row [x] e true)) = some (.slice (some ⟨h.next + 1, 0, none⟩) (vs.length + 1) (SL + 1), app1H e h v x vs) := by
  obtain ⟨i, hi, h1, hbb, hzz⟩ := ht.info
  have hc : z.cells.size = 1 := by
    have := congrArg List.length ht.zc
    simpa using this
  have hsrc : srcCells 1 (.slice (some ⟨h.next, 0, none⟩) 1 1) (h.new (.row [x] e true)) = some (1, [x]) := by
    simp [srcCells, AH.new_get, AObj.cells?]
  rcases ho with ⟨rfl, rfl⟩ | ⟨hn, rfl, hg⟩
  · simp only [List.length_nil] at hb
    have hb' : (2 * 1 + 192) * B ≤ 281474976710656 := by omega
    simp [aAppend, ht.sl, hi, hzz, h1, hc, isIntT, hsrc, hbb, hb', ML, app1H, ht.zk]
  · have hA : A < h.next := AH.get_lt hw hg
    have hb' : (2 * (vs.length + 1) + 192) * B ≤ 281474976710656 := by
      have : 2 * (vs.length + 1) + 192 = 2 * vs.length + 194 := by omega
      rw [this]; exact hb
    have hm' : vs.length + 1 < 4611686018427387904 := by omega
    have hne : A ≠ h.next := by omega
    have hcap : ¬ (SL + 1 < SL) := by omega
    simp only [aAppend, ht.sl, hi, hzz, h1, hc, isIntT, hsrc, hbb, AH.new_get, if_neg hne, hg, ML, app1H, List.getElem?_toArray, List.getElem?_cons_zero, List.getElem?_cons_succ, if_neg hcap, Nat.mul_one, Nat.zero_add, Nat.le_refl, hb', hm', List.drop_zero, List.take_length, AH.new_next, ht.zk]
    simp

theorem app1_next {e : TypeId} {h : AH} {v x : Value} {vs : List Value} : (app1H e h v x vs).next = h.next + 2 := by
  unfold app1H; split <;> simp
theorem app1_wf {e : TypeId} {h : AH} {v x : Value} {vs : List Value} (hw : WFH h) : WFH (app1H e h v x vs) := by
  unfold app1H; split
  · exact (((hw.new _).del _).new _)
  · exact ((hw.new _).new _)
theorem app1_own {e : TypeId} {h : AH} {v x : Value} {vs : List Value} : OwnSl e (app1H e h v x vs) (.slice (some ⟨h.next + 1, 0, none⟩) (vs.length + 1) (SL + 1)) (h.next + 1) (vs ++ [x]) := by
  refine .inr ⟨by simp, by simp, ?_⟩
  unfold app1H; split <;> simp [AH.new_get]
theorem app1_frx {e : TypeId} {h : AH} {v x : Value} {A : Nat} {vs : List Value} (hw : WFH h) (ho : OwnSl e h v A vs) : FrX (if vs = [] then [] else [A]) h (app1H e h v x vs) := by
  intro C o hC hX
  have hlt := AH.get_lt hw hC
  rcases ho with ⟨rfl, rfl⟩ | ⟨hn, rfl, hg⟩
  · show ((h.new (.row [x] e true)).new _).get C = _
    rw [AH.new_get, if_neg (by simp; omega), AH.new_get, if_neg (by omega)]; exact hC
  · rw [if_neg hn] at hX
    have hne : C ≠ A := fun x => hX (by simp [x])
    show (((h.new (.row [x] e true)).del A).new _).get C = _
    rw [AH.new_get, if_neg (by simp; omega), AH.del_get, if_neg hne, AH.new_get, if_neg (by omega)]; exact hC

/-- A heap that has grown out of another one. -/
structure Gr (h0 h : AH) : Prop where
  wf : WFH h
  sub : Sub h0 h
  nx : h0.next ≤ h.next

theorem Gr.refl {h : AH} (hw : WFH h) : Gr h h := ⟨hw, Sub.refl h, Nat.le_refl _⟩
theorem Gr.trans {a b c : AH} (x : Gr a b) (y : Gr b c) : Gr a c := ⟨y.wf, x.sub.trans y.sub, Nat.le_trans x.nx y.nx⟩
theorem Gr.new {h0 h : AH} (g : Gr h0 h) (o : AObj) : Gr h0 (h.new o) := ⟨g.wf.new o, g.sub.trans (Sub.new g.wf o), Nat.le_succ_of_le g.nx⟩
theorem Gr.set {h0 h : AH} (g : Gr h0 h) (w0 : WFH h0) {A : Nat} (hA : h0.next ≤ A) (hlt : A < h.next) (o : AObj) : Gr h0 (h.set A o) := ⟨g.wf.set hlt o, g.sub.set (w0 A hA) o, g.nx⟩
theorem Gr.fresh {h0 h : AH} (g : Gr h0 h) (w0 : WFH h0) : h0.get h.next = none := w0 _ g.nx

/-- A slice of one's own, laid since h0. -/
def FrSl (e : TypeId) (h0 h : AH) (v : Value) (vs : List Value) : Prop := ∃ B, OwnSl e h v B vs ∧ (vs ≠ [] → h0.next ≤ B)

theorem FrSl.nil (e : TypeId) (h0 h : AH) : FrSl e h0 h (.slice none 0 0) [] := ⟨0, OwnSl.nil e h 0, fun h => absurd rfl h⟩
theorem FrSl.sl {e : TypeId} {h0 h : AH} {v : Value} {vs : List Value} (ho : FrSl e h0 h v vs) : SlOf h v vs := let ⟨_, h, _⟩ := ho; h.sl

def app1V (h : AH) (n : Nat) : Value := .slice (some ⟨h.next + 1, 0, none⟩) (n + 1) (SL + 1)

theorem app1 {t e : TypeId} {B : Nat} {z : Value} (ht : SlT P t e B z) {h0 h : AH} (g : Gr h0 h) {v : Value} {vs : List Value} (ho : FrSl e h0 h v vs) (hb : (2 * vs.length + 194) * B ≤ 281474976710656) (hm : vs.length < 4611686018427387903) (x : Value) :
    aAppend P #[t, t] v (.slice (some ⟨h.next, 0, none⟩) 1 1) (h.new (.row [x] e true)) = some (app1V h vs.length, app1H e h v x vs) := by
  obtain ⟨A, ho, _⟩ := ho
  exact aAppend1 ht g.wf ho hb hm
theorem app1_gr {e : TypeId} {h0 h : AH} (w0 : WFH h0) (g : Gr h0 h) {v x : Value} {vs : List Value} (ho : FrSl e h0 h v vs) : Gr h0 (app1H e h v x vs) := by
  obtain ⟨A, ho, hf⟩ := ho
  refine ⟨app1_wf g.wf, g.sub.frx (app1_frx g.wf ho) ?_, by rw [app1_next]; have := g.nx; omega⟩
  intro B hB
  split at hB
  · simp at hB
  · rename_i hn
    simp at hB; subst hB
    exact w0 _ (hf hn)
theorem app1_fr {e : TypeId} {h0 h : AH} (g : Gr h0 h) {v x : Value} {vs : List Value} : FrSl e h0 (app1H e h v x vs) (app1V h vs.length) (vs ++ [x]) :=
  ⟨_, app1_own, fun _ => by have := g.nx; omega⟩

end
end Go.Ab

namespace Go.Ab

section
variable {P : Program}

/-- A kind of elements: their cells, and what these tell. -/
structure Lay (α : Type) where
  sz : Nat
  pos : 0 < sz
  rel : AH → List Value → α → Prop
  mono : ∀ {h h' : AH} {cs : List Value} {x : α}, Sub h h' → rel h cs x → rel h' cs x
  len : ∀ {h : AH} {cs : List Value} {x : α}, rel h cs x → cs.length = sz
  one : ∀ {h : AH} {cs : List Value} {x : α}, rel h cs x → ∀ v ∈ cs, oneC v = true

/-- A kind that a heap's view keeps. -/
class LayV {α : Type} (L : Lay α) : Prop where
  view : ∀ {h : AH} {cs : List Value} {x : α}, L.rel h cs x → L.rel (AH.view h) cs x

/-- A slice whose elements are of a kind. -/
def RowOf {α : Type} (L : Lay α) (h : AH) (v : Value) (xs : List α) : Prop :=
  ∃ p l c, v = .slice p l c ∧ l = xs.length ∧ ((∀ q, p = some q → q.spot = none) ∧ l ≤ c ∧ (c < SL ∨ c = SL + L.sz)) ∧ (xs = [] ∨ ∃ A off o cs, p = some ⟨A, off, none⟩ ∧ h.get A = some o ∧ o.cells? = some cs ∧
    ∀ (i : Nat) (x : α), xs[i]? = some x → L.rel h ((cs.drop (off + i * L.sz)).take L.sz) x)

theorem RowOf.sub {α : Type} {L : Lay α} {h h' : AH} {v : Value} {xs : List α} (hs : RowOf L h v xs) (hh : Sub h h') : RowOf L h' v xs := by
  obtain ⟨p, l, c, rfl, rfl, hsp, hcs⟩ := hs
  refine ⟨p, _, c, rfl, rfl, hsp, ?_⟩
  rcases hcs with e | ⟨A, off, o, cs, rfl, hg, hc, hall⟩
  · exact .inl e
  · exact .inr ⟨A, off, o, cs, rfl, hh _ _ hg, hc, fun i x hx => L.mono hh (hall i x hx)⟩

theorem RowOf.view {α : Type} {L : Lay α} [LayV L] {h : AH} {v : Value} {xs : List α} (hs : RowOf L h v xs) : RowOf L (AH.view h) v xs := by
  obtain ⟨p, l, c, rfl, rfl, hsp, hcs⟩ := hs
  refine ⟨p, _, c, rfl, rfl, hsp, ?_⟩
  rcases hcs with e | ⟨A, off, o, cs, rfl, hg, hc, hall⟩
  · exact .inl e
  · have : ∃ o', (AH.view h).get A = some o' ∧ o'.cells? = some cs := by
      cases o with
      | row c e wr => exact ⟨.row c e false, by simp [AH.view, hg, AObj.view], hc⟩
      | grow c e => exact ⟨.row c e false, by simp [AH.view, hg, AObj.view], hc⟩
      | _ => simp [AObj.cells?] at hc
    obtain ⟨o', h1, h2⟩ := this
    exact .inr ⟨A, off, o', cs, rfl, h1, h2, fun i x hx => LayV.view (hall i x hx)⟩

theorem RowOf.one {α : Type} {L : Lay α} {h : AH} {v : Value} {xs : List α} (hs : RowOf L h v xs) : oneC v = true := by
  obtain ⟨p, l, c, rfl, _⟩ := hs; rfl
theorem SlOf.one {h : AH} {v : Value} {vs : List Value} (hs : SlOf h v vs) : oneC v = true := by
  obtain ⟨p, l, c, rfl, _⟩ := hs; rfl

theorem RowOf.len {α : Type} {L : Lay α} {h : AH} {v : Value} {xs : List α} (hs : RowOf L h v xs) {t e : TypeId} (ht : P.underlying t = some (.slice e)) : ∀ h', aLen P t v h' = some (.int .i64 xs.length) := by
  intro h'
  obtain ⟨p, l, c, rfl, rfl, _, _⟩ := hs
  simp only [aLen, ht]
theorem SlOf.lenA {h : AH} {v : Value} {α : Type} {f : α → Value} {xs : List α} (hs : SlOf h v (xs.map f)) {t e : TypeId} (ht : P.underlying t = some (.slice e)) : ∀ h', aLen P t v h' = some (.int .i64 xs.length) := by
  intro h'
  obtain ⟨p, l, c, rfl, rfl, _, _⟩ := hs
  simp only [aLen, ht, List.length_map]

/-- The address of a field of a slice's element. -/
def slF (sz : Nat) (v : Value) (i f : Nat) : Value :=
  match v with
  | .slice (some ⟨A, off, none⟩) _ _ => .pointer (some ⟨A, off + i * sz + f, none⟩)
  | _ => undef

/-- Types of one cell; struct types. -/
def Fl (P : Program) (e : TypeId) : Prop := ∃ d, P.underlying e = some d ∧ aggT d = false
structure Ag (P : Program) (e : TypeId) (n : Nat) : Prop where
  agg : ∃ d, P.underlying e = some d ∧ aggT d = true
  size : ∃ i, P.info? e = some i ∧ i.size = n

theorem RowOf.idx {α : Type} {L : Lay α} {h : AH} {v : Value} {xs : List α} (hs : RowOf L h v xs) {t e : TypeId} (ht : P.underlying t = some (.slice e)) (he : ∃ i, P.info? e = some i ∧ i.size = L.sz) :
    ∀ (k : IntKind) (n : Int), 0 ≤ n → n < xs.length → aIndexAddr P t v (.int k n) = some (slF L.sz v n.toNat 0) := by
  intro k n h0 hn
  obtain ⟨p, l, c, rfl, rfl, hsp, hcs⟩ := hs
  rcases hcs with rfl | ⟨A, off, o, cs, rfl, hg, hc, hall⟩
  · simp at hn; omega
  · obtain ⟨ie, hi, h1⟩ := he
    simp only [aIndexAddr, ht, hi]
    rw [if_pos ⟨by omega, by omega⟩, h1]; rfl

theorem RowOf.get {α : Type} {L : Lay α} {h : AH} {v : Value} {xs : List α} (hs : RowOf L h v xs) {i : Nat} (hi : i < xs.length) (d : α) :
    ∃ cs, L.rel h cs (xs.getD i d) ∧
      (∀ (e : TypeId), Ag P e L.sz → aLoad P e (slF L.sz v i 0) h = some (.agg cs.toArray)) ∧
      (∀ (f : Nat) (e : TypeId), Fl P e → f < L.sz → aLoad P e (slF L.sz v i f) h = some (cs.getD f undef)) ∧
      (∀ (T f fo : Nat), fOff P T f = some fo → aFieldAddr P T f (slF L.sz v i 0) = some (slF L.sz v i fo)) := by
  obtain ⟨p, l, c, rfl, rfl, hsp, hcs⟩ := hs
  rcases hcs with rfl | ⟨A, off, o, cs, rfl, hg, hc, hall⟩
  · simp at hi
  · have hx : xs[i]? = some (xs.getD i d) := by simp [List.getD_eq_getElem?_getD, hi]
    have hr := hall i _ hx
    have hl := L.len hr
    have hpos := L.pos
    have hle : off + i * L.sz + L.sz ≤ cs.length := by
      simp only [List.length_take, List.length_drop] at hl
      omega
    refine ⟨_, hr, fun e ha => ?_, fun f e hf hlt => ?_, fun T f fo ho => ?_⟩
    · obtain ⟨D, hD, hagg⟩ := ha.agg
      obtain ⟨ie, hie, hsz⟩ := ha.size
      simp only [slF, aLoad, hg, Option.bind_some, hc, hD, hagg, if_true, hie, hsz, Nat.add_zero]
      rw [if_pos hle]
    · obtain ⟨D, hD, hagg⟩ := hf
      simp only [slF, aLoad, hg, Option.bind_some, hc, hD, hagg, Bool.false_eq_true, if_false]
      have : off + i * L.sz + f < cs.length := by omega
      rw [List.getElem?_eq_getElem this]
      simp [List.getD_eq_getElem?_getD, List.getElem?_take, hlt, List.getElem?_drop, List.getElem?_eq_getElem this]
    · simp only [slF, aFieldAddr, ho, Nat.add_zero]

theorem RowOf.pre {α : Type} {L : Lay α} {h : AH} {v : Value} {xs : List α} (hs : RowOf L h v xs) {t e : TypeId} (ht : P.underlying t = some (.slice e)) (he : ∃ i, P.info? e = some i ∧ i.size = L.sz) {k : IntKind} {n : Nat} (hn : n ≤ xs.length) :
    ∃ v', aSlice P t v none (some (.int k n)) = some v' ∧ RowOf L h v' (xs.take n) := by
  obtain ⟨p, l, c, rfl, rfl, ⟨hsp, hle, hcap⟩, hcs⟩ := hs
  obtain ⟨ie, hi, h1⟩ := he
  have hb : bnd (some (.int k (n : Int))) xs.length = some n := by simp [bnd]
  have hb0 : bnd none 0 = some 0 := rfl
  have hpos := L.pos
  cases p with
  | none =>
    have hx : xs = [] := by
      rcases hcs with e | ⟨A, off, o, cs, e, _⟩
      · exact e
      · cases e
    subst hx
    have hn0 : n = 0 := by simpa using hn
    subst hn0
    have hb' : bnd (some (.int k ((0 : Nat) : Int))) ([] : List α).length = some 0 := hb
    refine ⟨.slice none 0 c, ?_, none, 0, c, rfl, by simp, ⟨(fun q e => by cases e), by omega, hcap⟩, .inl (by simp)⟩
    simp only [aSlice, ht, hb', hb0, hi]
    simp
  | some q =>
    obtain ⟨A, off, sp⟩ := q
    have : sp = none := hsp _ rfl
    subst this
    refine ⟨.slice (some ⟨A, off, none⟩) n c, ?_, some ⟨A, off, none⟩, n, c, rfl, by simp; omega, ⟨hsp, by omega, hcap⟩, ?_⟩
    · simp only [aSlice, ht, hb, hb0, hi]
      rcases hcap with hc | hc
      · rw [if_pos hc, if_pos ⟨by omega, by omega⟩]
        simp
      · have hnc : ¬ c < SL := by omega
        rw [if_neg hnc, if_pos ⟨by rw [h1]; exact hc, by omega, hn⟩]
        simp
    · rcases hcs with e | ⟨A', off', o, cs, e, hg, hc, hall⟩
      · left; simp [e]
      · cases e
        right
        refine ⟨A, off, o, cs, rfl, hg, hc, fun i x hx => hall i x ?_⟩
        rw [List.getElem?_take] at hx
        split at hx
        · exact hx
        · cases hx

theorem viewCells {h : AH} {B : Nat} {o : AObj} {cs : List Value} (hg : h.get B = some o) (hc : o.cells? = some cs) : ∃ o', (AH.view h).get B = some o' ∧ o'.cells? = some cs := by
  cases o with
  | row c e wr => exact ⟨.row c e false, by simp [AH.view, hg, AObj.view], hc⟩
  | grow c e => exact ⟨.row c e false, by simp [AH.view, hg, AObj.view], hc⟩
  | _ => simp [AObj.cells?] at hc

/-! ### Local variables of struct types -/

theorem faL {T f fo : Nat} (ho : fOff P T f = some fo) : ∀ (A off : Nat), aFieldAddr P T f (.pointer (some ⟨A, off, none⟩)) = some (.pointer (some ⟨A, off + fo, none⟩)) := by
  intro A off; simp only [aFieldAddr, ho]

theorem ldL {h : AH} {A : Nat} {o : AObj} {cs : List Value} (hg : h.get A = some o) (hc : o.cells? = some cs) {e : TypeId} (he : Fl P e) : ∀ k, k < cs.length → aLoad P e (.pointer (some ⟨A, k, none⟩)) h = some (cs.getD k undef) := by
  intro k hk
  obtain ⟨D, hD, hagg⟩ := he
  simp only [aLoad, hg, Option.bind_some, hc, hD, hagg, Bool.false_eq_true, if_false]
  rw [List.getElem?_eq_getElem hk]
  simp [List.getD_eq_getElem?_getD, hk]

theorem ldLA {h : AH} {A n : Nat} {o : AObj} {cs : List Value} (hg : h.get A = some o) (hc : o.cells? = some cs) {T : TypeId} (hT : Ag P T n) (hn : cs.length = n) : aLoad P T (.pointer (some ⟨A, 0, none⟩)) h = some (.agg cs.toArray) := by
  obtain ⟨D, hD, hagg⟩ := hT.agg
  obtain ⟨ie, hie, hsz⟩ := hT.size
  subst hn
  simp only [aLoad, hg, Option.bind_some, hc, hD, hagg, if_true, hie, hsz, Nat.zero_add, Nat.le_refl, List.drop_zero, List.take_length]

/-- What lies in a block that is just laid. -/
theorem ldN {e : TypeId} (he : Fl P e) : ∀ (h : AH) (cs : List Value) (e' : TypeId) (w : Bool) (k : Nat), k < cs.length → aLoad P e (.pointer (some ⟨h.next, k, none⟩)) (h.new (.row cs e' w)) = some (cs.getD k undef) :=
  fun h cs e' w k hk => ldL (o := .row cs e' w) (by simp [AH.new_get]) rfl he k hk
theorem ldNA {T : TypeId} {n : Nat} (hT : Ag P T n) : ∀ (h : AH) (cs : List Value) (e' : TypeId) (w : Bool), cs.length = n → aLoad P T (.pointer (some ⟨h.next, 0, none⟩)) (h.new (.row cs e' w)) = some (.agg cs.toArray) :=
  fun h cs e' w hn => ldLA (o := .row cs e' w) (by simp [AH.new_get]) rfl hT hn

/-- Cells in a block. -/
def CsAt (h : AH) (B : Nat) (cs : List Value) : Prop := ∃ o, h.get B = some o ∧ o.cells? = some cs
theorem CsAt.sub {h h' : AH} {B : Nat} {cs : List Value} (r : CsAt h B cs) (s : Sub h h') : CsAt h' B cs := let ⟨o, x, y⟩ := r; ⟨o, s _ _ x, y⟩
theorem CsAt.view {h : AH} {B : Nat} {cs : List Value} (r : CsAt h B cs) : CsAt (AH.view h) B cs := let ⟨_, x, y⟩ := r; viewCells x y
theorem CsAt.new (h : AH) (cs : List Value) (T : TypeId) (w : Bool) : CsAt (h.new (.row cs T w)) h.next cs := ⟨_, by rw [AH.new_get, if_pos rfl], rfl⟩
theorem CsAt.ld {h : AH} {B : Nat} {cs : List Value} (r : CsAt h B cs) {e : TypeId} (he : Fl P e) : ∀ k, k < cs.length → aLoad P e (.pointer (some ⟨B, k, none⟩)) h = some (cs.getD k undef) := let ⟨_, x, y⟩ := r; ldL x y he
theorem CsAt.la {h : AH} {B n : Nat} {cs : List Value} (r : CsAt h B cs) {T : TypeId} (hT : Ag P T n) (hn : cs.length = n) : aLoad P T (.pointer (some ⟨B, 0, none⟩)) h = some (.agg cs.toArray) := let ⟨_, x, y⟩ := r; ldLA x y hT hn

theorem boxA (t : TypeId) : ∀ (h : AH) (xs : List Value), xs.all oneC = true → aBox t (.agg xs.toArray) h = some (.pointer (some ⟨h.next, 0, none⟩), h.new (.row xs t true)) := by
  intro h xs hx
  simp [aBox, Value.cells, hx]

/-- The zero of a type, as cells. -/
def Zr (P : Program) (T : TypeId) (zs : List Value) : Prop := ∃ i z, P.info? T = some i ∧ i.zero = some z ∧ z.cells.toList = zs ∧ zs.all oneC = true ∧ plain 9 z = true

theorem alL {T : TypeId} {zs : List Value} (hz : Zr P T zs) : ∀ h, aAlloc P T h = some (.pointer (some ⟨h.next, 0, none⟩), h.new (.row zs T true)) := by
  intro h
  obtain ⟨i, z, hi, hiz, rfl, h1, h2⟩ := hz
  simp only [aAlloc, hi, hiz, h1, h2, and_self, if_true]

theorem AH.set_new (h : AH) (o o' : AObj) : (h.new o).set h.next o' = h.new o' := by
  unfold AH.set AH.new
  simp only [AH.mk.injEq, true_and]
  funext i
  by_cases e : i = h.next <;> simp [e]

theorem setL_all : ∀ (xs cs pre : List Value), cs.length = xs.length → setL (pre ++ cs) pre.length xs = pre ++ xs := by
  intro xs
  induction xs with
  | nil => intro cs pre h; have : cs = [] := List.eq_nil_of_length_eq_zero h; simp [setL, this]
  | cons x xs ih =>
    intro cs pre h
    cases cs with
    | nil => simp at h
    | cons c cs =>
      simp only [setL]
      have e : (pre ++ c :: cs).set pre.length x = (pre ++ [x]) ++ cs := by simp
      rw [e]
      have := ih cs (pre ++ [x]) (by simpa using h)
      simp only [List.length_append, List.length_cons, List.length_nil] at this
      rw [this]; simp

/-- The whole of a row written over. -/
theorem stA {T : TypeId} {n : Nat} (hT : Ag P T n) {h : AH} {A : Nat} {cs : List Value} {e : TypeId} (hg : h.get A = some (.row cs e true)) (hn : cs.length = n) : ∀ xs : List Value, xs.length = n → xs.all oneC = true →
    aStore P T (.pointer (some ⟨A, 0, none⟩)) (.agg xs.toArray) h = some (h.set A (.row xs e true)) := by
  intro xs hx ho
  obtain ⟨ie, hie, hsz⟩ := hT.size
  have := setL_all xs cs [] (by omega)
  simp only [List.nil_append, List.length_nil] at this
  simp [aStore, hie, hsz, Value.cells, hx, ho, hg, AObj.setCells, hn, this]

theorem stN {T : TypeId} {n : Nat} (hT : Ag P T n) : ∀ (h : AH) (cs : List Value) (e : TypeId) (xs : List Value), cs.length = n → xs.length = n → xs.all oneC = true →
    aStore P T (.pointer (some ⟨h.next, 0, none⟩)) (.agg xs.toArray) (h.new (.row cs e true)) = some (h.new (.row xs e true)) := by
  intro h cs e xs hc hx ho
  rw [stA hT (e := e) (cs := cs) (by simp [AH.new_get]) hc xs hx ho, AH.set_new]

/-- One cell of a row written over. -/
theorem stC {e : TypeId} (he : ∃ i, P.info? e = some i ∧ i.size = 1) {h : AH} {A : Nat} {cs : List Value} {e' : TypeId} (hg : h.get A = some (.row cs e' true)) : ∀ (k : Nat) (x : Value), k < cs.length → x.cells.toList = [x] → oneC x = true →
    aStore P e (.pointer (some ⟨A, k, none⟩)) x h = some (h.set A (.row (cs.set k x) e' true)) := by
  intro k x hk hx ho
  obtain ⟨ie, hie, hsz⟩ := he
  have hc : x.cells.size = 1 := by
    have := congrArg List.length hx
    simpa using this
  have hle : k + 1 ≤ cs.length := hk
  simp [aStore, hie, hsz, hc, hx, ho, hg, AObj.setCells, hle, setL]

theorem aMax2R (k k' : IntKind) (x y : Int) : aMax2 (.int k x) (.int k' y) = some (.int k (max x y)) := by
  simp only [aMax2]; congr 2; omega
theorem aMin2R (k k' : IntKind) (x y : Int) : aMin2 (.int k x) (.int k' y) = some (.int k (min x y)) := by
  simp only [aMin2]; congr 2; omega
theorem shlR (k : IntKind) (a b : Int) (hb : 0 ≤ b) : shBin .shl k a b = some (.int k (k.wrap (a * 2 ^ min b.toNat k.bits))) := by
  simp only [shBin]; rw [if_neg (by omega)]
theorem shrR (k : IntKind) (a b : Int) (hb : 0 ≤ b) : shBin .shr k a b = some (.int k (a.fdiv (2 ^ min b.toNat k.bits))) := by
  simp only [shBin]; rw [if_neg (by omega)]

/-! ### Bytes of a string -/

def bytesI (s : ByteArray) : List Int := s.data.toList.map fun c => (c.toNat : Int)

theorem bytesI_len (s : ByteArray) : (bytesI s).length = s.size := by
  unfold bytesI; rw [List.length_map, Array.length_toList]; rfl

theorem aBytesAt {s d e : TypeId} (hs : P.underlying s = some .string) (hd : P.underlying d = some (.slice e)) (he : P.underlying e = some (.int .u8)) : ∀ (b : ByteArray) (h : AH), b.size < 4611686018427387904 →
    aBytes P s d (.string b) h = some (.slice (some ⟨h.next, 0, none⟩) b.size (SL + 1), h.new (.row ((bytesI b).map (.int .u8)) e false)) := by
  intro b h hb
  have hm : b.size < ML := hb
  simp only [aBytes, hs, hd, he]
  rw [if_pos hm]
  simp only [bytesI, List.map_map]
  rfl

theorem aBytes_skip {s d : TypeId} (hs : ∃ k, P.underlying s = some (.int k)) : ∀ (x : Value) (h : AH), aBytes P s d x h = none := by
  intro x h
  obtain ⟨k, hk⟩ := hs
  simp only [aBytes, hk]

theorem aConvI {s d : TypeId} {D : TypeDesc} {k : IntKind} (hs : P.underlying s = some D) (hd : P.underlying d = some (.int k)) : ∀ (k' : IntKind) (n : Int), aConv P s d (.int k' n) = some (.int k (k.wrap n)) := by
  intro k' n
  simp only [aConv, hs, hd]

end
end Go.Ab

namespace Go.Ab

section
variable {P : Program}

/-- An operation, by what the model does. -/
def SemOp (P : Program) (ops : Array Oper) (o : Oper) (a : AAct) (h : AH) (K : AAct → AH → Prop) : Prop :=
  ∀ (n : Nat) (ρ : Ren) (crd : Option Nat) (ca : Act) (w : World), AR ρ a ca → HR ρ h w → ∀ (Q : Exit → Act → World → Prop) (N : Act → World → Prop), (∀ ca' w', Post ρ h w K ca' w' → N ca' w') →
    if Region.wanted o (yielded ops ca.tmps) then o.wpIn (fence crd) n P ca w N Q
    else (∀ f, o.about P w ca.eval = some f → (fence crd).fn f) ∧ N (ca.put o.dst undef) w

theorem SemOp.of {ops : Array Oper} {o : Oper} {a : AAct} {h : AH} {K : AAct → AH → Prop} (hw : opW P ops o a h K) : SemOp P ops o a h K :=
  fun _ _ _ _ _ ha hr _ _ hN => hw.sound ha hr hN

def semL (P : Program) (ops : Array Oper) (N : AAct → AH → Prop) : List Oper → AAct → AH → Prop
  | [], a, h => N a h
  | o :: l, a, h => SemOp P ops o a h (semL P ops N l)

theorem semL_of {ops : Array Oper} {N : AAct → AH → Prop} : ∀ (l : List Oper) (a : AAct) (h : AH), opsL P ops N l a h → semL P ops N l a h := by
  intro l
  induction l with
  | nil => intro a h hk; exact hk
  | cons o l ih => intro a h hk; exact SemOp.of (opW.mono (fun a h hk => ih a h hk) hk)

theorem semL_append {ops : Array Oper} {N : AAct → AH → Prop} (l2 : List Oper) : ∀ (l1 : List Oper) (a : AAct) (h : AH), opsL P ops (semL P ops N l2) l1 a h → semL P ops N (l1 ++ l2) a h := by
  intro l1
  induction l1 with
  | nil => intro a h hk; exact hk
  | cons o l ih => intro a h hk; exact SemOp.of (opW.mono (fun a h hk => ih a h hk) hk)

theorem semL.sound {ops : Array Oper} {Q : Exit → AAct → AH → Prop} {n : Nat} {crd : Option Nat} : ∀ (l : List Nat) (os : List Oper) (a : AAct) (h : AH), l.map (ops[·]?) = os.map some → semL P ops (Q .normal) os a h → ∀ (ρ : Ren) (ca : Act) (w : World), AR ρ a ca → HR ρ h w →
    wpOpsIn (fence crd) n P ops (PostE ρ h w Q) l ca w := by
  intro l
  induction l with
  | nil =>
    intro os a h hl hq ρ ca w ha hr
    cases os with
    | nil => exact ⟨ρ, a, h, hq, ha, hr, Frm.refl _ _ _⟩
    | cons => cases hl
  | cons i l ih =>
    intro os a h hl hq ρ ca w ha hr
    cases os with
    | nil => cases hl
    | cons o os =>
      simp only [List.map_cons, List.cons.injEq] at hl
      rw [wpOpsIn_cons]
      unfold wpOpIn
      simp only [hl.1]
      refine hq n ρ crd ca w ha hr _ (wpOpsIn (fence crd) n P ops (PostE ρ h w Q) l) ?_
      rintro ca1 w1 ⟨ρ1, a1, h1, hk, ha1, hr1, hf1⟩
      exact wpOpsIn_mono (fun e ca w' hp => hp.trans hf1) l ca1 w1 (ih os a1 h1 hl.2 hk ρ1 ca1 w1 ha1 hr1)

theorem opsL_mono {ops : Array Oper} {N N' : AAct → AH → Prop} (hm : ∀ a h, N a h → N' a h) : ∀ (l : List Oper) (a : AAct) (h : AH), opsL P ops N l a h → opsL P ops N' l a h := by
  intro l
  induction l with
  | nil => intro a h hk; exact hm a h hk
  | cons o l ih => intro a h hk; exact opW.mono (fun a h hk => ih a h hk) hk

/-- A region, one of whose operations is shown by what the model does. -/
theorem AW.regionX {rd : Option Nat} {id : Nat} {ops : Array Oper} {Q : Exit → AAct → AH → Prop} {a : AAct} {h : AH} (l1 : List Oper) (o : Oper) (l2 : List Oper) (hl : ops.toList = l1 ++ o :: l2)
    (hx : opsM P ops (fun a h => SemOp P ops o a h (opsM P ops (Q .normal) l2)) l1 a h) : AW P rd (.region id ops false) Q a h := by
  intro n ρ crd ca w hrd ha hr
  refine wpIn_region (semL.sound _ ops.toList a h ?_ ?_ ρ ca w ha hr)
  · apply List.ext_getElem?
    intro i
    simp only [List.getElem?_map]
    by_cases hi : i < ops.size
    · rw [List.getElem?_range hi]
      simp [Array.getElem?_eq_getElem hi]
    · rw [List.getElem?_eq_none (by simpa using hi), List.getElem?_eq_none (by simpa using hi)]; rfl
  · rw [hl]
    refine semL_append _ _ _ _ ?_
    refine opsL_mono ?_ _ _ _ (opsM_sound _ _ _ hx)
    intro a h hk n ρ crd ca w ha hr Q' N hN
    exact hk n ρ crd ca w ha hr Q' N fun ca' w' ⟨ρ', a', h', x, y⟩ => hN ca' w' ⟨ρ', a', h', semL_of _ _ _ (opsM_sound _ _ _ x), y⟩

/-- An operation that hands back a value and leaves the world. -/
theorem SemOp.value {ops : Array Oper} {o : Oper} {a : AAct} {h : AH} {K : AAct → AH → Prop} {V : Value} (hg : o.guard = none) (hd : dstOK a o.dst) (hnd : ∀ c, o.op ≠ .defer c) (hV : plain 9 V = true)
    (hrun : ∀ (ρ : Ren) (ca : Act) (w : World), AR ρ a ca → HR ρ h w → (execOp ca.eval o).run P w = .ok (.value V) w) (hk : K (a.put o.dst V) h) : SemOp P ops o a h K := by
  intro n ρ crd ca w ha hr Q N hN
  have hw : Region.wanted o (yielded ops ca.tmps) = true := by
    obtain ⟨dst, op, type, pos, after, guard⟩ := o
    simp only at hg; subst hg; rfl
  rw [if_pos hw]
  refine ⟨fun _ _ => trivial, ?_⟩
  rw [Oper.semAt_eq _ _ _ hnd, hrun ρ ca w ha hr, Oper.uponIn_value]
  exact hN _ _ ⟨ρ, _, h, hk, ha.put hd (plain_VR ρ 9 V hV), hr, Frm.refl _ _ _⟩

theorem SemOp.cap {ops : Array Oper} {o : Oper} {a : AAct} {h : AH} {K : AAct → AH → Prop} {x : Operand} {T e : TypeId} (hop : o.op = .call { callee := .builtin .cap, args := #[x], argTypes := #[T] }) (hg : o.guard = none) (hx : cOK x = true) (hd : dstOK a o.dst)
    (ht : P.underlying T = some (.slice e)) {p : Option Addr} {l c : Nat} (hv : a.ev x = .slice p l c) (hc : c < SL) (hk : K (a.put o.dst (.int .i64 c)) h) : SemOp P ops o a h K := by
  refine SemOp.value hg hd (fun c e => by rw [hop] at e; cases e) rfl (fun ρ ca w ha hr => ?_) hk
  have hvr := ha.ev hx
  rw [hv] at hvr
  have hsh : ∃ p' : Option Addr, ca.eval x = .slice p' l c := by
    generalize ca.eval x = y at hvr
    cases hvr with
    | nilSlice => exact ⟨_, rfl⟩
    | slice _ _ => exact ⟨_, rfl⟩
    | slack _ _ _ => omega
    | slack0 => omega
    | slip => exact ⟨_, rfl⟩
  obtain ⟨p', hp'⟩ := hsh
  obtain ⟨dst, op, type, pos, after, guard⟩ := o
  simp only at hop; subst hop
  simp only [execOp, resolve, Sem.run_bind, Sem.run_pure, Result.andThen_ok, invoke, builtin, List.map_toArray, List.map_cons, List.map_nil, hp']
  simp [Builtin.cap_, r_under w ht, goInt]

theorem RowAt.unfrozen {ρ : Ren} {r : RE} {w : World} {c : List Value} {e : TypeId} {cc : Array Value} {fr : Nat × Nat} (h : RowAt ρ r w c e true cc fr) {i : Nat} (hi : i ≤ cc.size) : w.frozen? ⟨r.blk, i, none⟩ = false := by
  have := h.free rfl i hi
  obtain ⟨lo, up⟩ := fr
  simp only [World.frozen?, h.heap]
  simpa using this

theorem SemOp.overlaps {ops : Array Oper} {o : Oper} {a : AAct} {h : AH} {K : AAct → AH → Prop} {x y : Operand} {g : FuncId} {ats : Array TypeId} (hop : o.op = .call { callee := .value (.func g), args := #[x, y], argTypes := ats }) (hg : o.guard = none)
    (hx : cOK x = true) (hy : cOK y = true) (hd : dstOK a o.dst) {fn : Func} {T TB e : TypeId} (hf : P.funcs[g]? = some fn) (hname : (fn.name == "runtime.NumGoroutine") = false) (hb : fn.body.isNone = true) (hn : Extern.findNext fn = none)
    (he : Extern.find fn = some (Extern.SlicesOverlaps.overlaps #[T, T] #[TB])) (ht : P.underlying T = some (.slice e)) (hz : ∃ i, P.info? e = some i ∧ i.size = 1)
    {A B oa ob la lb ca' cb : Nat} {csB csA : List Value} {eB : TypeId} {oA : AObj} (hvx : a.ev x = .slice (some ⟨B, ob, none⟩) lb cb) (hcb : cb < SL) (hvy : a.ev y = .slice (some ⟨A, oa, none⟩) la ca') (hca : ca' < SL) (hnz : lb ≠ 0 ∧ la ≠ 0) (hne : A ≠ B)
    (hB : h.get B = some (.row csB eB true)) (hob : ob < csB.length) (hA : h.get A = some oA) (hAo : oA.own = true) (hAc : oA.cells? = some csA) (hAp : 0 < csA.length)
    (hk : K (a.put o.dst (.bool false)) h) : SemOp P ops o a h K := by
  refine SemOp.value hg hd (fun c e => by rw [hop] at e; cases e) rfl (fun ρ ca w ha hr => ?_) hk
  have h1 := ha.ev hx
  have h2 := ha.ev hy
  rw [hvx] at h1
  rw [hvy] at h2
  obtain ⟨rB, hqB, ccB, frB, hrB⟩ := hr.obj B _ hB
  obtain ⟨rA, hqA, hoA⟩ := hr.obj A _ hA
  obtain ⟨eA, _, ccA, frA, hrA⟩ := hoA.rowAt hAc
  have hxe : ca.eval x = .slice (some ⟨rB.blk, rB.base + ob, none⟩) lb cb := by
    generalize ca.eval x = z at h1
    cases h1 with
    | slice h' _ => rw [hqB] at h'; cases h'; rfl
    | slack _ _ _ => omega
    | slack0 => omega
    | slip => exact absurd rfl hnz.1
  have hye : ca.eval y = .slice (some ⟨rA.blk, rA.base + oa, none⟩) la ca' := by
    generalize ca.eval y = z at h2
    cases h2 with
    | slice h' _ => rw [hqA] at h'; cases h'; rfl
    | slack _ _ _ => omega
    | slack0 => omega
    | slip => exact absurd rfl hnz.2
  have hblk : rB.blk ≠ rA.blk := hr.inj B A _ _ rB rA hB hA hqB hqA (fun e => hne e.symm) (.inl rfl)
  obtain ⟨ie, hie, hs1⟩ := hz
  have hfB := hrB.fits
  have hfA := hrA.fits
  have hrun : (callFunc g #[.slice (some ⟨rB.blk, rB.base + ob, none⟩) lb cb, .slice (some ⟨rA.blk, rA.base + oa, none⟩) la ca']).run P w = .ok (.value (.bool false)) w := by
    rw [run_callFunc_extern hf hname hb hn he]
    rw [Lib.run_overlaps_apart w T TB e ht 1 (fun w => by rw [r_size w hie, hs1]) ⟨rB.blk, rB.base + ob, none⟩ ⟨rA.blk, rA.base + oa, none⟩ lb cb la ca' hblk eB eA ccB.size ccA.size
      (by simp only [World.shape?, hrB.heap]) (by simp only [World.shape?, hrA.heap]) (by omega) (hrB.unfrozen (by omega)) (hrB.unfrozen (Nat.le_refl _))]
    rfl
  have hfun : ca.eval (.func g) = .func (.func g) #[] #[] := rfl
  obtain ⟨dst, op, type, pos, after, guard⟩ := o
  simp only at hop; subst hop
  simp only [execOp, resolve, hfun, Deferred.ofValue, Sem.run_bind, Sem.run_pure, Result.andThen_ok, invoke, List.map_toArray, List.map_cons, List.map_nil, hxe, hye]
  simp only [Array.empty_append, Array.append_empty, hrun]

/-! ### A row that may grow, laid open -/

theorem Own.of_set {ρ : Ren} {h : AH} {A : Nat} {o o' : AObj} (ha : h.get A = some o) (ho : o.own = true) (ho' : o'.own = true) (b : Nat) : Own ρ (h.set A o') b ↔ Own ρ h b := by
  constructor
  · rintro ⟨B, p, r, hB, hown, hq, rfl⟩
    rw [AH.set_get] at hB
    split at hB
    · rename_i e; subst e; cases hB; exact ⟨B, o, r, ha, ho, hq, rfl⟩
    · exact ⟨B, p, r, hB, hown, hq, rfl⟩
  · rintro ⟨B, p, r, hB, hown, hq, rfl⟩
    by_cases e : B = A
    · subst e; exact ⟨B, o', r, by rw [AH.set_get, if_pos rfl], ho', hq, rfl⟩
    · exact ⟨B, p, r, by rw [AH.set_get, if_neg e]; exact hB, hown, hq, rfl⟩

/-- A call that is handed a slice of a growing row: its capacity and the cells behind its end are some, and the call may look at them. -/
theorem ACall.reveal {g : FuncId} {h : AH} {A n : Nat} {c rest : List Value} {e : TypeId} {K : Value → AH → Prop} (hg : h.get A = some (.grow c e)) (hn : 0 < n) (hE : Enters P g)
    (hc : ∀ (C : Nat) (junk : List Value), n ≤ C → C ≤ 9223372036854775807 → C ≤ (c ++ junk).length → ACall P g (.slice (some ⟨A, 0, none⟩) n C :: rest) (h.set A (.row (c ++ junk) e true)) K) :
    ACall P g (.slice (some ⟨A, 0, none⟩) n (SL + 1) :: rest) h K := by
  refine ⟨hE, fun ρ cargs w hl hr => ?_⟩
  obtain ⟨r, hq, cc, fr, hrow, hlim, hall⟩ := hr.obj A _ hg
  obtain ⟨ls⟩ := cargs
  cases ls with
  | nil => have := hl.1; simp at this
  | cons v' rs =>
    have hv : VR ρ (.slice (some ⟨A, 0, none⟩) n (SL + 1)) v' := hl.2 0 _ _ rfl rfl
    have htl : LR ρ rest rs := ⟨by have := hl.1; simpa using this, fun j u u' x y => hl.2 (j + 1) u u' (by simpa using x) (by simpa using y)⟩
    generalize hse : SL + 1 = cap at hv
    have hfit := hrow.fits
    obtain ⟨C, hve, hnC, hCm, hCl⟩ : ∃ C, v' = .slice (some ⟨r.blk, r.base + 0, none⟩) n C ∧ n ≤ C ∧ C ≤ 9223372036854775807 ∧ r.base + C ≤ cc.size := by
      cases hv with
      | slice _ hc' => omega
      | slack hq' hl' hlim' hc' =>
        rw [hq] at hq'; cases hq'
        rename_i s
        have hs : s = 1 := by omega
        subst hs
        exact ⟨_, rfl, hl', hc', by omega⟩
      | slack0 => omega
      | slip => omega
    subst hve
    have hj : ∃ junk : List Value, junk.length = cc.size - (r.base + c.length) ∧ ∀ i v, junk[i]? = some v → ∃ u', cc[r.base + c.length + i]? = some u' ∧ VR ρ v u' ∧ oneC v = true := by
      have : ∀ k, k ≤ cc.size - (r.base + c.length) → ∃ junk : List Value, junk.length = k ∧ ∀ i v, junk[i]? = some v → ∃ u', cc[r.base + c.length + i]? = some u' ∧ VR ρ v u' ∧ oneC v = true := by
        intro k
        induction k with
        | zero => intro _; exact ⟨[], rfl, fun i v x => by simp at x⟩
        | succ k ih =>
          intro hk
          obtain ⟨js, hjl, hj⟩ := ih (by omega)
          have hlt : r.base + c.length + k < cc.size := by omega
          obtain ⟨h1, v, h2⟩ := hall _ _ (Array.getElem?_eq_getElem hlt)
          refine ⟨js ++ [v], by simp [hjl], fun i u hu => ?_⟩
          by_cases hi : i < js.length
          · rw [List.getElem?_append_left hi] at hu; exact hj i u hu
          · rw [List.getElem?_append_right (by omega)] at hu
            have : i = k := by
              have := (List.getElem?_eq_some_iff.1 hu).1
              simp at this; omega
            subst this
            rw [hjl, Nat.sub_self] at hu
            cases hu
            exact ⟨_, Array.getElem?_eq_getElem hlt, h2, by rw [← h2.one]; exact h1⟩
      exact this _ (Nat.le_refl _)
    obtain ⟨junk, hjl, hjunk⟩ := hj
    have hrow' : RowAt ρ r w (c ++ junk) e true cc fr := by
      refine ⟨hrow.heap, by rw [List.length_append, hjl]; omega, fun i v hi => ?_, hrow.free, fun v hv => ?_⟩
      · by_cases hlt : i < c.length
        · rw [List.getElem?_append_left hlt] at hi; exact hrow.cell i v hi
        · rw [List.getElem?_append_right (by omega)] at hi
          obtain ⟨u', h1, h2, _⟩ := hjunk _ _ hi
          exact ⟨u', by rw [show r.base + i = r.base + c.length + (i - c.length) by omega]; exact h1, h2⟩
      · rcases List.mem_append.1 hv with hv | hv
        · exact hrow.one v hv
        · obtain ⟨i, hi⟩ := List.getElem?_of_mem hv
          obtain ⟨_, _, _, h3⟩ := hjunk i v hi
          exact h3
    have hr' : HR ρ (h.set A (.row (c ++ junk) e true)) w := by
      refine ⟨fun B p hp => ?_, fun B D ob od rb rd h1 h2 h3 h4 hne how => ?_, fun B q h1 => hr.dom B q h1⟩
      · rw [AH.set_get] at hp
        split at hp
        · rename_i eB; subst eB; cases hp; exact ⟨r, hq, cc, fr, hrow'⟩
        · exact hr.obj B p hp
      · rw [AH.set_get] at h1 h2
        have key : ∀ X ox, (if X = A then some (AObj.row (c ++ junk) e true) else h.get X) = some ox → ∃ px, h.get X = some px ∧ px.own = ox.own := by
          intro X ox hx
          split at hx
          · rename_i eX; subst eX; cases hx; exact ⟨_, hg, rfl⟩
          · exact ⟨ox, hx, rfl⟩
        obtain ⟨pb, hpb, hib⟩ := key B ob h1
        obtain ⟨pd, hpd, hid⟩ := key D od h2
        exact hr.inj B D pb pd rb rd hpb hpd h3 h4 hne (by rw [hib, hid]; exact how)
    have hcall := (hc C junk hnC hCm (by rw [List.length_append, hjl]; omega)).2 ρ #[.slice (some ⟨r.blk, r.base + 0, none⟩) n C] w
    have hlr : LR ρ (.slice (some ⟨A, 0, none⟩) n C :: rest) ((⟨.slice (some ⟨r.blk, r.base + 0, none⟩) n C :: rs⟩ : Array Value).toList) := htl.cons (.slice hq (by unfold SL; omega))
    have hcall := (hc C junk hnC hCm (by rw [List.length_append, hjl]; omega)).2 ρ _ w hlr hr'
    refine hcall.mono ?_
    rintro e' w' ⟨ρ', v, v', h', rfl, hk, hv, hr2, hf⟩
    refine ⟨ρ', v, v', h', rfl, hk, hv, hr2, hf.le, hf.size, fun b hb hno => hf.rest b hb (fun ho => hno ((Own.of_set hg rfl rfl b).1 ho)), fun b hb => (hf.own b hb).imp (fun ho => (Own.of_set hg rfl rfl b).1 ho) id, hf.side⟩

end
end Go.Ab

namespace Go.Ab

section
variable {P : Program}

/-- A slice of one's own, from a block's begin: nil, or of a growing row, or of a row of known capacity. -/
def Vec (e : TypeId) (v : Value) (ob : Option AObj) (A : Nat) (zs : List Value) : Prop :=
  (zs = [] ∧ v = .slice none 0 0 ∧ ob = none) ∨
  (∃ cs, v = .slice (some ⟨A, 0, none⟩) zs.length (SL + 1) ∧ ob = some (.grow cs e) ∧ zs.length ≤ cs.length ∧ cs.take zs.length = zs) ∨
  (∃ cs C, v = .slice (some ⟨A, 0, none⟩) zs.length C ∧ C ≤ 9223372036854775807 ∧ zs.length ≤ C ∧ C ≤ cs.length ∧ ob = some (.row cs e true) ∧ cs.take zs.length = zs)

theorem take_get {α : Type} {cs zs : List α} (h : cs.take zs.length = zs) (i : Nat) (x : α) (hx : zs[i]? = some x) : cs[i]? = some x := by
  have hi : i < zs.length := (List.getElem?_eq_some_iff.1 hx).1
  rw [← h, List.getElem?_take, if_pos hi] at hx; exact hx

theorem Vec.sl {e : TypeId} {h : AH} {v : Value} {ob : Option AObj} {A : Nat} {zs : List Value} (hv : Vec e v ob A zs) (hg : ∀ o, ob = some o → h.get A = some o) : SlOf h v zs := by
  rcases hv with ⟨rfl, rfl, _⟩ | ⟨cs, rfl, rfl, _, ht⟩ | ⟨cs, C, rfl, _, _, _, rfl, ht⟩
  · exact ⟨none, 0, 0, rfl, rfl, (fun q x => by cases x), .inl rfl⟩
  · exact ⟨_, _, _, rfl, rfl, (fun q x => by cases x; rfl), .inr ⟨A, 0, _, cs, rfl, hg _ rfl, rfl, fun i x hx => by rw [Nat.zero_add]; exact take_get ht i x hx⟩⟩
  · exact ⟨_, _, _, rfl, rfl, (fun q x => by cases x; rfl), .inr ⟨A, 0, _, cs, rfl, hg _ rfl, rfl, fun i x hx => by rw [Nat.zero_add]; exact take_get ht i x hx⟩⟩

/-- What became of a slice that was appended to, or inserted into. -/
structure VecUp (e : TypeId) (h : AH) (ob : Option AObj) (A : Nat) (r : Value) (zs : List Value) (h' : AH) : Prop where
  up : ∃ A' o', Vec e r (some o') A' zs ∧ h'.get A' = some o' ∧ ((A' = A ∧ ob ≠ none) ∨ h.next ≤ A')
  frx : ∀ B o, h.get B = some o → (B = A → ob = none) → h'.get B = some o
  wf : WFH h'
  nx : h.next ≤ h'.next

theorem setL_one (cs : List Value) (i : Nat) (x : Value) : setL cs i [x] = cs.set i x := rfl

theorem appendV {t t2 e : TypeId} {B : Nat} {z : Value} (ht : SlT P t e B z) (ht2 : ∃ e2, P.underlying t2 = some (.slice e2)) {h : AH} (hw : WFH h) {v : Value} {ob : Option AObj} {A : Nat} {zs : List Value} (hv : Vec e v ob A zs) (hg : ∀ o, ob = some o → h.get A = some o)
    {D : Nat} {x : Value} {oD : AObj} (hD : h.get D = some oD) (hDc : oD.cells? = some [x]) (hx : oneC x = true) (hb : (2 * zs.length + 194) * B ≤ 281474976710656) (hm : zs.length < 4611686018427387903) :
    ∃ r h', aAppend P #[t, t2] v (.slice (some ⟨D, 0, none⟩) 1 1) h = some (r, h') ∧ VecUp e h ob A r (zs ++ [x]) h' := by
  obtain ⟨i, hi, h1, hbb, hzz⟩ := ht.info
  have hc : z.cells.size = 1 := by
    have := congrArg List.length ht.zc
    simpa using this
  have hsrc : srcCells 1 (.slice (some ⟨D, 0, none⟩) 1 1) h = some (1, [x]) := by
    simp [srcCells, hD, hDc]
  obtain ⟨e2, ht2⟩ := ht2
  have hb' : (2 * (zs.length + 1) + 192) * B ≤ 281474976710656 := by
    have : 2 * (zs.length + 1) + 192 = 2 * zs.length + 194 := by omega
    rw [this]; exact hb
  have hm' : zs.length + 1 < ML := by unfold ML; omega
  rcases hv with ⟨rfl, rfl, rfl⟩ | ⟨cs, rfl, rfl, hle, htk⟩ | ⟨cs, C, rfl, hCm, hnC, hCl, rfl, htk⟩
  · simp only [List.length_nil] at hb hb' hm'
    refine ⟨.slice (some ⟨h.next, 0, none⟩) 1 (SL + 1), h.new (.grow [x] e), ?_, ⟨⟨h.next, _, .inr (.inl ⟨[x], rfl, rfl, by simp, rfl⟩), by simp [AH.new_get], .inr (Nat.le_refl _)⟩, fun B o hB _ => ?_, hw.new _, by simp⟩⟩
    · have hb1 : (2 * 1 + 192) * B ≤ 281474976710656 := by omega
      have hm1 : 1 < ML := by unfold ML; omega
      simp [aAppend, ht.sl, ht2, hi, hzz, h1, hc, isIntT, hsrc, hbb, hb1, hm1, ht.zk]
    · exact Sub.new hw _ B o hB
  · have hA := hg _ rfl
    have hAn : A < h.next := AH.get_lt hw hA
    refine ⟨.slice (some ⟨h.next, 0, none⟩) (zs.length + 1) (SL + 1), (h.del A).new (.grow (zs ++ [x]) e), ?_, ⟨⟨h.next, _, .inr (.inl ⟨zs ++ [x], by simp, rfl, by simp, List.take_length⟩), by simp [AH.new_get], .inr (Nat.le_refl _)⟩, fun B o hB hBA => ?_, (hw.del A).new _, by simp⟩⟩
    · have hcap : ¬ (SL + 1 < SL) := by omega
      simp [aAppend, ht.sl, ht2, hi, hzz, h1, hc, isIntT, hsrc, hbb, hA, hcap, hle, hb', hm', htk, ht.zk]
    · have hne : B ≠ A := fun x => by have := hBA x; simp at this
      have hBn := AH.get_lt hw hB
      rw [AH.new_get, AH.del_next, if_neg (by omega), AH.del_get, if_neg hne]; exact hB
  · have hA := hg _ rfl
    have hAn : A < h.next := AH.get_lt hw hA
    have hcap : C < SL := by unfold SL; omega
    by_cases hfit : zs.length + 1 ≤ C
    · have hset : zs.length + 1 ≤ cs.length := by omega
      refine ⟨.slice (some ⟨A, 0, none⟩) (zs.length + 1) C, h.set A (.row (cs.set zs.length x) e true), ?_, ⟨⟨A, _, .inr (.inr ⟨cs.set zs.length x, C, by simp, hCm, by simpa using hfit, by simpa using hCl, rfl, ?_⟩), by simp [AH.set_get], .inl ⟨rfl, by simp⟩⟩, fun B o hB hBA => ?_, hw.set hAn _, by simp⟩⟩
      · simp [aAppend, ht.sl, ht2, hi, hzz, h1, hc, isIntT, hsrc, hcap, hA, hfit, AObj.setCells, hset, setL_one, ht.zk]
      · apply List.ext_getElem?
        intro j
        simp only [List.length_append, List.length_cons, List.length_nil]
        rw [List.getElem?_take]
        by_cases h1 : j < zs.length
        · rw [if_pos (by omega), List.getElem?_set_ne (by omega), List.getElem?_append_left h1]
          rw [take_get htk j zs[j] (List.getElem?_eq_getElem h1), List.getElem?_eq_getElem h1]
        · by_cases h2 : j = zs.length
          · subst h2
            rw [if_pos (by omega), List.getElem?_set_self (by omega)]; simp
          · rw [if_neg (by omega), List.getElem?_eq_none (by simp; omega)]
      · have hne : B ≠ A := fun x => by have := hBA x; simp at this
        rw [AH.set_get, if_neg hne]; exact hB
    · refine ⟨.slice (some ⟨h.next, 0, none⟩) (zs.length + 1) (SL + 1), h.new (.grow (zs ++ [x]) e), ?_, ⟨⟨h.next, _, .inr (.inl ⟨zs ++ [x], by simp, rfl, by simp, List.take_length⟩), by simp [AH.new_get], .inr (Nat.le_refl _)⟩, fun B o hB _ => Sub.new hw _ B o hB, hw.new _, by simp⟩⟩
      have hle : zs.length ≤ cs.length := by omega
      simp [aAppend, ht.sl, ht2, hi, hzz, h1, hc, isIntT, hsrc, hbb, hcap, hA, hfit, AObj.cells?, hle, hb', hm', htk, ht.zk]

/-! ### Blocks of one's own, by their roles -/

structure Owns (b h : AH) (nm : Nat → Nat) (ob : Nat → Option AObj) : Prop where
  get : ∀ r o, ob r = some o → h.get (nm r) = some o
  dis : ∀ r s o p, ob r = some o → ob s = some p → r ≠ s → nm r ≠ nm s
  lo : ∀ r o, ob r = some o → b.next ≤ nm r
  gr : Gr b h

def upd {α : Type} (f : Nat → α) (r : Nat) (x : α) : Nat → α := fun i => if i = r then x else f i
theorem upd_same {α : Type} (f : Nat → α) (r : Nat) (x : α) : upd f r x r = x := by simp [upd]
theorem upd_ne {α : Type} (f : Nat → α) {r i : Nat} (x : α) (h : i ≠ r) : upd f r x i = f i := by simp [upd, h]

/-- A block turned, or laid anew, for one role; the others stay. -/
theorem Owns.up {b h h' : AH} {nm : Nat → Nat} {ob : Nat → Option AObj} (w0 : WFH b) (ho : Owns b h nm ob) {r A' : Nat} {o' : AObj} (hg : h'.get A' = some o') (hA : (A' = nm r ∧ ob r ≠ none) ∨ h.next ≤ A')
    (frx : ∀ B o, h.get B = some o → (B = nm r → ob r = none) → h'.get B = some o) (wf : WFH h') (nx : h.next ≤ h'.next) : Owns b h' (upd nm r A') (upd ob r (some o')) := by
  have hlt : ∀ s o, ob s = some o → nm s < h.next := fun s o hs => AH.get_lt ho.gr.wf (ho.get s o hs)
  have keep : ∀ s o, ob s = some o → s ≠ r → h'.get (nm s) = some o := fun s o hs hne => frx _ _ (ho.get s o hs) (fun e => by
    cases hr : ob r with
    | none => rfl
    | some p => exact absurd e (ho.dis s r o p hs hr hne))
  refine ⟨fun s o hs => ?_, fun s u o p hs hu hne => ?_, fun s o hs => ?_, wf, ?_, Nat.le_trans ho.gr.nx nx⟩
  · by_cases e : s = r
    · subst e; rw [upd_same] at hs ⊢; cases hs; exact hg
    · rw [upd_ne _ _ e] at hs ⊢; exact keep s o hs e
  · have far : ∀ s o, ob s = some o → s ≠ r → nm s ≠ A' := fun s o hs hne => by
      rcases hA with ⟨rfl, hr⟩ | hA
      · cases hr' : ob r with
        | none => exact absurd hr' hr
        | some p => exact ho.dis s r o p hs hr' hne
      · have := hlt s o hs; omega
    by_cases e : s = r
    · subst e
      have e2 : u ≠ s := fun x => hne x.symm
      rw [upd_ne _ _ e2] at hu ⊢; rw [upd_same]
      exact fun x => far u p hu e2 x.symm
    · rw [upd_ne _ _ e] at hs ⊢
      by_cases e2 : u = r
      · subst e2; rw [upd_same]; exact far s o hs e
      · rw [upd_ne _ _ e2] at hu ⊢; exact ho.dis s u o p hs hu hne
  · by_cases e : s = r
    · subst e; rw [upd_same]
      rcases hA with ⟨rfl, hr⟩ | hA
      · cases hr' : ob s with
        | none => exact absurd hr' hr
        | some p => exact ho.lo s p hr'
      · exact Nat.le_trans ho.gr.nx hA
    · rw [upd_ne _ _ e] at hs ⊢; exact ho.lo s o hs
  · intro B o hB
    refine frx B o (ho.gr.sub B o hB) (fun e => ?_)
    cases hr : ob r with
    | none => rfl
    | some p =>
      have := ho.lo r p hr
      have := AH.get_lt w0 hB
      omega

theorem Owns.grown {b h h' : AH} {nm : Nat → Nat} {ob : Nat → Option AObj} (ho : Owns b h nm ob) (g : Gr h h') : Owns b h' nm ob :=
  ⟨fun r o hr => g.sub _ _ (ho.get r o hr), ho.dis, ho.lo, ho.gr.trans g⟩

theorem Owns.set {b h : AH} {nm : Nat → Nat} {ob : Nat → Option AObj} (w0 : WFH b) (ho : Owns b h nm ob) {r : Nat} {o o' : AObj} (hr : ob r = some o) : Owns b (h.set (nm r) o') nm (upd ob r (some o')) := by
  have := ho.up (r := r) (A' := nm r) (o' := o') (h' := h.set (nm r) o') w0 (by simp [AH.set_get]) (.inl ⟨rfl, by rw [hr]; simp⟩) (fun B p hB hn => by
    rw [AH.set_get, if_neg]
    · exact hB
    · intro e; have := hn e; rw [hr] at this; cases this) (ho.gr.wf.set (AH.get_lt ho.gr.wf (ho.get r o hr)) _) (Nat.le_refl _)
  have e : upd nm r (nm r) = nm := by
    funext i; unfold upd; split
    · rename_i h; rw [h]
    · rfl
  rwa [e] at this

theorem Owns.vec {b h h' : AH} {nm : Nat → Nat} {ob : Nat → Option AObj} (w0 : WFH b) (ho : Owns b h nm ob) {r : Nat} {e : TypeId} {v : Value} {zs : List Value} (hu : VecUp e h (ob r) (nm r) v zs h') :
    ∃ A' o', Vec e v (some o') A' zs ∧ Owns b h' (upd nm r A') (upd ob r (some o')) := by
  obtain ⟨⟨A', o', h1, h2, h3⟩, frx, wf, nx⟩ := hu
  exact ⟨A', o', h1, ho.up w0 h2 h3 frx wf nx⟩

end
end Go.Ab

namespace Go.Ab

section
variable {P : Program}

theorem sliceLoX {t e : TypeId} (ht : Sl1 P t e) : ∀ (A off len cap : Nat) (k : IntKind) (lo : Int), cap < SL → 0 ≤ lo → lo < cap → lo ≤ len → len ≤ cap →
    aSlice P t (.slice (some ⟨A, off, none⟩) len cap) (some (.int k lo)) none = some (.slice (some ⟨A, off + lo.toNat, none⟩) (len - lo.toNat) (cap - lo.toNat)) := by
  intro A off len cap k lo hc h0 h1 h2 h3
  obtain ⟨ie, hi, hs⟩ := ht.one
  have hb : bnd (some (.int k lo)) 0 = some lo.toNat := by simp [bnd, h0]
  have hb2 : bnd none len = some len := rfl
  simp only [aSlice, ht.sl, hb, hb2, hi]
  rw [if_pos hc, if_pos ⟨by omega, by omega⟩, if_neg (by omega), hs, Nat.mul_one]

theorem sliceHiX {t e : TypeId} (ht : Sl1 P t e) : ∀ (A off len cap : Nat) (k : IntKind) (hi : Int), cap < SL → 0 ≤ hi → hi ≤ cap →
    aSlice P t (.slice (some ⟨A, off, none⟩) len cap) none (some (.int k hi)) = some (.slice (some ⟨A, off, none⟩) hi.toNat cap) := by
  intro A off len cap k hi hc h0 h1
  obtain ⟨ie, hie, hs⟩ := ht.one
  have hb : bnd (some (.int k hi)) len = some hi.toNat := by simp [bnd, h0]
  have hb2 : bnd none 0 = some 0 := rfl
  simp only [aSlice, ht.sl, hb, hb2, hie]
  rw [if_pos hc, if_pos ⟨by omega, by omega⟩]
  simp

theorem sliceLoS {t e : TypeId} (ht : Sl1 P t e) : ∀ (A off len : Nat) (k : IntKind) (lo : Int), 0 ≤ lo → lo ≤ len →
    aSlice P t (.slice (some ⟨A, off, none⟩) len (SL + 1)) (some (.int k lo)) none = some (.slice (some ⟨A, off + lo.toNat, none⟩) (len - lo.toNat) (SL + 1)) := by
  intro A off len k lo h0 h1
  obtain ⟨ie, hi, hs⟩ := ht.one
  have hb : bnd (some (.int k lo)) 0 = some lo.toNat := by simp [bnd, h0]
  have hb2 : bnd none len = some len := rfl
  have hn : ¬ (SL + 1 < SL) := by omega
  simp only [aSlice, ht.sl, hb, hb2, hi]
  rw [if_neg hn, if_pos ⟨by rw [hs], by omega, by omega⟩, hs, Nat.mul_one]

theorem sliceHiS {t e : TypeId} (ht : Sl1 P t e) : ∀ (A off len : Nat) (k : IntKind) (hi : Int), 0 ≤ hi → hi ≤ len →
    aSlice P t (.slice (some ⟨A, off, none⟩) len (SL + 1)) none (some (.int k hi)) = some (.slice (some ⟨A, off, none⟩) hi.toNat (SL + 1)) := by
  intro A off len k hi h0 h1
  obtain ⟨ie, hie, hs⟩ := ht.one
  have hb : bnd (some (.int k hi)) len = some hi.toNat := by simp [bnd, h0]
  have hb2 : bnd none 0 = some 0 := rfl
  have hn : ¬ (SL + 1 < SL) := by omega
  simp only [aSlice, ht.sl, hb, hb2, hie]
  rw [if_neg hn, if_pos ⟨by rw [hs], by omega, by omega⟩]
  simp

/-- A copy, of whole one-cell elements. -/
theorem aCopyL {t e : TypeId} (ht : Sl1 P t e) {h : AH} {A B oa ob la lb ca cb n : Nat} {oA oB o' : AObj} {csB : List Value} (hn : n = min lb la) (h0 : n ≠ 0) (hB : h.get B = some oB) (hBc : oB.cells? = some csB) (hob : ob + n ≤ csB.length)
    (hA : h.get A = some oA) (hs : oA.setCells oa ((csB.drop ob).take n) = some o') :
    aCopy P t (.slice (some ⟨A, oa, none⟩) la ca) (.slice (some ⟨B, ob, none⟩) lb cb) h = some (.int .i64 n, h.set A o') := by
  obtain ⟨ie, hie, h1⟩ := ht.one
  subst hn
  simp only [aCopy, ht.sl, hie, if_neg h0, h1, srcCells, hB, Option.bind_some, hBc, Nat.mul_one, if_pos hob, hA, hs, Option.map_some]

/-- An append of zeros that finds no room. -/
theorem appendZ_run {T TI e : TypeId} {B : Nat} {z : Value} (ht : SlT P T e B z) (hI : P.underlying TI = some (.int .i64)) (w : World) (ty : TypeId) (base : Option Addr) (i C k : Nat) (old : Array Value) (hC : C < i + k) (hk : 0 < k) (hm : i + k < ML) (hb : (2 * (i + k) + 192) * B ≤ 281474976710656)
    (hold : ∀ w', w'.heap = w.heap → (Builtin.firstCells 1 i (.slice base i C)).run P w' = .ok old w') :
    ∃ newCap w1, i + k ≤ newCap ∧ newCap ≤ 9223372036854775807 ∧ (w1.heap = w.heap ∧ Side w w1) ∧ (Builtin.append_ #[T, TI] ty #[.slice base i C, .int .i64 k]).run P w =
      ((Go.newRow e (old ++ Builtin.zeroCells z.cells k ++ Builtin.zeroCells z.cells (newCap - (i + k)))).run P w1).andThen fun a w' => .ok (.slice (some a) (i + k) newCap) w' := by
  obtain ⟨ie, hi, h1, hbb, hzz⟩ := ht.info
  have hforced : (Question.appendCap (i + k) C e).forced = false := rfl
  have hml : ML = 4611686018427387904 := rfl
  refine ⟨i + k + (w.tape w.drawn (.appendCap (i + k) C e)) % (2 ^ 63 - (i + k)), { w with drawn := w.drawn + 1 }, by omega, ?_, ⟨rfl, ⟨rfl, rfl, rfl⟩⟩, ?_⟩
  · have hm' : (w.tape w.drawn (.appendCap (i + k) C e)) % (2 ^ 63 - (i + k)) < 2 ^ 63 - (i + k) := Nat.mod_lt _ (by omega)
    omega
  · have hnc : ¬ Builtin.nextslicecap (i + k) C * ie.bytes > 2 ^ 48 := by
      have h1 := nextcap_le hC
      have h2 : Builtin.nextslicecap (i + k) C * ie.bytes ≤ (2 * (i + k) + 192) * ie.bytes := Nat.mul_le_mul_right _ h1
      rw [hbb] at h2 ⊢
      omega
    have hmax : ¬ (((i + k : Nat) : Int) > IntKind.i64.max) := by
      have : IntKind.i64.max = 9223372036854775807 := by decide
      omega
    have hwr : IntKind.i64.wrap (k : Int) = k := wrapI (by omega) (by omega)
    have hneg : ¬ ((k : Int) < 0) := by omega
    have hby : ¬ ((k : Int) * (ie.bytes : Int) > 2 ^ 48) := by
      have : k * ie.bytes ≤ (2 * (i + k) + 192) * ie.bytes := Nat.mul_le_mul_right _ (by omega)
      rw [hbb] at this ⊢
      have h3 : ((k * B : Nat) : Int) ≤ 281474976710656 := by omega
      rw [Int.natCast_mul] at h3
      omega
    have hnle : ¬ (i + k ≤ C) := by omega
    have hz0 : ¬ (k * 1 = 0) := by omega
    have has : (asInt (Value.int IntKind.i64 (k : Int))).run P w = .ok (k : Int) w := rfl
    unfold Builtin.append_
    simp only [List.getElem?_toArray, List.getElem?_cons_zero, List.getElem?_cons_succ, Sem.run_bind, r_under w ht.sl, r_under w hI, Result.andThen_ok, r_size w hi, Sem.run_pure, has, hwr, if_neg hneg, r_info w hi, if_neg hby, Int.toNat_natCast, if_neg hnle, if_true]
    simp only [true_or, and_true, if_neg hmax, Sem.run_bind, Sem.run_pure, Result.andThen_ok, r_info w hi, if_neg hnc, run_choose, hforced, Question.cut, run_askRoom]
    rw [if_neg (by decide), Result.andThen_ok, r_info _ hi, Result.andThen_ok]
    simp only [h1]
    rw [hold { w with drawn := w.drawn + 1 } rfl, Result.andThen_ok]
    simp only [Bool.not_true, Bool.false_eq_true, if_false, if_neg hz0, Sem.run_bind, Sem.run_pure, r_zero _ hi hzz, Result.andThen_ok]

theorem zeroCells_one {z : Value} (hz : z.cells.toList = [z]) (n : Nat) : (Builtin.zeroCells z.cells n).toList = List.replicate n z := by
  have hc : z.cells.size = 1 := by
    have := congrArg List.length hz
    simpa using this
  apply List.ext_getElem?
  intro i
  simp only [Builtin.zeroCells, hc, Nat.mul_one, Array.toList_map, List.getElem?_map]
  by_cases hi : i < n
  · have h0 : z.cells[0]! = z := by
      have e : z.cells[0]! = z.cells[0] := getElem!_pos z.cells 0 (by omega)
      rw [e]
      have := congrArg (·[0]?) hz
      simpa [hc] using this
    rw [Array.toList_range, List.getElem?_range hi]
    simp [hi, Nat.mod_one, h0]
  · rw [Array.toList_range, List.getElem?_eq_none (by simpa using hi), List.getElem?_eq_none (by simpa using hi)]; rfl

theorem SemOp.appendZ {ops : Array Oper} {o : Oper} {a : AAct} {h : AH} {K : AAct → AH → Prop} {s x : Operand} {T TI e : TypeId} {B : Nat} {z : Value} (hop : o.op = .call { callee := .builtin .append, args := #[s, x], argTypes := #[T, TI] }) (hg : o.guard = none)
    (hs : cOK s = true) (hx : cOK x = true) (hd : dstOK a o.dst) (ht : SlT P T e B z) (hI : P.underlying TI = some (.int .i64)) {A i C k : Nat} {oA : AObj} {cs : List Value} (hvs : a.ev s = .slice (some ⟨A, 0, none⟩) i C) (hCS : C < SL) (hC0 : C ≠ 0) (hvx : a.ev x = .int .i64 k)
    (hA : h.get A = some oA) (hAc : oA.cells? = some cs) (hi : i ≤ cs.length) (hC : C < i + k) (hk0 : 0 < k) (hm : i + k < 4611686018427387904) (hb : (2 * (i + k) + 192) * B ≤ 281474976710656)
    (hk : K (a.put o.dst (.slice (some ⟨h.next, 0, none⟩) (i + k) (SL + 1))) (h.new (.grow (cs.take i ++ List.replicate k z) e))) : SemOp P ops o a h K := by
  intro n ρ crd ca w ha hr Q N hN
  have hw : Region.wanted o (yielded ops ca.tmps) = true := by
    obtain ⟨dst, op, type, pos, after, guard⟩ := o
    simp only at hg; subst hg; rfl
  have hnd : ∀ c, o.op ≠ .defer c := fun c e => by rw [hop] at e; cases e
  rw [if_pos hw]
  refine ⟨fun _ _ => trivial, ?_⟩
  have h1 := ha.ev hs
  have h2 := ha.ev hx
  rw [hvs] at h1
  rw [hvx] at h2
  obtain ⟨r, hq, hor⟩ := hr.obj A _ hA
  obtain ⟨eA, wrA, cc, fr, hrow⟩ := hor.rowAt hAc
  have hse : ca.eval s = .slice (some ⟨r.blk, r.base + 0, none⟩) i C := by
    generalize ca.eval s = y at h1
    cases h1 with
    | slice h' _ => rw [hq] at h'; cases h'; rfl
    | slack _ _ _ => omega
    | slack0 => omega
    | slip => exact absurd rfl hC0
  have hxe : ca.eval x = .int .i64 k := by
    generalize ca.eval x = y at h2
    cases h2; rfl
  obtain ⟨old, hol, hlr, hload, _⟩ := hrow.many 0 i (by omega)
  have hold : ∀ w', w'.heap = w.heap → (Builtin.firstCells 1 i (.slice (some ⟨r.blk, r.base + 0, none⟩) i C)).run P w' = .ok old.toArray w' := by
    intro w' hw'
    have := hload P w' (by rw [hw'])
    simpa [Builtin.firstCells] using this
  obtain ⟨newCap, w1, hnc, hncS, ⟨hw1, sd1⟩, hrun⟩ := appendZ_run ht hI w o.type (some ⟨r.blk, r.base + 0, none⟩) i C k old.toArray hC hk0 (by unfold ML; omega) hb hold
  have hzl := zeroCells_one ht.zc
  have hlr2 : LR ρ (cs.take i ++ List.replicate k z) (old ++ List.replicate k z) := by
    refine LR.append (by simpa using hlr) (LR.of_refl fun v hv => ?_)
    rw [List.eq_of_mem_replicate hv]
    exact plain_VR ρ 9 z ht.zp
  obtain ⟨ρ', w', hnew, hvr, hr', hf'⟩ := (hr.same hw1).newGrow P (e := e) (need := i + k) (cap := newCap) (sz := 1) (rest := List.replicate (newCap - (i + k)) z) hlr2 (fun v hv => by
    rcases List.mem_append.1 hv with hv | hv
    · exact hrow.one v (List.mem_of_mem_take hv)
    · rw [List.eq_of_mem_replicate hv]; exact ht.zo) (by simp; omega) (by simp) hnc hncS (fun v hv => by rw [List.eq_of_mem_replicate hv]; exact ⟨ht.zp, ht.zo⟩)
  have e1 : (old.toArray ++ Builtin.zeroCells z.cells k ++ Builtin.zeroCells z.cells (newCap - (i + k))) = ((old ++ List.replicate k z) ++ List.replicate (newCap - (i + k)) z).toArray := by
    apply Array.ext'
    simp [hzl]
  rw [e1, hnew] at hrun
  have hrun2 : (execOp ca.eval o).run P w = .ok (.value (.slice (some ⟨w1.heap.size, 0, none⟩) (i + k) newCap)) w' := by
    obtain ⟨dst, op, type, pos, after, guard⟩ := o
    simp only at hop; subst hop
    simp only [execOp, resolve, Sem.run_bind, Sem.run_pure, Result.andThen_ok, invoke, builtin, List.map_toArray, List.map_cons, List.map_nil, hse, hxe]
    simp only at hrun
    rw [hrun]; rfl
  rw [Oper.semAt_eq _ _ _ hnd, hrun2, Oper.uponIn_value]
  exact hN _ _ ⟨ρ', _, _, hk, (ha.mono hf'.le).put hd hvr, hr', (Frm.same hw1 sd1).trans hf'⟩

/-! ### A walk that leaves some regions to be shown apart -/

def wpX (P : Program) (ids : List Nat) (rd : Option Nat) : Code → (Exit → AAct → AH → Prop) → AAct → AH → Prop
  | .skip, Q, a, h => Q .normal a h
  | .ret, Q, a, h => Q .ret a h
  | .exit id, Q, a, h => Q (.exit id) a h
  | .seq x y, Q, a, h => wpX P ids rd x (thenQ (wpX P ids rd y Q) Q) a h
  | .block id c, Q, a, h => wpX P ids rd c (blockQ id Q) a h
  | .cond c x y, Q, a, h => andK (cOK c = true) (condV (a.ev c) (wpX P ids rd x Q) (wpX P ids rd y Q)) a h
  | .region id ops false, Q, a, h => if id ∈ ids then AW P rd (.region id ops false) Q a h else opsM P ops (Q .normal) ops.toList a h
  | c, Q, a, h => AW P rd c Q a h

theorem wpX_sound {ids : List Nat} {rd : Option Nat} : ∀ (c : Code) (Q : Exit → AAct → AH → Prop) (a : AAct) (h : AH), wpX P ids rd c Q a h → AW P rd c Q a h := by
  intro c
  induction c with
  | skip => intro Q a h hq; exact AW.skip hq
  | ret => intro Q a h hq; exact AW.ret hq
  | exit id => intro Q a h hq; exact AW.exit hq
  | seq x y ihx ihy =>
    intro Q a h hq
    refine AW.seq ((ihx _ _ _ hq).mono ?_)
    intro e a h hk
    cases e <;> first | exact ihy _ _ _ hk | exact hk
  | block id c ih => intro Q a h hq; exact AW.block (ih _ _ _ hq)
  | cond c x y ihx ihy =>
    intro Q a h hq
    obtain ⟨hc, hk⟩ := hq
    generalize hv : a.ev c = v at hk
    unfold condV at hk
    split at hk
    · exact AW.cond (t := true) hc hv (ihx _ _ _ hk)
    · exact AW.cond (t := false) hc hv (ihy _ _ _ hk)
    · exact hk.elim
  | region id ops draw =>
    intro Q a h hq
    cases draw with
    | false =>
      simp only [wpX] at hq
      split at hq
      · exact hq
      · exact AW.regionL (opsM_sound _ _ _ hq)
    | true => exact hq
  | _ => intro Q a h hq; exact hq

section eqs
variable {ids : List Nat} {rd : Option Nat} {Q : Exit → AAct → AH → Prop} {a : AAct} {h : AH}
theorem wpX_skip : wpX P ids rd .skip Q a h = Q .normal a h := rfl
theorem wpX_ret : wpX P ids rd .ret Q a h = Q .ret a h := rfl
theorem wpX_exit {i : Nat} : wpX P ids rd (.exit i) Q a h = Q (.exit i) a h := rfl
theorem wpX_seq {x y : Code} : wpX P ids rd (.seq x y) Q a h = wpX P ids rd x (thenQ (wpX P ids rd y Q) Q) a h := rfl
theorem wpX_block {i : Nat} {c : Code} : wpX P ids rd (.block i c) Q a h = wpX P ids rd c (blockQ i Q) a h := rfl
theorem wpX_cond {c : Operand} {x y : Code} : wpX P ids rd (.cond c x y) Q a h = andK (cOK c = true) (condV (a.ev c) (wpX P ids rd x Q) (wpX P ids rd y Q)) a h := rfl
theorem wpX_region {i : Nat} {ops : Array Oper} : wpX P ids rd (.region i ops false) Q a h = if i ∈ ids then AW P rd (.region i ops false) Q a h else opsM P ops (Q .normal) ops.toList a h := rfl
theorem wpX_draw {i : Nat} {ops : Array Oper} : wpX P ids rd (.region i ops true) Q a h = AW P rd (.region i ops true) Q a h := rfl
theorem wpX_loop {c : Code} : wpX P ids rd (.loop c) Q a h = AW P rd (.loop c) Q a h := rfl
end eqs

theorem ACall.of_wpX {g : FuncId} {fn : Func} {c : Code} {args : List Value} {h : AH} {K : Value → AH → Prop} (ids : List Nat) (N : Nat) (rs : List ResultVar) (hf : P.funcs[g]? = some fn) (hb : fn.body = some c) (hn : (fn.name == "runtime.NumGoroutine") = false)
    (hN : args.length + (fn.ntmps - args.length) = N) (hrs : fn.results.toList = rs)
    (hw : ∀ a : AAct, a.n = N → a.df = [] → (∀ i, a.tm i = args.getD i undef) → wpX P ids none c (bodyR P rs K) a h) : ACall P g args h K := by
  refine ACall.of_body hf hb hn (wpX_sound (ids := ids) _ _ _ _ ?_)
  have := hw (enterA fn args) hN rfl (fun _ => rfl)
  subst hrs
  exact this

/-- A region, its i-th operation shown by what the model does. -/
theorem AW.regionN {rd : Option Nat} {id : Nat} {ops : Array Oper} {Q : Exit → AAct → AH → Prop} {a : AAct} {h : AH} (i : Nat) (hi : i < ops.toList.length)
    (hx : opsM P ops (fun a h => SemOp P ops (ops.toList.getD i op0) a h (opsM P ops (Q .normal) (ops.toList.drop (i + 1)))) (ops.toList.take i) a h) : AW P rd (.region id ops false) Q a h := by
  refine AW.regionX (ops.toList.take i) (ops.toList.getD i op0) (ops.toList.drop (i + 1)) ?_ hx
  rw [List.getD_eq_getElem?_getD, List.getElem?_eq_getElem hi]
  simp only [Option.getD_some]
  exact (List.take_append_drop i ops.toList).symm.trans (by rw [List.drop_eq_getElem_cons hi])

end
end Go.Ab

namespace Go.Ab

section
variable {P : Program}

def planK2 (ops : Array Oper) : Plan → Option (List (Nat × Oper) × List (Nat × Oper) × List (Nat × Oper))
  | .take i _ k => match ops[i]?, planK2 ops k with
    | some o, some (l, x) => some ((0, o) :: l, x)
    | _, _ => none
  | .only i k => match ops[i]?, planK2 ops k with
    | some o, some (l, x) => some ((2, o) :: l, x)
    | _, _ => none
  | .two i k j l => match ops[i]?, planK ops k, ops[j]?, planK ops l with
    | some o, some r, some q, some s => some ([], (2, o) :: r, (2, q) :: s)
    | _, _, _, _ => none
  | _ => none

theorem seqM_sound2 {ops : Array Oper} {Q : Exit → AAct → AH → Prop} : ∀ (p : Plan) (l l1 l2 : List (Nat × Oper)) (a : AAct) (h : AH), planK2 ops p = some (l, l1, l2) →
    seqM P ops (fun a h => seqM P ops (Q .normal) l1 [] a h ∧ seqM P ops (Q .normal) l2 [] a h) l [] a h → planW P ops Q p [] a h := by
  intro p
  induction p with
  | take i D k ih =>
    intro l l1 l2 a h hp hk
    simp only [planK2] at hp
    split at hp
    · rename_i o l' x ho hl
      cases hp
      simp only [seqM] at hk
      split at hk
      · exact hk.elim
      · rename_i hok
        obtain ⟨h1, h2⟩ := okB_spec hok
        split at hk
        · rename_i hw
          exact ⟨o, undef, ho, ⟨h1, h2, by rw [hw]; simp⟩, ih _ _ _ _ _ hl hk⟩
        · rename_i hw
          split at hk
          · rename_i v h' hd
            obtain ⟨rfl, hk⟩ := hk
            exact ⟨o, v, ho, ⟨h1, h2, by rw [hw]; exact hd⟩, ih _ _ _ _ _ hl hk⟩
          · exact hk.elim
    · cases hp
  | only i k ih =>
    intro l l1 l2 a h hp hk
    simp only [planK2] at hp
    split at hp
    · rename_i o l' x ho hl
      cases hp
      simp only [seqM] at hk
      split at hk
      · exact hk.elim
      · rename_i hok
        obtain ⟨h1, h2⟩ := okB_spec hok
        show opI P ops i a h _
        unfold opI
        rw [ho]
        refine ⟨h1, h2, ?_⟩
        split at hk
        · rename_i hw; rw [hw]; exact ⟨hk.1, ih _ _ _ _ _ hl hk.2⟩
        · rename_i hw
          rw [hw, if_pos rfl]
          split at hk
          · rename_i f args _ hop
            rw [hop]
            exact callR.mono (fun v h (hk : _ ∧ _) => ⟨hk.1, ih _ _ _ _ _ hl hk.2⟩) hk
          · rename_i it hop
            rw [hop]
            exact opR.mono (op := .next it false) (K := contK (fun a h => Keeps P ops [] a h ∧ seqM P ops (fun a h => seqM P ops (Q .normal) l1 [] a h ∧ seqM P ops (Q .normal) l2 [] a h) l' [] a h) o.dst a) (fun v h hk => ⟨hk.1, ih _ _ _ _ _ hl hk.2⟩) hk
          · split at hk
            · rename_i v h' hd
              exact opR_of_dop hd ⟨hk.1, ih _ _ _ _ _ hl hk.2⟩
            · exact hk.elim
    · cases hp
  | two i k j l2' ih1 ih2 =>
    intro l l1 l2 a h hp hk
    simp only [planK2] at hp
    split at hp
    · rename_i o r q s ho hr hq hs
      cases hp
      obtain ⟨hk1, hk2⟩ := hk
      have e1 : planK ops (.only i k) = some ((2, o) :: r) := by simp only [planK, ho, hr]
      have e2 : planK ops (.only j l2') = some ((2, q) :: s) := by simp only [planK, hq, hs]
      exact ⟨seqM_sound (.only i k) _ [] a h e1 hk1, seqM_sound (.only j l2') _ [] a h e2 hk2⟩
    · cases hp
  | done => intro l l1 l2 a h hp; cases hp
  | watch => intro l l1 l2 a h hp; cases hp
  | three => intro l l1 l2 a h hp; cases hp

theorem AW.draw2 {rd : Option Nat} {id : Nat} {ops : Array Oper} {Q : Exit → AAct → AH → Prop} {a : AAct} {h : AH} (p : Plan) (ix ix1 ix2 : List (Nat × Nat)) (hm : P.follows .mixedOrders = true)
    (hp : (planOK ops (Array.replicate ops.size false) [] p && decide (p.len ≤ ops.size)) = true) (hk : planK2 ops p = some (selL ops.toList ix, selL ops.toList ix1, selL ops.toList ix2))
    (hx : seqM P ops (fun a h => seqM P ops (Q .normal) (selL ops.toList ix1) [] a h ∧ seqM P ops (Q .normal) (selL ops.toList ix2) [] a h) (selL ops.toList ix) [] a h) : AW P rd (.region id ops true) Q a h := by
  rw [Bool.and_eq_true] at hp
  exact AW.plan p hm hp.1 (of_decide_eq_true hp.2) (seqM_sound2 p _ _ _ a h hk hx)

end
end Go.Ab

namespace Go.Ab

section
variable {P : Program}

/-- A slice type whose elements take sz cells. -/
structure SlM (P : Program) (t e : TypeId) (sz B : Nat) : Prop where
  sl : P.underlying t = some (.slice e)
  info : ∃ i z, P.info? e = some i ∧ i.size = sz ∧ i.bytes = B ∧ i.zero = some z ∧ z.cells.size = sz ∧ zOK z = true ∧ plain 9 z = true
  pos : 0 < sz

/-- A slice of one's own, from a block's begin, of n elements: nil, or empty, or of a growing row. -/
def VecM (sz : Nat) (e : TypeId) (v : Value) (ob : Option AObj) (A n : Nat) (zs : List Value) : Prop :=
  zs.length = n * sz ∧
  ((n = 0 ∧ v = .slice none 0 0 ∧ ob = none) ∨
   (n = 0 ∧ v = .slice (some ⟨A, 0, none⟩) 0 0 ∧ ob = some (.row [] e true)) ∨
   (v = .slice (some ⟨A, 0, none⟩) n (SL + sz) ∧ ob = some (.grow zs e)))

theorem VecM.one {sz : Nat} {e : TypeId} {v : Value} {ob : Option AObj} {A n : Nat} {zs : List Value} (hv : VecM sz e v ob A n zs) : oneC v = true ∧ v.cells.toList = [v] := by
  obtain ⟨_, ⟨_, rfl, _⟩ | ⟨_, rfl, _⟩ | ⟨rfl, _⟩⟩ := hv <;> exact ⟨rfl, rfl⟩

theorem VecM.row {α : Type} {L : Lay α} {h : AH} {e : TypeId} {v : Value} {ob : Option AObj} {A : Nat} {zs : List Value} {xs : List α} (hv : VecM L.sz e v ob A xs.length zs) (hg : ∀ o, ob = some o → h.get A = some o) (hb : xs.length ≤ 4294967296)
    (hx : ∀ (i : Nat) (x : α), xs[i]? = some x → L.rel h ((zs.drop (i * L.sz)).take L.sz) x) : RowOf L h v xs := by
  have hp := L.pos
  obtain ⟨hl, ⟨h0, rfl, _⟩ | ⟨h0, rfl, rfl⟩ | ⟨rfl, rfl⟩⟩ := hv
  · exact ⟨none, 0, 0, rfl, h0.symm, ⟨fun q e => (nomatch e), Nat.le_refl _, .inl (by unfold SL; omega)⟩, .inl (List.eq_nil_of_length_eq_zero h0)⟩
  · exact ⟨_, 0, 0, rfl, h0.symm, ⟨fun q e => by cases e; rfl, Nat.le_refl _, .inl (by unfold SL; omega)⟩, .inl (List.eq_nil_of_length_eq_zero h0)⟩
  · exact ⟨_, _, _, rfl, rfl, ⟨fun q e => by cases e; rfl, by unfold SL; omega, .inr rfl⟩, .inr ⟨A, 0, _, zs, rfl, hg _ rfl, rfl, fun i x hi => by rw [Nat.zero_add]; exact hx i x hi⟩⟩

theorem appendM {t t2 e : TypeId} {sz B : Nat} (ht : SlM P t e sz B) (ht2 : ∃ e2, P.underlying t2 = some (.slice e2)) {h : AH} (hw : WFH h) {v : Value} {ob : Option AObj} {A n : Nat} {zs : List Value} (hv : VecM sz e v ob A n zs) (hg : ∀ o, ob = some o → h.get A = some o)
    {x : Value} {k : Nat} {ys : List Value} (hsrc : srcCells sz x h = some (k, ys)) (hk : k ≠ 0) (hys : ys.length = k * sz) (hb : (2 * (n + k) + 192) * B ≤ 281474976710656) (hm : n + k < 4611686018427387904) :
    ∃ r h', aAppend P #[t, t2] v x h = some (r, h') ∧ (∃ A' o', VecM sz e r (some o') A' (n + k) (zs ++ ys) ∧ h'.get A' = some o' ∧ h.next ≤ A') ∧ (∀ C o, h.get C = some o → (C = A → ob = none) → h'.get C = some o) ∧ WFH h' ∧ h.next ≤ h'.next := by
  obtain ⟨i, z, hi, h1, hbb, hzz, hc, hzk, _⟩ := ht.info
  obtain ⟨e2, ht2⟩ := ht2
  have hm' : n + k < ML := by unfold ML; omega
  have hlen : (zs ++ ys).length = (n + k) * sz := by rw [List.length_append, hv.1, hys, Nat.add_mul]
  obtain ⟨hl, ⟨rfl, rfl, rfl⟩ | ⟨rfl, rfl, rfl⟩ | ⟨rfl, rfl⟩⟩ := hv
  · have hz : zs = [] := List.eq_nil_of_length_eq_zero (by rw [hl, Nat.zero_mul])
    subst hz
    rw [Nat.zero_add] at hb hm' hlen
    refine ⟨.slice (some ⟨h.next, 0, none⟩) k (SL + sz), h.new (.grow ys e), ?_, ⟨h.next, _, ⟨by rw [Nat.zero_add]; exact hlen, .inr (.inr ⟨by rw [Nat.zero_add], rfl⟩)⟩, by simp [AH.new_get], Nat.le_refl _⟩, fun C o hC _ => Sub.new hw _ C o hC, hw.new _, by simp⟩
    simp [aAppend, ht.sl, ht2, hi, hzz, h1, hc, isIntT, hsrc, hbb, hb, hm', hzk, hk]
  · have hz : zs = [] := List.eq_nil_of_length_eq_zero (by rw [hl, Nat.zero_mul])
    subst hz
    rw [Nat.zero_add] at hb hm' hlen
    have hA := hg _ rfl
    refine ⟨.slice (some ⟨h.next, 0, none⟩) k (SL + sz), h.new (.grow ys e), ?_, ⟨h.next, _, ⟨by rw [Nat.zero_add]; exact hlen, .inr (.inr ⟨by rw [Nat.zero_add], rfl⟩)⟩, by simp [AH.new_get], Nat.le_refl _⟩, fun C o hC _ => Sub.new hw _ C o hC, hw.new _, by simp⟩
    have h0 : 0 < SL := by unfold SL; omega
    simp [aAppend, ht.sl, ht2, hi, hzz, h1, hc, isIntT, hsrc, hbb, hb, hm', hzk, hk, hA, AObj.cells?, h0]
  · have hA := hg _ rfl
    have hAn := AH.get_lt hw hA
    refine ⟨.slice (some ⟨h.next, 0, none⟩) (n + k) (SL + sz), (h.del A).new (.grow (zs ++ ys) e), ?_, ⟨h.next, _, ⟨hlen, .inr (.inr ⟨rfl, rfl⟩)⟩, by simp [AH.new_get], Nat.le_refl _⟩, fun C o hC hCA => ?_, (hw.del A).new _, by simp⟩
    · have hcap : ¬ (SL + sz < SL) := by omega
      have htk : zs.take (n * sz) = zs := by rw [← hl]; exact List.take_length
      simp [aAppend, ht.sl, ht2, hi, hzz, h1, hc, isIntT, hsrc, hbb, hA, hcap, hb, hm', hzk, hk, hl, htk]
    · have hne : C ≠ A := fun e => by have := hCA e; cases this
      have hCn := AH.get_lt hw hC
      rw [AH.new_get, AH.del_next, if_neg (by omega), AH.del_get, if_neg hne]; exact hC

/-- A slice of one element, laid. -/
theorem aBuildM {t e : TypeId} {sz B : Nat} (ht : SlM P t e sz B) (hs : sz ≤ 16777216) (h : AH) {xs : List Value} (hx : xs.length = sz) (ho : xs.all oneC = true) :
    aBuildSlice P t 1 [(0, .agg xs.toArray)] h = some (.slice (some ⟨h.next, 0, none⟩) 1 1, h.new (.row xs e true)) := by
  obtain ⟨i, z, hi, h1, hb, hz, hc, hzk, hp⟩ := ht.info
  have hzl : (zeros z.cells.toList 1).length = sz := by simp [zeros, hc]
  have hset := setL_all xs (zeros z.cells.toList 1) [] (by rw [hzl, hx])
  simp only [List.nil_append, List.length_nil] at hset
  have hcx : (Value.agg xs.toArray).cells = xs.toArray := rfl
  have hxs : xs.toArray.size = sz := by simp [hx]
  have hnl : ¬ ((zeros z.cells.toList 1).length < sz) := by omega
  have h01 : 1 < SL := by unfold SL; omega
  simp only [aBuildSlice, ht.sl, hi, hz, h1, hp, hc, fillL]
  simp only [Nat.one_mul, hs, h01, true_and, and_true, if_true, hcx, hxs, Nat.zero_mul, Nat.zero_add, hnl, if_false, if_true, hset, ne_eq, not_true_eq_false, or_self]
  rw [if_pos ho]

theorem srcNew {h : AH} {xs : List Value} {e : TypeId} {sz : Nat} (hx : xs.length = sz) : srcCells sz (.slice (some ⟨h.next, 0, none⟩) 1 1) (h.new (.row xs e true)) = some (1, xs) := by
  subst hx
  simp [srcCells, AH.new_get, AObj.cells?]

/-- The cells of a row, as an append reads them. -/
theorem RowOf.src {α : Type} {L : Lay α} {h : AH} {v : Value} {xs : List α} (hs : RowOf L h v xs) : ∃ ys, srcCells L.sz v h = some (xs.length, ys) ∧ ys.length = xs.length * L.sz ∧
    ∀ (i : Nat) (x : α), xs[i]? = some x → L.rel h ((ys.drop (i * L.sz)).take L.sz) x := by
  obtain ⟨p, l, c, rfl, rfl, ⟨hsp, _⟩, hcs⟩ := hs
  have hpos := L.pos
  by_cases hz : xs = []
  · subst hz
    refine ⟨[], ?_, by simp, fun i x hx => by simp at hx⟩
    cases p with
    | none => rfl
    | some q =>
      obtain ⟨A, off, sp⟩ := q
      have : sp = none := hsp _ rfl
      subst this; rfl
  · rcases hcs with e | ⟨A, off, o, cs, rfl, hg, hc, hall⟩
    · exact absurd e hz
    · have hn : xs.length ≠ 0 := fun e => hz (List.eq_nil_of_length_eq_zero e)
      have hlast : off + xs.length * L.sz ≤ cs.length := by
        have hx : xs[xs.length - 1]? = some xs[xs.length - 1] := List.getElem?_eq_getElem (by omega)
        have hl := L.len (hall _ _ hx)
        simp only [List.length_take, List.length_drop] at hl
        have : (xs.length - 1) * L.sz + L.sz = xs.length * L.sz := by
          rw [← Nat.succ_mul]; congr 1; omega
        omega
      refine ⟨(cs.drop off).take (xs.length * L.sz), ?_, by simp; omega, fun i x hx => ?_⟩
      · simp only [srcCells, if_neg hn, hg, Option.bind_some, hc, if_pos hlast]
      · have hi : i < xs.length := (List.getElem?_eq_some_iff.1 hx).1
        have := hall i x hx
        have hle : i * L.sz + L.sz ≤ xs.length * L.sz := by
          rw [← Nat.succ_mul]; exact Nat.mul_le_mul_right _ hi
        rw [List.drop_take, List.drop_drop, List.take_take, Nat.min_eq_left (by omega)]
        exact this

/-- One element of a slice of one's own written over. -/
theorem Vec.store {e : TypeId} {h : AH} {v : Value} {ob : Option AObj} {A : Nat} {zs : List Value} (hv : Vec e v ob A zs) (hg : ∀ o, ob = some o → h.get A = some o) (he : ∃ i, P.info? e = some i ∧ i.size = 1) {i : Nat} (hi : i < zs.length)
    {x : Value} (hx : x.cells.toList = [x]) (ho : oneC x = true) : ∃ o', aStore P e (slAt 1 v i) x h = some (h.set A o') ∧ Vec e v (some o') A (zs.set i x) ∧ ob ≠ none := by
  obtain ⟨ie, hie, h1⟩ := he
  have hc : x.cells.size = 1 := by
    have := congrArg List.length hx
    simpa using this
  have key : ∀ cs : List Value, cs.take zs.length = zs → (cs.set i x).take zs.length = zs.set i x := by
    intro cs ht
    rw [List.take_set, ht]
  rcases hv with ⟨rfl, rfl, _⟩ | ⟨cs, rfl, rfl, hle, ht⟩ | ⟨cs, C, rfl, h2, h3, h4, rfl, ht⟩
  · simp at hi
  · have hA := hg _ rfl
    refine ⟨.grow (cs.set i x) e, ?_, .inr (.inl ⟨cs.set i x, by simp, rfl, by simpa using hle, by simpa using key cs ht⟩), by simp⟩
    have hlt : i + 1 ≤ cs.length := by omega
    simp [slAt, aStore, hie, h1, hc, hx, ho, hA, AObj.setCells, hlt, setL_one]
  · have hA := hg _ rfl
    refine ⟨.row (cs.set i x) e true, ?_, .inr (.inr ⟨cs.set i x, C, by simp, h2, by simpa using h3, by simpa using h4, rfl, by simpa using key cs ht⟩), by simp⟩
    have hlt : i + 1 ≤ cs.length := by omega
    simp [slAt, aStore, hie, h1, hc, hx, ho, hA, AObj.setCells, hlt, setL_one]

end
end Go.Ab

namespace Go.Ab

section
variable {P : Program}

/-- A plan, by the operations' places. -/
inductive OT where
  | nil
  | step (k i : Nat) (t : OT)
  | two (i : Nat) (t : OT) (j : Nat) (u : OT)

def treeOf : Plan → Option OT
  | .done => some .nil
  | .take i _ k => (treeOf k).map (.step 0 i)
  | .watch i _ k => (treeOf k).map (.step 1 i)
  | .only i k => (treeOf k).map (.step 2 i)
  | .two i k j l => match treeOf k, treeOf l with
    | some t, some u => some (.two i t j u)
    | _, _ => none
  | .three .. => none

def stepX (P : Program) (F : List (Oper × Value) → AAct → AH → Prop) (ops : Array Oper) (k : Nat) (o : Oper) (R : List (Oper × Value)) (a : AAct) (h : AH) : Prop :=
  match k with
  | 0 => (match dop P a.ev o.op h with
    | some (v, h') => andK (h' = h) (F R) (a.put o.dst v) h
    | none => False)
  | 1 => (match dop P a.ev o.op h with
    | some (v, h') => andK (h' = h) (F ((o, v) :: R)) (a.put o.dst v) h
    | none => False)
  | _ => match o.op with
    | .call { callee := .value f, args, .. } => callR P (a.ev f) (args.toList.map a.ev) h (contK (fun a h => andK (Keeps P ops R a h) (F R) a h) o.dst a)
    | .next it false => NextW (a.ev it) h (contK (fun a h => andK (Keeps P ops R a h) (F R) a h) o.dst a)
    | op => match dop P a.ev op h with
      | some (v, h') => andK (Keeps P ops R (a.put o.dst v) h') (F R) (a.put o.dst v) h'
      | none => False

def skipX (P : Program) (F : List (Oper × Value) → AAct → AH → Prop) (ops : Array Oper) (k : Nat) (o : Oper) (R : List (Oper × Value)) (a : AAct) (h : AH) : Prop :=
  match k with
  | 0 => F R (a.put o.dst undef) h
  | 1 => F ((o, undef) :: R) (a.put o.dst undef) h
  | _ => andK (Keeps P ops R (a.put o.dst undef) h) (F R) (a.put o.dst undef) h

def wantX (w : Bool) (P : Program) (F : List (Oper × Value) → AAct → AH → Prop) (ops : Array Oper) (k : Nat) (o : Oper) (R : List (Oper × Value)) (a : AAct) (h : AH) : Prop :=
  match w with
  | false => skipX P F ops k o R a h
  | true => stepX P F ops k o R a h

def okX (b : Bool) (P : Program) (F : List (Oper × Value) → AAct → AH → Prop) (ops : Array Oper) (k : Nat) (o : Oper) (R : List (Oper × Value)) (a : AAct) (h : AH) : Prop :=
  match b with
  | false => False
  | true => wantX (Region.wanted o (yieldedA ops a)) P F ops k o R a h

theorem okX_true {F : List (Oper × Value) → AAct → AH → Prop} {ops : Array Oper} {k : Nat} {o : Oper} {R : List (Oper × Value)} {a : AAct} {h : AH} : okX true P F ops k o R a h = wantX (Region.wanted o (yieldedA ops a)) P F ops k o R a h := rfl
theorem wantX_true {F : List (Oper × Value) → AAct → AH → Prop} {ops : Array Oper} {k : Nat} {o : Oper} {R : List (Oper × Value)} {a : AAct} {h : AH} : wantX true P F ops k o R a h = stepX P F ops k o R a h := rfl
theorem wantX_false {F : List (Oper × Value) → AAct → AH → Prop} {ops : Array Oper} {k : Nat} {o : Oper} {R : List (Oper × Value)} {a : AAct} {h : AH} : wantX false P F ops k o R a h = skipX P F ops k o R a h := rfl

def treeM (P : Program) (ops : Array Oper) (N : AAct → AH → Prop) : OT → List (Oper × Value) → AAct → AH → Prop
  | .nil, _, a, h => N a h
  | .step k i t, R, a, h => okX (okB (ops.toList.getD i op0) a) P (treeM P ops N t) ops k (ops.toList.getD i op0) R a h
  | .two i t j u, R, a, h => okX (okB (ops.toList.getD i op0) a) P (treeM P ops N t) ops 2 (ops.toList.getD i op0) R a h ∧ okX (okB (ops.toList.getD j op0) a) P (treeM P ops N u) ops 2 (ops.toList.getD j op0) R a h

theorem treeM_nil {ops : Array Oper} {N : AAct → AH → Prop} {R : List (Oper × Value)} {a : AAct} {h : AH} : treeM P ops N .nil R a h = N a h := rfl
theorem treeM_step {ops : Array Oper} {N : AAct → AH → Prop} {k i : Nat} {t : OT} {R : List (Oper × Value)} {a : AAct} {h : AH} :
    treeM P ops N (.step k i t) R a h = okX (okB (ops.toList.getD i op0) a) P (treeM P ops N t) ops k (ops.toList.getD i op0) R a h := rfl
theorem treeM_two {ops : Array Oper} {N : AAct → AH → Prop} {i j : Nat} {t u : OT} {R : List (Oper × Value)} {a : AAct} {h : AH} :
    treeM P ops N (.two i t j u) R a h = (treeM P ops N (.step 2 i t) R a h ∧ treeM P ops N (.step 2 j u) R a h) := rfl

def inB (n : Nat) : Plan → Bool
  | .done => true
  | .take i _ k => decide (i < n) && inB n k
  | .watch i _ k => decide (i < n) && inB n k
  | .only i k => decide (i < n) && inB n k
  | .two i k j l => decide (i < n) && inB n k && decide (j < n) && inB n l
  | .three .. => false

theorem getD_ops {ops : Array Oper} {i : Nat} (hi : i < ops.size) : ops[i]? = some (ops.toList.getD i op0) := by
  rw [List.getD_eq_getElem?_getD, Array.getElem?_toList, Array.getElem?_eq_getElem hi, Option.getD_some]

theorem onlyX {F : List (Oper × Value) → AAct → AH → Prop} {ops : Array Oper} {o : Oper} {R : List (Oper × Value)} {a : AAct} {h : AH} {K : List (Oper × Value) → AAct → AH → Prop} (hF : ∀ R a h, F R a h → K R a h)
    (hk : okX (okB o a) P F ops 2 o R a h) : opW P ops o a h (fun a h => Keeps P ops R a h ∧ K R a h) := by
  cases hok : okB o a with
  | false => rw [hok] at hk; exact hk.elim
  | true =>
    rw [hok, okX_true] at hk
    obtain ⟨h1, h2⟩ := okB_spec hok
    refine ⟨h1, h2, ?_⟩
    cases hw : Region.wanted o (yieldedA ops a) with
    | false => rw [hw] at hk; exact ⟨hk.1, hF _ _ _ hk.2⟩
    | true =>
      rw [hw, wantX_true] at hk
      rw [if_pos rfl]
      simp only [stepX] at hk
      split at hk
      · rename_i f args _ hop
        rw [hop]
        exact callR.mono (fun v h (hk : _ ∧ _) => ⟨hk.1, hF _ _ _ hk.2⟩) hk
      · rename_i it hop
        rw [hop]
        exact opR.mono (op := .next it false) (K := contK (fun a h => andK (Keeps P ops R a h) (F R) a h) o.dst a) (fun v h hk => ⟨hk.1, hF _ _ _ hk.2⟩) hk
      · split at hk
        · rename_i v h' hd
          exact opR_of_dop hd ⟨hk.1, hF _ _ _ hk.2⟩
        · exact hk.elim

theorem takeX {F : List (Oper × Value) → AAct → AH → Prop} {ops : Array Oper} {o : Oper} {R : List (Oper × Value)} {a : AAct} {h : AH}
    (hk : okX (okB o a) P F ops 0 o R a h) : ∃ v, Still P ops o v a h ∧ F R (a.put o.dst v) h := by
  cases hok : okB o a with
  | false => rw [hok] at hk; exact hk.elim
  | true =>
    rw [hok, okX_true] at hk
    obtain ⟨h1, h2⟩ := okB_spec hok
    cases hw : Region.wanted o (yieldedA ops a) with
    | false => rw [hw] at hk; exact ⟨undef, ⟨h1, h2, by rw [hw]; simp⟩, hk⟩
    | true =>
      rw [hw, wantX_true] at hk
      simp only [stepX] at hk
      split at hk
      · rename_i v h' hd
        obtain ⟨rfl, hk⟩ := hk
        exact ⟨v, ⟨h1, h2, by rw [hw]; exact hd⟩, hk⟩
      · exact hk.elim

theorem watchX {F : List (Oper × Value) → AAct → AH → Prop} {ops : Array Oper} {o : Oper} {R : List (Oper × Value)} {a : AAct} {h : AH}
    (hk : okX (okB o a) P F ops 1 o R a h) : ∃ v, Still P ops o v a h ∧ F ((o, v) :: R) (a.put o.dst v) h := by
  cases hok : okB o a with
  | false => rw [hok] at hk; exact hk.elim
  | true =>
    rw [hok, okX_true] at hk
    obtain ⟨h1, h2⟩ := okB_spec hok
    cases hw : Region.wanted o (yieldedA ops a) with
    | false => rw [hw] at hk; exact ⟨undef, ⟨h1, h2, by rw [hw]; simp⟩, hk⟩
    | true =>
      rw [hw, wantX_true] at hk
      simp only [stepX] at hk
      split at hk
      · rename_i v h' hd
        obtain ⟨rfl, hk⟩ := hk
        exact ⟨v, ⟨h1, h2, by rw [hw]; exact hd⟩, hk⟩
      · exact hk.elim

theorem treeM_sound {ops : Array Oper} {Q : Exit → AAct → AH → Prop} : ∀ (p : Plan) (t : OT) (R : List (Oper × Value)) (a : AAct) (h : AH), treeOf p = some t → inB ops.size p = true → treeM P ops (Q .normal) t R a h → planW P ops Q p R a h := by
  intro p
  induction p with
  | done => intro t R a h hp _ hk; cases hp; exact hk
  | take i D k ih =>
    intro t R a h hp hb hk
    simp only [treeOf, Option.map_eq_some_iff] at hp
    obtain ⟨t', hp, rfl⟩ := hp
    simp only [inB, Bool.and_eq_true, decide_eq_true_eq] at hb
    obtain ⟨v, hs, hk⟩ := takeX hk
    exact ⟨_, v, getD_ops hb.1, hs, ih _ _ _ _ hp hb.2 hk⟩
  | watch i D k ih =>
    intro t R a h hp hb hk
    simp only [treeOf, Option.map_eq_some_iff] at hp
    obtain ⟨t', hp, rfl⟩ := hp
    simp only [inB, Bool.and_eq_true, decide_eq_true_eq] at hb
    obtain ⟨v, hs, hk⟩ := watchX hk
    exact ⟨_, v, getD_ops hb.1, hs, ih _ _ _ _ hp hb.2 hk⟩
  | only i k ih =>
    intro t R a h hp hb hk
    simp only [treeOf, Option.map_eq_some_iff] at hp
    obtain ⟨t', hp, rfl⟩ := hp
    simp only [inB, Bool.and_eq_true, decide_eq_true_eq] at hb
    show opI P ops i a h _
    unfold opI
    rw [getD_ops hb.1]
    exact onlyX (fun R a h hk => ih _ _ _ _ hp hb.2 hk) hk
  | two i k j l ih1 ih2 =>
    intro t R a h hp hb hk
    simp only [treeOf] at hp
    split at hp
    · rename_i t' u hk' hl'
      cases hp
      simp only [inB, Bool.and_eq_true, decide_eq_true_eq] at hb
      obtain ⟨⟨⟨b1, b2⟩, b3⟩, b4⟩ := hb
      refine ⟨?_, ?_⟩
      · unfold opI
        rw [getD_ops b1]
        exact onlyX (fun R a h hk => ih1 _ _ _ _ hk' b2 hk) hk.1
      · unfold opI
        rw [getD_ops b3]
        exact onlyX (fun R a h hk => ih2 _ _ _ _ hl' b4 hk) hk.2
    · cases hp
  | three => intro t R a h hp; cases hp

theorem AW.drawX {rd : Option Nat} {id : Nat} {ops : Array Oper} {Q : Exit → AAct → AH → Prop} {a : AAct} {h : AH} (p : Plan) (t : OT) (hm : P.follows .mixedOrders = true)
    (hp : (planOK ops (Array.replicate ops.size false) [] p && (decide (p.len ≤ ops.size) && inB ops.size p)) = true) (hk : treeOf p = some t)
    (hx : treeM P ops (Q .normal) t [] a h) : AW P rd (.region id ops true) Q a h := by
  rw [Bool.and_eq_true, Bool.and_eq_true] at hp
  exact AW.plan p hm hp.1 (of_decide_eq_true hp.2.1) (treeM_sound p t [] a h hk hp.2.2 hx)

/-! ### An append of several elements -/

theorem setL_mid : ∀ (xs cs pre post : List Value), cs.length = xs.length → setL (pre ++ cs ++ post) pre.length xs = pre ++ xs ++ post := by
  intro xs
  induction xs with
  | nil => intro cs pre post h; rw [List.eq_nil_of_length_eq_zero h]; rfl
  | cons x xs ih =>
    intro cs pre post h
    cases cs with
    | nil => simp at h
    | cons c cs =>
      rw [setL]
      have e1 : (pre ++ c :: cs ++ post).set pre.length x = (pre ++ [x]) ++ cs ++ post := by simp [List.set_append]
      rw [e1]
      have := ih cs (pre ++ [x]) post (by simpa using h)
      rw [List.length_append, List.length_singleton] at this
      rw [this]; simp

theorem appendVs {t t2 e : TypeId} {B : Nat} {z : Value} (ht : SlT P t e B z) (ht2 : ∃ e2, P.underlying t2 = some (.slice e2)) {h : AH} (hw : WFH h) {v : Value} {ob : Option AObj} {A : Nat} {zs : List Value} (hv : Vec e v ob A zs) (hg : ∀ o, ob = some o → h.get A = some o)
    {x : Value} {ys : List Value} (hsrc : srcCells 1 x h = some (ys.length, ys)) (hne : ys ≠ []) (hx : ys.all oneC = true) (hb : (2 * (zs.length + ys.length) + 192) * B ≤ 281474976710656) (hm : zs.length + ys.length < 4611686018427387904) :
    ∃ r h', aAppend P #[t, t2] v x h = some (r, h') ∧ VecUp e h ob A r (zs ++ ys) h' := by
  obtain ⟨i, hi, h1, hbb, hzz⟩ := ht.info
  have hc : z.cells.size = 1 := by
    have := congrArg List.length ht.zc
    simpa using this
  obtain ⟨e2, ht2⟩ := ht2
  have hk0 : ys.length ≠ 0 := fun e => hne (List.eq_nil_of_length_eq_zero e)
  have hm' : zs.length + ys.length < ML := by unfold ML; omega
  rcases hv with ⟨rfl, rfl, rfl⟩ | ⟨cs, rfl, rfl, hle, htk⟩ | ⟨cs, C, rfl, hCm, hnC, hCl, rfl, htk⟩
  · simp only [List.length_nil, Nat.zero_add] at hb hm'
    refine ⟨.slice (some ⟨h.next, 0, none⟩) ys.length (SL + 1), h.new (.grow ys e), ?_, ⟨⟨h.next, _, .inr (.inl ⟨ys, rfl, rfl, by simp, List.take_length⟩), by simp [AH.new_get], .inr (Nat.le_refl _)⟩, fun B o hB _ => ?_, hw.new _, by simp⟩⟩
    · simp [aAppend, ht.sl, ht2, hi, hzz, h1, hc, isIntT, hsrc, hbb, hb, hm', ht.zk, hk0]
    · exact Sub.new hw _ B o hB
  · have hA := hg _ rfl
    have hAn : A < h.next := AH.get_lt hw hA
    refine ⟨.slice (some ⟨h.next, 0, none⟩) (zs.length + ys.length) (SL + 1), (h.del A).new (.grow (zs ++ ys) e), ?_, ⟨⟨h.next, _, .inr (.inl ⟨zs ++ ys, by simp, rfl, by simp, List.take_length⟩), by simp [AH.new_get], .inr (Nat.le_refl _)⟩, fun B o hB hBA => ?_, (hw.del A).new _, by simp⟩⟩
    · have hcap : ¬ (SL + 1 < SL) := by omega
      simp [aAppend, ht.sl, ht2, hi, hzz, h1, hc, isIntT, hsrc, hbb, hA, hcap, hle, hb, hm', htk, ht.zk, hk0]
    · have hne : B ≠ A := fun x => by have := hBA x; simp at this
      have hBn := AH.get_lt hw hB
      rw [AH.new_get, AH.del_next, if_neg (by omega), AH.del_get, if_neg hne]; exact hB
  · have hA := hg _ rfl
    have hAn : A < h.next := AH.get_lt hw hA
    have hcap : C < SL := by unfold SL; omega
    have hsplit : zs.length ≤ cs.length := by omega
    by_cases hfit : zs.length + ys.length ≤ C
    · have hset : zs.length + ys.length ≤ cs.length := by omega
      have hcs : cs = zs ++ (cs.drop zs.length).take ys.length ++ cs.drop (zs.length + ys.length) := by
        rw [List.append_assoc]
        conv => lhs; rw [← List.take_append_drop zs.length cs, htk]
        congr 1
        rw [← List.drop_drop, List.take_append_drop]
      have hml : ((cs.drop zs.length).take ys.length).length = ys.length := by simp; omega
      have hst : setL cs zs.length ys = zs ++ ys ++ cs.drop (zs.length + ys.length) := by
        conv => lhs; rw [hcs]
        exact setL_mid ys _ zs _ hml
      refine ⟨.slice (some ⟨A, 0, none⟩) (zs.length + ys.length) C, h.set A (.row (setL cs zs.length ys) e true), ?_, ⟨⟨A, _, .inr (.inr ⟨setL cs zs.length ys, C, by simp, hCm, by simpa using hfit, by simpa using hCl, rfl, ?_⟩), by simp [AH.set_get], .inl ⟨rfl, by simp⟩⟩, fun B o hB hBA => ?_, hw.set hAn _, by simp⟩⟩
      · simp [aAppend, ht.sl, ht2, hi, hzz, h1, hc, isIntT, hsrc, hcap, hA, hfit, AObj.setCells, hset, ht.zk, hk0]
      · rw [hst, List.take_append_of_le_length (by simp), List.take_of_length_le (by simp)]
      · rw [AH.set_get, if_neg (fun x => by have := hBA x; simp at this)]; exact hB
    · refine ⟨.slice (some ⟨h.next, 0, none⟩) (zs.length + ys.length) (SL + 1), h.new (.grow (zs ++ ys) e), ?_, ⟨⟨h.next, _, .inr (.inl ⟨zs ++ ys, by simp, rfl, by simp, List.take_length⟩), by simp [AH.new_get], .inr (Nat.le_refl _)⟩, fun B o hB _ => ?_, hw.new _, by simp⟩⟩
      · simp [aAppend, ht.sl, ht2, hi, hzz, h1, hc, isIntT, hsrc, hcap, hA, hfit, AObj.cells?, hsplit, hbb, hb, hm', htk, ht.zk, hk0]
      · exact Sub.new hw _ B o hB
end
end Go.Ab

namespace Go.Ab.S1
open Go.Proofs
set_option linter.unusedSimpArgs false
set_option linter.unusedVariables false
set_option maxRecDepth 100000
set_option maxHeartbeats 4000000
attribute [local push_cast] wpA_skip wpA_ret wpA_exit wpA_seq wpA_block wpA_cond2 andK_true wpA_region wpA_draw wpA_loop thenQ_normal thenQ_ret thenQ_exit blockQ_normal blockQ_ret blockQ_exit condV_true condV_false opsM_nil opsM_cons2 okM_true wantM_true wantM_false stepM seqM_cons2 seqM_nil2 okS_true wantS_true wantS_false stepS skipS okB Keeps_nil contK_app List.zip_cons_cons List.zip_nil_left List.zip_nil_right Op.operands Call.operands Array.toList_append List.append_nil List.nil_append List.all_cons List.all_nil cOK plain put_n put_tm put_none put_df ev_tmp ev_const ev_func wanted_none wanted_some callR_func dop ex_some1 aBuiltin aBin intBin aUn Option.map_some Bool.and_true Bool.true_and Bool.and_self List.map_cons List.map_nil List.toList_toArray List.getElem?_toArray List.getElem?_cons_zero List.getElem?_cons_succ Option.getD_some Option.getD_none Bool.false_eq_true eq_self_iff_true decide_true decide_false List.cons_append aExtract resL resV List.getD_cons_zero List.getD_cons_succ List.getD_nil Nat.succ_ne_self g1 g2 yieldedA2 isB_bool isB_undef g3 Option.bind_some Option.bind_none bne_self_eq_false beq_self_eq_true Bool.not_true Bool.not_false Int.toNat_natCast List.length_map List.mem_cons List.not_mem_nil or_false not_false_eq_true decide_not Bool.not_not bodyR_ret2 bodyR_normal2 closeMarks_nil ex_some0 Nat.zero_add Nat.add_zero ieq ine List.map_toArray Option.toArray_none Option.toArray_some oev Keeps_cons Still_eq selL wpX_skip wpX_ret wpX_exit wpX_seq wpX_block wpX_cond wpX_region wpX_draw wpX_loop List.take_succ_cons List.take_zero List.drop_succ_cons List.drop_zero Int.zero_add Int.add_zero aNil if_true if_false true_and and_true

theorem sortL_sorted (zs : List Int) : (sortL zs).Pairwise (fun x y => x ≤ y) := by
  have := List.pairwise_mergeSort (le := fun x y : Int => decide (x ≤ y)) (by intro a b c; simp; omega) (by intro a b; simp; omega) zs
  simpa [sortL] using this

/-- In range, and none twice. -/
def Marks (zs : List Int) (n : Nat) (i : Nat) : Prop := (∀ z ∈ zs.take i, 0 ≤ z ∧ z < n) ∧ (zs.take i).Nodup

theorem climb {l : List Int} (hs : l.Pairwise (· < ·)) (h0 : ∀ z ∈ l, 0 ≤ z) : ∀ (i : Nat) (hi : i < l.length), (i : Int) ≤ l[i] := by
  rw [List.pairwise_iff_getElem] at hs
  intro i
  induction i with
  | zero => intro hi; exact h0 _ (List.getElem_mem hi)
  | succ i ih => intro hi; have := ih (by omega); have := hs i (i + 1) (by omega) hi (by omega); omega

theorem climb' {l : List Int} (hs : l.Pairwise (· < ·)) (h1 : ∀ z ∈ l, z < l.length) : ∀ (j i : Nat) (hi : i < l.length), i + j + 1 = l.length → l[i] ≤ (i : Int) := by
  have hs' := List.pairwise_iff_getElem.1 hs
  intro j
  induction j with
  | zero => intro i hi e; have := h1 _ (List.getElem_mem hi); omega
  | succ j ih => intro i hi e; have := ih (i + 1) (by omega) (by omega); have := hs' i (i + 1) hi (by omega) (by omega); omega

theorem IsPerm.of_marks {zs : List Int} (h : Marks zs zs.length zs.length) : IsPerm zs := by
  obtain ⟨hr, hn⟩ := h
  rw [List.take_length] at hr hn
  have hperm := sortL_perm zs
  have hn' : (sortL zs).Nodup := hperm.nodup_iff.2 hn
  have hs : (sortL zs).Pairwise (fun x y => x < y) := by
    have h1 := sortL_sorted zs
    rw [List.nodup_iff_pairwise_ne] at hn'
    exact (h1.and hn').imp (fun ⟨a, b⟩ => by omega)
  intro i hi
  have hi' : i < (sortL zs).length := by rw [sortL_len]; exact hi
  have a := climb hs (fun z hz => (hr z (hperm.mem_iff.1 hz)).1) i hi'
  have b := climb' hs (fun z hz => by rw [sortL_len]; exact (hr z (hperm.mem_iff.1 hz)).2) (zs.length - i - 1) i hi' (by rw [sortL_len]; omega)
  rw [List.getElem?_eq_getElem hi']
  congr 1; omega

theorem Marks.succ {zs : List Int} {n i : Nat} (h : Marks zs n i) (hi : i < zs.length) (h0 : 0 ≤ zs.getD i 0) (h1 : zs.getD i 0 < n) (h2 : zs.getD i 0 ∉ zs.take i) : Marks zs n (i + 1) := by
  have e : zs.take (i + 1) = zs.take i ++ [zs.getD i 0] := by
    rw [List.take_add_one]
    simp [List.getD_eq_getElem?_getD, hi]
  refine ⟨fun z hz => ?_, ?_⟩
  · rw [e] at hz
    rcases List.mem_append.1 hz with hz | hz
    · exact h.1 z hz
    · simp at hz; subst hz; exact ⟨by simpa using h0, by simpa using h1⟩
  · rw [e, List.nodup_append]
    exact ⟨h.2, by simp, fun a ha b hb => by simp at hb; subst hb; rintro rfl; exact h2 (by simpa using ha)⟩

theorem Marks.out {zs : List Int} {n i : Nat} (hi : i < zs.length) (h : zs.getD i 0 < 0 ∨ (n : Int) ≤ zs.getD i 0 ∨ zs.getD i 0 ∈ zs.take i) : ¬ Marks zs n (i + 1) := by
  have e : zs.take (i + 1) = zs.take i ++ [zs.getD i 0] := by
    rw [List.take_add_one]
    simp [List.getD_eq_getElem?_getD, hi]
  rintro ⟨a, b⟩
  rw [e] at a b
  have := a (zs.getD i 0) (by simp)
  rcases h with h | h | h
  · omega
  · omega
  · rw [List.nodup_append] at b
    exact b.2.2 _ h _ (by simp) rfl


structure Cell where
  name : ByteArray
  pins : Int
  table : Int
  area : Int
  delay : List Int
structure Inst where
  cell : Int
  pins : List Int
structure Flop where
  next : Int
  init : Int
structure Net where
  cells : List Cell
  inputs : Int
  flops : List Flop
  insts : List Inst
  outs : List Int

instance : Inhabited Cell := ⟨⟨ByteArray.empty, 0, 0, 0, []⟩⟩
instance : Inhabited Inst := ⟨⟨0, []⟩⟩
instance : Inhabited Flop := ⟨⟨0, 0⟩⟩

def cellL : Lay Cell where
  sz := 5
  pos := by decide
  rel h cs c := ∃ dv, cs = [.string c.name, .int .i64 c.pins, .int .u64 c.table, .int .i64 c.area, dv] ∧ SlOf h dv (c.delay.map (.int .i64))
  mono := by rintro h h' cs x hs ⟨dv, rfl, hd⟩; exact ⟨dv, rfl, hd.sub hs⟩
  len := by rintro h cs x ⟨dv, rfl, hd⟩; rfl
  one := by rintro h cs x ⟨dv, rfl, hd⟩ v hv; simp only [List.mem_cons, List.not_mem_nil, or_false] at hv; rcases hv with rfl | rfl | rfl | rfl | rfl <;> first | rfl | exact hd.one
instance : LayV cellL := ⟨by rintro h cs x ⟨dv, rfl, hd⟩; exact ⟨dv, rfl, hd.view⟩⟩
def instL : Lay Inst where
  sz := 2
  pos := by decide
  rel h cs c := ∃ dv, cs = [.int .i64 c.cell, dv] ∧ SlOf h dv (c.pins.map (.int .i64))
  mono := by rintro h h' cs x hs ⟨dv, rfl, hd⟩; exact ⟨dv, rfl, hd.sub hs⟩
  len := by rintro h cs x ⟨dv, rfl, hd⟩; rfl
  one := by rintro h cs x ⟨dv, rfl, hd⟩ v hv; simp only [List.mem_cons, List.not_mem_nil, or_false] at hv; rcases hv with rfl | rfl <;> first | rfl | exact hd.one
instance : LayV instL := ⟨by rintro h cs x ⟨dv, rfl, hd⟩; exact ⟨dv, rfl, hd.view⟩⟩
def flopL : Lay Flop where
  sz := 2
  pos := by decide
  rel h cs c := cs = [.int .i64 c.next, .int .u8 c.init]
  mono := by rintro h h' cs x hs rfl; rfl
  len := by rintro h cs x rfl; rfl
  one := by rintro h cs x rfl v hv; simp only [List.mem_cons, List.not_mem_nil, or_false] at hv; rcases hv with rfl | rfl <;> rfl
instance : LayV flopL := ⟨by rintro h cs x rfl; rfl⟩

theorem fl3 : Fl Try.prog 3 := ⟨_, Try.underlying3, rfl⟩
theorem fl2 : Fl Try.prog 2 := ⟨_, Try.underlying2, rfl⟩
theorem fl5 : Fl Try.prog 5 := ⟨_, Try.underlying5, rfl⟩
theorem fl9 : Fl Try.prog 9 := ⟨_, Try.underlying9, rfl⟩
theorem flI : Fl Try.prog 22 := ⟨_, Try.underlying22, rfl⟩
theorem flL : Fl Try.prog 45 := ⟨_, Try.underlying45, rfl⟩
theorem flU : Fl Try.prog 44 := ⟨_, Try.underlying44, rfl⟩
theorem flC : Fl Try.prog 30 := ⟨_, Try.underlying30, rfl⟩
theorem flF : Fl Try.prog 31 := ⟨_, Try.underlying31, rfl⟩
theorem flN : Fl Try.prog 32 := ⟨_, Try.underlying32, rfl⟩
theorem agC : Ag Try.prog 47 5 := ⟨⟨_, Try.underlying47, rfl⟩, ⟨(Try.prog.info? 47).get (by kernel_rfl), by kernel_rfl, by kernel_rfl⟩⟩
theorem agI : Ag Try.prog 43 2 := ⟨⟨_, Try.underlying43, rfl⟩, ⟨(Try.prog.info? 43).get (by kernel_rfl), by kernel_rfl, by kernel_rfl⟩⟩
theorem agF : Ag Try.prog 62 2 := ⟨⟨_, Try.underlying62, rfl⟩, ⟨(Try.prog.info? 62).get (by kernel_rfl), by kernel_rfl, by kernel_rfl⟩⟩
theorem agN : Ag Try.prog 34 5 := ⟨⟨_, Try.underlying34, rfl⟩, ⟨(Try.prog.info? 34).get (by kernel_rfl), by kernel_rfl, by kernel_rfl⟩⟩
theorem foC0 : fOff Try.prog 47 0 = some 0 := by kernel_rfl
theorem foC1 : fOff Try.prog 47 1 = some 1 := by kernel_rfl
theorem foC2 : fOff Try.prog 47 2 = some 2 := by kernel_rfl
theorem foC3 : fOff Try.prog 47 3 = some 3 := by kernel_rfl
theorem foC4 : fOff Try.prog 47 4 = some 4 := by kernel_rfl
theorem foI0 : fOff Try.prog 43 0 = some 0 := by kernel_rfl
theorem foI1 : fOff Try.prog 43 1 = some 1 := by kernel_rfl
theorem foF0 : fOff Try.prog 62 0 = some 0 := by kernel_rfl
theorem foF1 : fOff Try.prog 62 1 = some 1 := by kernel_rfl
theorem foN0 : fOff Try.prog 34 0 = some 0 := by kernel_rfl
theorem foN1 : fOff Try.prog 34 1 = some 1 := by kernel_rfl
theorem foN2 : fOff Try.prog 34 2 = some 2 := by kernel_rfl
theorem foN3 : fOff Try.prog 34 3 = some 3 := by kernel_rfl
theorem foN4 : fOff Try.prog 34 4 = some 4 := by kernel_rfl
theorem zrC : Zr Try.prog 47 [.string ByteArray.empty, .int .i64 0, .int .u64 0, .int .i64 0, .slice none 0 0] := ⟨(Try.prog.info? 47).get (by kernel_rfl), .agg #[.string ByteArray.empty, .int .i64 0, .int .u64 0, .int .i64 0, .slice none 0 0], by kernel_rfl, by kernel_rfl, rfl, rfl, rfl⟩
theorem zrI : Zr Try.prog 43 [.int .i64 0, .slice none 0 0] := ⟨(Try.prog.info? 43).get (by kernel_rfl), .agg #[.int .i64 0, .slice none 0 0], by kernel_rfl, by kernel_rfl, rfl, rfl, rfl⟩
theorem zrF : Zr Try.prog 62 [.int .i64 0, .int .u8 0] := ⟨(Try.prog.info? 62).get (by kernel_rfl), .agg #[.int .i64 0, .int .u8 0], by kernel_rfl, by kernel_rfl, rfl, rfl, rfl⟩

/-! ### Tables -/

def lim (n : Int) : Int := if (if n < 0 then 0 else n) > 6 then 6 else (if n < 0 then 0 else n)

theorem lim_range (n : Int) : lim n = 0 ∨ lim n = 1 ∨ lim n = 2 ∨ lim n = 3 ∨ lim n = 4 ∨ lim n = 5 ∨ lim n = 6 := by
  unfold lim; omega

theorem limited {h : AH} {n : Int} : ACall Try.prog 58 [.int .i64 n] h (fun r h' => r = .int .i64 (lim n) ∧ h' = h) := by
  refine ACall.of_wp 6 [.tmp 2] Try.func58 rfl (by kernel_rfl) rfl rfl fun a hn hd ha => ?_
  simp (disch := first | omega | decide) only [push_cast, ↓reduceIte, Nat.reduceLT, Nat.reduceEqDiff, reduceCtorEq, Nat.reduceAdd, hn, hd, ha, aFold, aMax2, aMin2, gt_iff_lt]
  simp only [lim, gt_iff_lt]
  repeat' split
  all_goals first | rfl | omega | (congr 1; omega)

/-- All bits, for n variables. -/
def maskE (n : Int) : Int := 2 ^ (2 ^ (lim n).toNat) - 1

theorem mask {h : AH} {n : Int} : ACall Try.prog 59 [.int .i64 n] h (fun r h' => r = .int .u64 (maskE n) ∧ h' = h) := by
  refine ACall.of_wp 8 [.tmp 2] Try.func59 rfl (by kernel_rfl) rfl rfl fun a hn hd ha => ?_
  simp (disch := first | omega | decide) only [push_cast, ↓reduceIte, Nat.reduceLT, Nat.reduceEqDiff, reduceCtorEq, Nat.reduceAdd, hn, hd, ha]
  refine ACall.mono ?_ limited
  rintro _ _ ⟨rfl, rfl⟩
  rcases lim_range n with e | e | e | e | e | e | e <;> (simp (disch := first | omega | decide) only [push_cast, ↓reduceIte, Nat.reduceLT, Nat.reduceEqDiff, reduceCtorEq, Nat.reduceAdd, hn, hd, ha, e, shlR, shrR, maskE]; try rfl)

theorem _root_.Nat.lt_of_testBit_false' {t k n : Nat} (ht : t < 2 ^ n) (h : ∀ i, i < n → ¬ i < k → t.testBit i = false) : t < 2 ^ k := by
  apply Nat.lt_pow_two_of_testBit
  intro i hi
  by_cases hn : i < n
  · exact h i hn (by omega)
  · exact Nat.testBit_lt_two_pow (Nat.lt_of_lt_of_le ht (Nat.pow_le_pow_right (by omega) (by omega)))

theorem and_not_mask (t k : Nat) (ht : t < 2 ^ 64) (hk : k ≤ 64) : ((BitVec.ofInt 64 (t : Int) &&& ~~~(BitVec.ofInt 64 ((2 : Int) ^ k - 1))).toNat = 0) ↔ t < 2 ^ k := by
  have h1 : BitVec.ofInt 64 (t : Int) = BitVec.ofNat 64 t := by simp
  have h2 : BitVec.ofInt 64 ((2 : Int) ^ k - 1) = BitVec.ofNat 64 (2 ^ k - 1) := by
    have : ((2 : Int) ^ k - 1) = ((2 ^ k - 1 : Nat) : Int) := by
      have := Nat.one_le_two_pow (n := k)
      rw [Int.natCast_sub this]; simp
    rw [this]; simp
  rw [h1, h2]
  have key : ∀ i, (BitVec.ofNat 64 t &&& ~~~(BitVec.ofNat 64 (2 ^ k - 1))).getLsbD i = (decide (i < 64) && (t.testBit i && !decide (i < k))) := by
    intro i
    simp only [BitVec.getLsbD_and, BitVec.getLsbD_not, BitVec.getLsbD_ofNat, Nat.testBit_two_pow_sub_one]
    by_cases h : i < 64 <;> simp [h]
  constructor
  · intro h
    apply Nat.lt_of_testBit_false' ht
    intro i hi hik
    have h0 : BitVec.ofNat 64 t &&& ~~~(BitVec.ofNat 64 (2 ^ k - 1)) = 0#64 := BitVec.eq_of_toNat_eq (by rw [h]; rfl)
    have := key i
    rw [h0] at this
    simp [hi, hik] at this
    simpa using this
  · intro h
    have : BitVec.ofNat 64 t &&& ~~~(BitVec.ofNat 64 (2 ^ k - 1)) = 0#64 := by
      apply BitVec.eq_of_getLsbD_eq
      intro i hi
      rw [key i]
      by_cases hik : i < k
      · simp [hik]
      · have : t.testBit i = false := Nat.testBit_lt_two_pow (Nat.lt_of_lt_of_le h (Nat.pow_le_pow_right (by omega) (by omega)))
        simp [this]
    rw [this]; rfl

def validE (t n : Int) : Bool := decide (n = lim n) && decide (t ≤ maskE n)

theorem maskE_and {t n : Int} (h0 : 0 ≤ t) (h1 : t < 18446744073709551616) : (IntKind.u64.wrap ((BitVec.ofInt 64 t &&& ~~~BitVec.ofInt 64 (maskE n)).toNat : Int) == 0) = decide (t ≤ maskE n) := by
  obtain ⟨m, rfl⟩ : ∃ m : Nat, t = m := ⟨t.toNat, by omega⟩
  have hk : 2 ^ (lim n).toNat ≤ 64 := by rcases lim_range n with e | e | e | e | e | e | e <;> rw [e] <;> decide
  have := and_not_mask m (2 ^ (lim n).toNat) (by omega) hk
  unfold maskE
  generalize hx : (BitVec.ofInt 64 (m : Int) &&& ~~~BitVec.ofInt 64 ((2 : Int) ^ 2 ^ (lim n).toNat - 1)) = x at this ⊢
  have hlt := x.isLt
  have hw : IntKind.u64.wrap (x.toNat : Int) = x.toNat := by
    unfold IntKind.wrap
    simp [IntKind.bits, IntKind.signed]
    omega
  rw [hw]
  have hp : ((m : Int) ≤ 2 ^ 2 ^ (lim n).toNat - 1) ↔ m < 2 ^ 2 ^ (lim n).toNat := by
    have : ((2 : Int) ^ 2 ^ (lim n).toNat) = ((2 ^ 2 ^ (lim n).toNat : Nat) : Int) := by simp
    rw [this]; omega
  by_cases hm : m < 2 ^ 2 ^ (lim n).toNat
  · have := this.2 hm
    simp [hp.2 hm, this]
  · have h2 : ¬ x.toNat = 0 := fun e => hm (this.1 e)
    have h3 : ¬ ((m : Int) ≤ 2 ^ 2 ^ (lim n).toNat - 1) := fun e => hm (hp.1 e)
    rw [decide_eq_false h3]
    simp; omega

theorem valid {h : AH} {t n : Int} (h0 : 0 ≤ t) (h1 : t < 18446744073709551616) : ACall Try.prog 47 [.int .u64 t, .int .i64 n] h (fun r h' => r = .bool (validE t n) ∧ h' = h) := by
  refine ACall.of_wp 16 [.tmp 4] Try.func47 rfl (by kernel_rfl) rfl rfl fun a hn hd ha => ?_
  simp (disch := first | omega | decide) only [push_cast, ↓reduceIte, Nat.reduceLT, Nat.reduceEqDiff, reduceCtorEq, Nat.reduceAdd, hn, hd, ha]
  refine ACall.mono ?_ limited
  rintro _ _ ⟨rfl, rfl⟩
  simp (disch := first | omega | decide) only [push_cast, ↓reduceIte, Nat.reduceLT, Nat.reduceEqDiff, reduceCtorEq, Nat.reduceAdd, hn, hd, ha]
  refine wantM_of (fun e => ?_) (fun e => ?_)
  · simp (disch := first | omega | decide) only [push_cast, ↓reduceIte, Nat.reduceLT, Nat.reduceEqDiff, reduceCtorEq, Nat.reduceAdd, hn, hd, ha, e]
    refine ACall.mono ?_ mask
    rintro _ _ ⟨rfl, rfl⟩
    have e' : n = lim n := by simpa using e
    simp (disch := first | omega | decide) only [push_cast, ↓reduceIte, Nat.reduceLT, Nat.reduceEqDiff, reduceCtorEq, Nat.reduceAdd, hn, hd, ha, e, IntKind.bits, validE, decide_eq_true e', Bool.true_and]
    exact congrArg Value.bool (maskE_and h0 h1)
  · have e' : ¬ n = lim n := by simpa using e
    simp (disch := first | omega | decide) only [push_cast, ↓reduceIte, Nat.reduceLT, Nat.reduceEqDiff, reduceCtorEq, Nat.reduceAdd, hn, hd, ha, e, validE, decide_eq_false e', Bool.false_and]

/-! ### Names -/

def letterE (c : Int) : Bool := (decide (97 ≤ c) && decide (c ≤ 122)) || (decide (65 ≤ c) && decide (c ≤ 90))
def digitE (c : Int) : Bool := decide (48 ≤ c) && decide (c ≤ 57)
def nameGo : Bool → List Int → Bool
  | _, [] => true
  | first, c :: cs => (letterE c || (!first && (decide (c = 95) || digitE c))) && nameGo false cs
def nameE (s : ByteArray) : Bool := decide (s.size ≠ 0) && decide (s.size ≤ 16) && nameGo true (bytesI s)

theorem sl5 : Sl1 Try.prog 133 5 := ⟨Try.underlying133, ⟨(Try.prog.info? 5).get (by kernel_rfl), by kernel_rfl, by kernel_rfl⟩, ⟨_, Try.underlying5, rfl⟩⟩

theorem toList_len (s : ByteArray) : s.toList.length = s.size := by
  rw [ByteArray.toList_eq, Array.length_toList]; rfl

theorem toList_empty (s : ByteArray) : (s.toList == (⟨#[]⟩ : ByteArray).toList) = decide (s.size = 0) := by
  have e : (⟨#[]⟩ : ByteArray).toList = [] := List.eq_nil_of_length_eq_zero (toList_len _)
  rw [e]
  have := toList_len s
  cases h : s.toList with
  | nil => rw [h, List.length_nil] at this; simp [← this]
  | cons a l =>
    rw [h, List.length_cons] at this
    have h0 : s.size ≠ 0 := by omega
    simp [h0]

theorem lenStr {t : TypeId} (ht : Try.prog.underlying t = some .string) (s : ByteArray) (h : AH) : aLen Try.prog t (.string s) h = some (.int .i64 s.size) := by
  simp only [aLen, ht]

set_option maxHeartbeats 1000000 in
theorem validNameR {h : AH} {s : ByteArray} : ACall Try.prog 73 [.string s] h (fun r _ => r = .bool (nameE s)) := by
  refine ACall.wf ⟨_, Try.func73, rfl, by kernel_rfl⟩ fun hwf => ?_
  refine ACall.of_wp 49 [.tmp 2] Try.func73 rfl (by kernel_rfl) rfl rfl fun a hn hd ha => ?_
  simp (disch := first | omega | decide) only [push_cast, ↓reduceIte, Nat.reduceLT, Nat.reduceEqDiff, reduceCtorEq, Nat.reduceAdd, hn, hd, ha, strBin, toList_empty]
  refine wantM_not (fun h0 => ?_) (fun h0 => ?_)
  · have e : s.size = 0 := by simpa using h0
    simp (disch := first | omega | decide) only [push_cast, ↓reduceIte, Nat.reduceLT, Nat.reduceEqDiff, reduceCtorEq, Nat.reduceAdd, decide_eq_true, decide_eq_false, hn, hd, ha, e, nameE, ne_eq, not_true_eq_false, Bool.false_and]
  simp (disch := first | omega | decide) only [push_cast, ↓reduceIte, Nat.reduceLT, Nat.reduceEqDiff, reduceCtorEq, Nat.reduceAdd, hn, hd, ha, h0, lenStr Try.underlying9]
  have h0' : s.size ≠ 0 := by simpa using h0
  refine condV_of (fun h1 => ?_) (fun h1 => ?_)
  · have e : ¬ s.size ≤ 16 := by simp at h1; omega
    simp (disch := first | omega | decide) only [push_cast, ↓reduceIte, Nat.reduceLT, Nat.reduceEqDiff, reduceCtorEq, Nat.reduceAdd, decide_eq_true, decide_eq_false, hn, hd, ha, nameE, Bool.and_false, Bool.false_and]
  have h1' : s.size ≤ 16 := by simp at h1; omega
  simp (disch := first | omega | decide) only [push_cast, ↓reduceIte, Nat.reduceLT, Nat.reduceEqDiff, reduceCtorEq, Nat.reduceAdd, hn, hd, ha, aBytesAt Try.underlying9 Try.underlying133 Try.underlying5, lenS Try.underlying133]
  have hN : nameE s = nameGo true (bytesI s) := by simp only [nameE, ne_eq, h0', h1', not_false_eq_true, decide_true, Bool.true_and]
  have hsz := bytesI_len s
  refine AW.loopN 16 [3, 4, 15] (fun m a' h' => h' = h.new (.row ((bytesI s).map (.int .u8)) 5 false) ∧ ∃ i : Nat, a'.tm 15 = .int .i64 i ∧ i + m = s.size ∧ nameGo (decide (i = 0)) ((bytesI s).drop i) = nameE s) s.size ?_ ?_
  · refine ⟨rfl, 0, by simp (disch := first | omega | decide) only [push_cast, ↓reduceIte, Nat.reduceLT, Nat.reduceEqDiff, reduceCtorEq, Nat.reduceAdd], by omega, ?_⟩
    rw [hN]; rfl
  · rintro a1 m a' h' hk kn kd kt ⟨rfl, i, h15, him, hgo⟩
    simp (disch := first | omega | decide) only [push_cast, ↓reduceIte, Nat.reduceLT, Nat.reduceEqDiff, reduceCtorEq, Nat.reduceAdd, kn, kd, kt, hn, hd, ha, h15]
    refine condV_of (fun hlt => ?_) (fun hge => ?_)
    · have hi : i < s.size := by have := hlt; simp at this; omega
      have hrow : (h.new (.row ((bytesI s).map (.int .u8)) 5 false)).get h.next = some (.row ((bytesI s).map (.int .u8)) 5 false) := by simp [AH.new_get]
      have hdrop : (bytesI s).drop i = (bytesI s).getD i 0 :: (bytesI s).drop (i + 1) := by
        rw [List.drop_eq_getElem_cons (by omega)]
        simp [List.getD_eq_getElem?_getD, hsz, hi]
      have hD : decide (i + 1 = 0) = false := by simp
      rw [hdrop] at hgo
      simp (disch := first | omega | decide) only [push_cast, ↓reduceIte, Nat.reduceLT, Nat.reduceEqDiff, reduceCtorEq, Nat.reduceAdd, kn, kd, kt, hn, hd, ha, h15, idxL sl5, ldRow sl5 0 hrow rfl]
      generalize (bytesI s).getD i 0 = c at *
      have hi0 : decide (i = 0) = true ↔ i = 0 := by simp
      by_cases good : (97 ≤ c ∧ c ≤ 122) ∨ (65 ≤ c ∧ c ≤ 90) ∨ (0 < i ∧ c = 95) ∨ (0 < i ∧ 48 ≤ c ∧ c ≤ 57)
      · have hnext : nameGo (decide (i + 1 = 0)) ((bytesI s).drop (i + 1)) = nameE s := by
          rw [hD, ← hgo]
          simp only [nameGo, letterE, digitE]
          rcases good with ⟨a1, a2⟩ | ⟨a1, a2⟩ | ⟨a1, a2⟩ | ⟨a1, a2, a3⟩
          · simp [a1, a2]
          · simp [a1, a2]
          · have : i ≠ 0 := by omega
            simp [a2, this]
          · have : i ≠ 0 := by omega
            simp [a2, a3, this]
        rcases good with ⟨a1, a2⟩ | ⟨a1, a2⟩ | ⟨a1, a2⟩ | ⟨a1, a2, a3⟩ <;> simp (disch := first | omega | decide) only [push_cast, ↓reduceIte, Nat.reduceLT, Nat.reduceEqDiff, reduceCtorEq, Nat.reduceAdd, decide_eq_true, decide_eq_false, ge_iff_le, gt_iff_lt, kn, kd, kt, hn, hd, ha, h15, wrapI]
        all_goals exact ⟨m - 1, by omega, (by simp (disch := decide) only [Kp_put, put_none, hk]), rfl, i + 1, by simp (disch := first | omega | decide) only [push_cast, ↓reduceIte, Nat.reduceLT, Nat.reduceEqDiff, reduceCtorEq, Nat.reduceAdd], by omega, hnext⟩
      · have hb : nameE s = false := by
          rw [← hgo]
          simp only [nameGo, letterE, digitE, Bool.and_eq_false_iff, Bool.or_eq_false_iff, decide_eq_false_iff_not]
          left
          refine ⟨⟨by omega, by omega⟩, ?_⟩
          by_cases h0 : i = 0
          · left; simp [h0]
          · right; omega
        have bad : c < 48 ∨ (i = 0 ∧ 48 ≤ c ∧ c ≤ 57) ∨ (57 < c ∧ c < 65) ∨ (90 < c ∧ c < 95) ∨ (i = 0 ∧ c = 95) ∨ c = 96 ∨ 122 < c := by omega
        rcases Nat.eq_zero_or_pos i with i0 | i0 <;> rcases bad with a1 | ⟨a1, a2, a3⟩ | ⟨a1, a2⟩ | ⟨a1, a2⟩ | ⟨a1, a2⟩ | a1 | a1 <;> first | (exfalso; omega) | simp (disch := first | omega | decide) only [push_cast, ↓reduceIte, Nat.reduceLT, Nat.reduceEqDiff, reduceCtorEq, Nat.reduceAdd, decide_eq_true, decide_eq_false, ge_iff_le, gt_iff_lt, kn, kd, kt, hn, hd, ha, h15, hb]
    · have hi : i = s.size := by have := hge; simp at this; omega
      subst hi
      rw [List.drop_of_length_le (by omega)] at hgo
      simp (disch := first | omega | decide) only [push_cast, ↓reduceIte, Nat.reduceLT, Nat.reduceEqDiff, reduceCtorEq, Nat.reduceAdd, kn, kd, kt, hn, hd, ha, ← hgo, nameGo]

theorem validName {h : AH} {s : ByteArray} : ACall Try.prog 73 [.string s] h (fun r h' => r = .bool (nameE s) ∧ h' = h) :=
  ACall.viewed rfl validNameR


/-! ### Looking for an element -/

def Asks (f : Value) (h : AH) (p : Int → Bool) (zs : List Int) : Prop := ∀ x ∈ zs, callR Try.prog f [.int .i64 x] h (fun r h' => r = .bool (p x) ∧ h' = h)

theorem any_drop {α : Type} {p : α → Bool} {zs : List α} {i : Nat} (hi : i < zs.length) (d : α) : (zs.drop i).any p = (p (zs.getD i d) || (zs.drop (i + 1)).any p) := by
  rw [List.drop_eq_getElem_cons hi, List.any_cons]
  simp [List.getD_eq_getElem?_getD, hi]

theorem getD_mem {α : Type} {zs : List α} {i : Nat} (hi : i < zs.length) (d : α) : zs.getD i d ∈ zs := by
  simp [List.getD_eq_getElem?_getD, hi]

def IdxPost {α : Type} (p : α → Bool) (zs : List α) (h : AH) (r : Value) (h' : AH) : Prop := h' = h ∧ ∃ k : Int, r = .int .i64 k ∧ decide (k ≥ 0) = zs.any p

theorem slL : Sl1 Try.prog 45 2 := ⟨Try.underlying45, ⟨(Try.prog.info? 2).get (by kernel_rfl), by kernel_rfl, by kernel_rfl⟩, ⟨_, Try.underlying2, rfl⟩⟩

theorem indexL {h : AH} {v f : Value} {zs : List Int} {p : Int → Bool} (hv : SlOf h v (zs.map (.int .i64))) (hf : Asks f h p zs) (hb : zs.length ≤ 4611686018427387904) :
    ACall Try.prog 98 [v, f] h (IdxPost p zs h) := by
  refine ACall.of_wp 19 [.tmp 4] Try.func98 rfl (by kernel_rfl) rfl rfl fun a hn hd ha => ?_
  simp (disch := first | omega | decide | (simp only [List.length_cons, List.length_nil] <;> omega)) only [push_cast, ↓reduceIte, Nat.reduceLT, Nat.reduceEqDiff, reduceCtorEq, Nat.reduceAdd, hn, hd, ha, hv.lenA Try.underlying45]
  refine AW.loopN 8 [4, 5, 8] (fun m a' h' => h' = h ∧ ∃ i : Nat, a'.tm 8 = .int .i64 i ∧ i + m = zs.length ∧ a'.tm 7 = .int .i64 zs.length ∧ (zs.drop i).any p = zs.any p) zs.length ?_ ?_
  · exact ⟨rfl, 0, by simp (disch := first | omega | decide | (simp only [List.length_cons, List.length_nil] <;> omega)) only [push_cast, ↓reduceIte, Nat.reduceLT, Nat.reduceEqDiff, reduceCtorEq, Nat.reduceAdd], by omega, by simp (disch := first | omega | decide | (simp only [List.length_cons, List.length_nil] <;> omega)) only [push_cast, ↓reduceIte, Nat.reduceLT, Nat.reduceEqDiff, reduceCtorEq, Nat.reduceAdd], rfl⟩
  · rintro a1 m a' h' hk kn kd kt ⟨rfl, i, h8, him, h7, hany⟩
    simp (disch := first | omega | decide | (simp only [List.length_cons, List.length_nil] <;> omega)) only [push_cast, ↓reduceIte, Nat.reduceLT, Nat.reduceEqDiff, reduceCtorEq, Nat.reduceAdd, kn, kd, kt, hn, hd, ha, h8, h7]
    refine condV_of (fun hlt => ?_) (fun hge => ?_)
    · have hi : i < zs.length := by have := hlt; simp at this; omega
      simp (disch := first | omega | decide | (simp only [List.length_cons, List.length_nil] <;> omega)) only [push_cast, ↓reduceIte, Nat.reduceLT, Nat.reduceEqDiff, reduceCtorEq, Nat.reduceAdd, kn, kd, kt, hn, hd, ha, h8, h7, hv.idxI slL, hv.ldI slL]
      refine callR.mono ?_ (hf _ (getD_mem hi 0))
      rintro _ _ ⟨rfl, rfl⟩
      simp (disch := first | omega | decide | (simp only [List.length_cons, List.length_nil] <;> omega)) only [push_cast, ↓reduceIte, Nat.reduceLT, Nat.reduceEqDiff, reduceCtorEq, Nat.reduceAdd, kn, kd, kt, hn, hd, ha, h8, h7]
      rw [any_drop hi 0] at hany
      refine condV_of (fun hp => ?_) (fun hp => ?_)
      · simp (disch := first | omega | decide | (simp only [List.length_cons, List.length_nil] <;> omega)) only [push_cast, ↓reduceIte, Nat.reduceLT, Nat.reduceEqDiff, reduceCtorEq, Nat.reduceAdd, kn, kd, kt, hn, hd, ha, h8, h7]
        exact ⟨rfl, i, rfl, by rw [← hany, hp]; simp⟩
      · simp (disch := first | omega | decide | (simp only [List.length_cons, List.length_nil] <;> omega)) only [push_cast, ↓reduceIte, Nat.reduceLT, Nat.reduceEqDiff, reduceCtorEq, Nat.reduceAdd, kn, kd, kt, hn, hd, ha, h8, h7, wrapI]
        exact ⟨m - 1, by omega, (by simp (disch := decide) only [Kp_put, put_none, hk]), rfl, i + 1, by simp (disch := first | omega | decide | (simp only [List.length_cons, List.length_nil] <;> omega)) only [push_cast, ↓reduceIte, Nat.reduceLT, Nat.reduceEqDiff, reduceCtorEq, Nat.reduceAdd], by omega, by simp (disch := first | omega | decide | (simp only [List.length_cons, List.length_nil] <;> omega)) only [push_cast, ↓reduceIte, Nat.reduceLT, Nat.reduceEqDiff, reduceCtorEq, Nat.reduceAdd, h7], by rw [← hany, hp]; simp⟩
    · have hi : zs.length ≤ i := by have := hge; simp at this; omega
      rw [List.drop_of_length_le hi] at hany
      simp (disch := first | omega | decide | (simp only [List.length_cons, List.length_nil] <;> omega)) only [push_cast, ↓reduceIte, Nat.reduceLT, Nat.reduceEqDiff, reduceCtorEq, Nat.reduceAdd, kn, kd, kt, hn, hd, ha, h8, h7]
      exact ⟨rfl, -1, rfl, by rw [← hany]; rfl⟩

theorem containsL {h : AH} {v f : Value} {zs : List Int} {p : Int → Bool} (hv : SlOf h v (zs.map (.int .i64))) (hf : Asks f h p zs) (hb : zs.length ≤ 4611686018427387904) :
    ACall Try.prog 74 [v, f] h (fun r h' => r = .bool (zs.any p) ∧ h' = h) := by
  refine ACall.of_wp 9 [.tmp 4] Try.func74 rfl (by kernel_rfl) rfl rfl fun a hn hd ha => ?_
  simp (disch := first | omega | decide | (simp only [List.length_cons, List.length_nil] <;> omega)) only [push_cast, ↓reduceIte, Nat.reduceLT, Nat.reduceEqDiff, reduceCtorEq, Nat.reduceAdd, hn, hd, ha]
  refine ACall.mono ?_ (indexL hv hf hb)
  rintro _ _ ⟨rfl, k, rfl, hk⟩
  simp (disch := first | omega | decide | (simp only [List.length_cons, List.length_nil] <;> omega)) only [push_cast, ↓reduceIte, Nat.reduceLT, Nat.reduceEqDiff, reduceCtorEq, Nat.reduceAdd, hn, hd, ha, hk]

theorem indexI {h : AH} {v f : Value} {zs : List Int} {p : Int → Bool} (hv : SlOf h v (zs.map (.int .i64))) (hf : Asks f h p zs) (hb : zs.length ≤ 4611686018427387904) :
    ACall Try.prog 99 [v, f] h (IdxPost p zs h) := by
  refine ACall.of_wp 19 [.tmp 4] Try.func99 rfl (by kernel_rfl) rfl rfl fun a hn hd ha => ?_
  simp (disch := first | omega | decide | (simp only [List.length_cons, List.length_nil] <;> omega)) only [push_cast, ↓reduceIte, Nat.reduceLT, Nat.reduceEqDiff, reduceCtorEq, Nat.reduceAdd, hn, hd, ha, hv.lenA Try.underlying22]
  refine AW.loopN 8 [4, 5, 8] (fun m a' h' => h' = h ∧ ∃ i : Nat, a'.tm 8 = .int .i64 i ∧ i + m = zs.length ∧ a'.tm 7 = .int .i64 zs.length ∧ (zs.drop i).any p = zs.any p) zs.length ?_ ?_
  · exact ⟨rfl, 0, by simp (disch := first | omega | decide | (simp only [List.length_cons, List.length_nil] <;> omega)) only [push_cast, ↓reduceIte, Nat.reduceLT, Nat.reduceEqDiff, reduceCtorEq, Nat.reduceAdd], by omega, by simp (disch := first | omega | decide | (simp only [List.length_cons, List.length_nil] <;> omega)) only [push_cast, ↓reduceIte, Nat.reduceLT, Nat.reduceEqDiff, reduceCtorEq, Nat.reduceAdd], rfl⟩
  · rintro a1 m a' h' hk kn kd kt ⟨rfl, i, h8, him, h7, hany⟩
    simp (disch := first | omega | decide | (simp only [List.length_cons, List.length_nil] <;> omega)) only [push_cast, ↓reduceIte, Nat.reduceLT, Nat.reduceEqDiff, reduceCtorEq, Nat.reduceAdd, kn, kd, kt, hn, hd, ha, h8, h7]
    refine condV_of (fun hlt => ?_) (fun hge => ?_)
    · have hi : i < zs.length := by have := hlt; simp at this; omega
      simp (disch := first | omega | decide | (simp only [List.length_cons, List.length_nil] <;> omega)) only [push_cast, ↓reduceIte, Nat.reduceLT, Nat.reduceEqDiff, reduceCtorEq, Nat.reduceAdd, kn, kd, kt, hn, hd, ha, h8, h7, hv.idxI sl22, hv.ldI sl22]
      refine callR.mono ?_ (hf _ (getD_mem hi 0))
      rintro _ _ ⟨rfl, rfl⟩
      simp (disch := first | omega | decide | (simp only [List.length_cons, List.length_nil] <;> omega)) only [push_cast, ↓reduceIte, Nat.reduceLT, Nat.reduceEqDiff, reduceCtorEq, Nat.reduceAdd, kn, kd, kt, hn, hd, ha, h8, h7]
      rw [any_drop hi 0] at hany
      refine condV_of (fun hp => ?_) (fun hp => ?_)
      · simp (disch := first | omega | decide | (simp only [List.length_cons, List.length_nil] <;> omega)) only [push_cast, ↓reduceIte, Nat.reduceLT, Nat.reduceEqDiff, reduceCtorEq, Nat.reduceAdd, kn, kd, kt, hn, hd, ha, h8, h7]
        exact ⟨rfl, i, rfl, by rw [← hany, hp]; simp⟩
      · simp (disch := first | omega | decide | (simp only [List.length_cons, List.length_nil] <;> omega)) only [push_cast, ↓reduceIte, Nat.reduceLT, Nat.reduceEqDiff, reduceCtorEq, Nat.reduceAdd, kn, kd, kt, hn, hd, ha, h8, h7, wrapI]
        exact ⟨m - 1, by omega, (by simp (disch := decide) only [Kp_put, put_none, hk]), rfl, i + 1, by simp (disch := first | omega | decide | (simp only [List.length_cons, List.length_nil] <;> omega)) only [push_cast, ↓reduceIte, Nat.reduceLT, Nat.reduceEqDiff, reduceCtorEq, Nat.reduceAdd], by omega, by simp (disch := first | omega | decide | (simp only [List.length_cons, List.length_nil] <;> omega)) only [push_cast, ↓reduceIte, Nat.reduceLT, Nat.reduceEqDiff, reduceCtorEq, Nat.reduceAdd, h7], by rw [← hany, hp]; simp⟩
    · have hi : zs.length ≤ i := by have := hge; simp at this; omega
      rw [List.drop_of_length_le hi] at hany
      simp (disch := first | omega | decide | (simp only [List.length_cons, List.length_nil] <;> omega)) only [push_cast, ↓reduceIte, Nat.reduceLT, Nat.reduceEqDiff, reduceCtorEq, Nat.reduceAdd, kn, kd, kt, hn, hd, ha, h8, h7]
      exact ⟨rfl, -1, rfl, by rw [← hany]; rfl⟩

theorem containsI {h : AH} {v f : Value} {zs : List Int} {p : Int → Bool} (hv : SlOf h v (zs.map (.int .i64))) (hf : Asks f h p zs) (hb : zs.length ≤ 4611686018427387904) :
    ACall Try.prog 79 [v, f] h (fun r h' => r = .bool (zs.any p) ∧ h' = h) := by
  refine ACall.of_wp 9 [.tmp 4] Try.func79 rfl (by kernel_rfl) rfl rfl fun a hn hd ha => ?_
  simp (disch := first | omega | decide | (simp only [List.length_cons, List.length_nil] <;> omega)) only [push_cast, ↓reduceIte, Nat.reduceLT, Nat.reduceEqDiff, reduceCtorEq, Nat.reduceAdd, hn, hd, ha]
  refine ACall.mono ?_ (indexI hv hf hb)
  rintro _ _ ⟨rfl, k, rfl, hk⟩
  simp (disch := first | omega | decide | (simp only [List.length_cons, List.length_nil] <;> omega)) only [push_cast, ↓reduceIte, Nat.reduceLT, Nat.reduceEqDiff, reduceCtorEq, Nat.reduceAdd, hn, hd, ha, hk]

/-! ### A cell by itself -/

def delayBad (d : Int) : Bool := decide (d < 0) || decide (d > 1000000)

theorem check1 {h : AH} {x : Int} : ACall Try.prog 75 [.int .i64 x] h (fun r h' => r = .bool (delayBad x) ∧ h' = h) := by
  refine ACall.of_wp 9 [.tmp 2] Try.func75 rfl (by kernel_rfl) rfl rfl fun a hn hd ha => ?_
  simp (disch := first | omega | decide | (simp only [List.length_cons, List.length_nil] <;> omega)) only [push_cast, ↓reduceIte, Nat.reduceLT, Nat.reduceEqDiff, reduceCtorEq, Nat.reduceAdd, hn, hd, ha]
  refine wantM_not (fun h0 => ?_) (fun h0 => ?_)
  · simp (disch := first | omega | decide | (simp only [List.length_cons, List.length_nil] <;> omega)) only [push_cast, ↓reduceIte, Nat.reduceLT, Nat.reduceEqDiff, reduceCtorEq, Nat.reduceAdd, hn, hd, ha, h0, delayBad, Bool.true_or]
  · simp (disch := first | omega | decide | (simp only [List.length_cons, List.length_nil] <;> omega)) only [push_cast, ↓reduceIte, Nat.reduceLT, Nat.reduceEqDiff, reduceCtorEq, Nat.reduceAdd, hn, hd, ha, h0, delayBad, Bool.false_or]

def checkE (c : Cell) : Int :=
  if nameE c.name = false then 3
  else if (decide (c.pins < 1) || (decide (c.pins > 4) || (!validE c.table c.pins || (decide (c.area < 1) || decide (c.area > 1000000))))) = true then 1
  else if (c.delay.length : Int) ≠ c.pins then 12
  else if c.delay.any delayBad = true then 1
  else 0

def cellV (c : Cell) (dv : Value) : Value := .agg #[.string c.name, .int .i64 c.pins, .int .u64 c.table, .int .i64 c.area, dv]

theorem checkR {h : AH} {c : Cell} {dv : Value} (hd : SlOf h dv (c.delay.map (.int .i64))) (h0 : 0 ≤ c.table) (h1 : c.table < 18446744073709551616) (hb : c.delay.length ≤ 4611686018427387904) :
    ACall Try.prog 55 [cellV c dv] h (fun r _ => r = .int .i64 (checkE c)) := by
  refine ACall.wf ⟨_, Try.func55, rfl, by kernel_rfl⟩ fun hwf => ?_
  refine ACall.of_wp 46 [.tmp 2] Try.func55 rfl (by kernel_rfl) rfl rfl fun a hn hdf ha => ?_
  have hbox := boxA 47 h [.string c.name, .int .i64 c.pins, .int .u64 c.table, .int .i64 c.area, dv] (by simp only [List.all_cons, List.all_nil, hd.one]; rfl)
  have hB : (h.new (.row [.string c.name, .int .i64 c.pins, .int .u64 c.table, .int .i64 c.area, dv] 47 true)).get h.next = some (.row [.string c.name, .int .i64 c.pins, .int .u64 c.table, .int .i64 c.area, dv] 47 true) := by simp [AH.new_get]
  have hs : Sub h (h.new (.row [.string c.name, .int .i64 c.pins, .int .u64 c.table, .int .i64 c.area, dv] 47 true)) := Sub.new hwf _
  simp (disch := first | omega | decide | (simp only [List.length_cons, List.length_nil] <;> omega)) only [push_cast, ↓reduceIte, Nat.reduceLT, Nat.reduceEqDiff, reduceCtorEq, Nat.reduceAdd, hn, hdf, ha, cellV, hbox, faL foC0, ldN fl9, List.length_cons, List.length_nil]
  generalize h.new (.row [.string c.name, .int .i64 c.pins, .int .u64 c.table, .int .i64 c.area, dv] 47 true) = h1 at hB hs ⊢
  have hl2 := ldL hB rfl fl2
  have hl3 := ldL hB rfl fl3
  have hlU := ldL hB rfl flU
  have hlL := ldL hB rfl flL
  simp only [List.length_cons, List.length_nil] at hl2 hl3 hlU hlL
  refine ACall.mono ?_ validName
  rintro _ _ ⟨rfl, rfl⟩
  simp (disch := first | omega | decide | (simp only [List.length_cons, List.length_nil] <;> omega)) only [push_cast, ↓reduceIte, Nat.reduceLT, Nat.reduceEqDiff, reduceCtorEq, Nat.reduceAdd, hn, hdf, ha]
  refine condV_of (fun e0 => ?_) (fun e0 => ?_)
  · have e : nameE c.name = false := by simpa using e0
    simp (disch := first | omega | decide | (simp only [List.length_cons, List.length_nil] <;> omega)) only [push_cast, ↓reduceIte, Nat.reduceLT, Nat.reduceEqDiff, reduceCtorEq, Nat.reduceAdd, hn, hdf, ha, checkE, e]
  have e0' : ¬ nameE c.name = false := by simpa using e0
  simp (disch := first | omega | decide | (simp only [List.length_cons, List.length_nil] <;> omega)) only [push_cast, ↓reduceIte, Nat.reduceLT, Nat.reduceEqDiff, reduceCtorEq, Nat.reduceAdd, hn, hdf, ha, faL foC1, hl3]
  refine wantM_not (fun e1 => ?_) (fun e1 => ?_)
  · simp (disch := first | omega | decide | (simp only [List.length_cons, List.length_nil] <;> omega)) only [push_cast, ↓reduceIte, Nat.reduceLT, Nat.reduceEqDiff, reduceCtorEq, Nat.reduceAdd, hn, hdf, ha, e1, checkE, e0', Bool.true_or]
  simp (disch := first | omega | decide | (simp only [List.length_cons, List.length_nil] <;> omega)) only [push_cast, ↓reduceIte, Nat.reduceLT, Nat.reduceEqDiff, reduceCtorEq, Nat.reduceAdd, hn, hdf, ha, e1, faL foC1, hl3]
  refine wantM_not (fun e2 => ?_) (fun e2 => ?_)
  · simp (disch := first | omega | decide | (simp only [List.length_cons, List.length_nil] <;> omega)) only [push_cast, ↓reduceIte, Nat.reduceLT, Nat.reduceEqDiff, reduceCtorEq, Nat.reduceAdd, hn, hdf, ha, e1, e2, checkE, e0', Bool.true_or, Bool.false_or]
  simp (disch := first | omega | decide | (simp only [List.length_cons, List.length_nil] <;> omega)) only [push_cast, ↓reduceIte, Nat.reduceLT, Nat.reduceEqDiff, reduceCtorEq, Nat.reduceAdd, hn, hdf, ha, e1, e2, faL foC1, faL foC2, hl3, hlU]
  refine ACall.mono ?_ (valid h0 h1)
  rintro _ _ ⟨rfl, rfl⟩
  simp (disch := first | omega | decide | (simp only [List.length_cons, List.length_nil] <;> omega)) only [push_cast, ↓reduceIte, Nat.reduceLT, Nat.reduceEqDiff, reduceCtorEq, Nat.reduceAdd, hn, hdf, ha, e1, e2]
  refine wantM_of (fun e3 => ?_) (fun e3 => ?_)
  case refine_2 => simp (disch := first | omega | decide | (simp only [List.length_cons, List.length_nil] <;> omega)) only [push_cast, ↓reduceIte, Nat.reduceLT, Nat.reduceEqDiff, reduceCtorEq, Nat.reduceAdd, hn, hdf, ha, e1, e2, e3, checkE, e0', Bool.true_or, Bool.false_or]
  simp (disch := first | omega | decide | (simp only [List.length_cons, List.length_nil] <;> omega)) only [push_cast, ↓reduceIte, Nat.reduceLT, Nat.reduceEqDiff, reduceCtorEq, Nat.reduceAdd, hn, hdf, ha, e1, e2, e3, faL foC3, hl2]
  refine wantM_not (fun e4 => ?_) (fun e4 => ?_)
  · simp (disch := first | omega | decide | (simp only [List.length_cons, List.length_nil] <;> omega)) only [push_cast, ↓reduceIte, Nat.reduceLT, Nat.reduceEqDiff, reduceCtorEq, Nat.reduceAdd, hn, hdf, ha, e1, e2, e3, e4, checkE, e0', Bool.true_or, Bool.false_or]
  simp (disch := first | omega | decide | (simp only [List.length_cons, List.length_nil] <;> omega)) only [push_cast, ↓reduceIte, Nat.reduceLT, Nat.reduceEqDiff, reduceCtorEq, Nat.reduceAdd, hn, hdf, ha, e1, e2, e3, e4, faL foC3, hl2]
  refine condV_of (fun e5 => ?_) (fun e5 => ?_)
  · simp (disch := first | omega | decide | (simp only [List.length_cons, List.length_nil] <;> omega)) only [push_cast, ↓reduceIte, Nat.reduceLT, Nat.reduceEqDiff, reduceCtorEq, Nat.reduceAdd, hn, hdf, ha, e1, e2, e3, e4, e5, checkE, e0', Bool.true_or, Bool.false_or]
  simp (disch := first | omega | decide | (simp only [List.length_cons, List.length_nil] <;> omega)) only [push_cast, ↓reduceIte, Nat.reduceLT, Nat.reduceEqDiff, reduceCtorEq, Nat.reduceAdd, hn, hdf, ha, faL foC4, faL foC1, hlL, hl3, hd.lenA Try.underlying45]
  refine condV_not (fun e6 => ?_) (fun e6 => ?_)
  case refine_1 =>
    have : ¬ (c.delay.length : Int) = c.pins := by simpa using e6
    simp (disch := first | omega | decide | (simp only [List.length_cons, List.length_nil] <;> omega)) only [push_cast, ↓reduceIte, Nat.reduceLT, Nat.reduceEqDiff, reduceCtorEq, Nat.reduceAdd, hn, hdf, ha, e1, e2, e3, e4, e5, checkE, e0', ne_eq, this, Bool.false_or]
  have e6' : (c.delay.length : Int) = c.pins := by simpa using e6
  simp (disch := first | omega | decide | (simp only [List.length_cons, List.length_nil] <;> omega)) only [push_cast, ↓reduceIte, Nat.reduceLT, Nat.reduceEqDiff, reduceCtorEq, Nat.reduceAdd, hn, hdf, ha, faL foC4, hlL]
  refine ACall.mono ?_ (containsL (p := delayBad) (hd.sub hs) (fun x _ => check1) hb)
  rintro _ _ ⟨rfl, rfl⟩
  simp (disch := first | omega | decide | (simp only [List.length_cons, List.length_nil] <;> omega)) only [push_cast, ↓reduceIte, Nat.reduceLT, Nat.reduceEqDiff, reduceCtorEq, Nat.reduceAdd, hn, hdf, ha]
  refine condV_of (fun e7 => ?_) (fun e7 => ?_)
  · simp (disch := first | omega | decide | (simp only [List.length_cons, List.length_nil] <;> omega)) only [push_cast, ↓reduceIte, Nat.reduceLT, Nat.reduceEqDiff, reduceCtorEq, Nat.reduceAdd, hn, hdf, ha, checkE, e0', e1, e2, e3, e4, e5, e6', e7, ne_eq, not_true_eq_false, Bool.false_or]
  · simp (disch := first | omega | decide | (simp only [List.length_cons, List.length_nil] <;> omega)) only [push_cast, ↓reduceIte, Nat.reduceLT, Nat.reduceEqDiff, reduceCtorEq, Nat.reduceAdd, hn, hdf, ha, checkE, e0', e1, e2, e3, e4, e5, e6', e7, ne_eq, not_true_eq_false, Bool.false_or]

theorem check {h : AH} {c : Cell} {dv : Value} (hd : SlOf h dv (c.delay.map (.int .i64))) (h0 : 0 ≤ c.table) (h1 : c.table < 18446744073709551616) (hb : c.delay.length ≤ 4611686018427387904) :
    ACall Try.prog 55 [cellV c dv] h (fun r h' => r = .int .i64 (checkE c) ∧ h' = h) :=
  ACall.viewed rfl (checkR hd.view h0 h1 hb)


def AsksC (f : Value) (h : AH) (p : Cell → Bool) (cs : List Cell) : Prop := ∀ x ∈ cs, ∀ dv, SlOf h dv (x.delay.map (.int .i64)) → callR Try.prog f [cellV x dv] h (fun r h' => r = .bool (p x) ∧ h' = h)

theorem infC : ∃ i, Try.prog.info? 47 = some i ∧ i.size = cellL.sz := agC.size
theorem infI : ∃ i, Try.prog.info? 43 = some i ∧ i.size = instL.sz := agI.size
theorem infF : ∃ i, Try.prog.info? 62 = some i ∧ i.size = flopL.sz := agF.size

theorem indexC {h : AH} {v f : Value} {zs : List Cell} {p : Cell → Bool} (hv : RowOf cellL h v zs) (hf : AsksC f h p zs) (hb : zs.length ≤ 4611686018427387904) :
    ACall Try.prog 76 [v, f] h (IdxPost p zs h) := by
  refine ACall.of_wp 19 [.tmp 4] Try.func76 rfl (by kernel_rfl) rfl rfl fun a hn hd ha => ?_
  simp (disch := first | omega | decide | (simp only [List.length_cons, List.length_nil] <;> omega)) only [push_cast, ↓reduceIte, Nat.reduceLT, Nat.reduceEqDiff, reduceCtorEq, Nat.reduceAdd, hn, hd, ha, hv.len Try.underlying30]
  refine AW.loopN 8 [4, 5, 8] (fun m a' h' => h' = h ∧ ∃ i : Nat, a'.tm 8 = .int .i64 i ∧ i + m = zs.length ∧ a'.tm 7 = .int .i64 zs.length ∧ (zs.drop i).any p = zs.any p) zs.length ?_ ?_
  · exact ⟨rfl, 0, by simp (disch := first | omega | decide | (simp only [List.length_cons, List.length_nil] <;> omega)) only [push_cast, ↓reduceIte, Nat.reduceLT, Nat.reduceEqDiff, reduceCtorEq, Nat.reduceAdd], by omega, by simp (disch := first | omega | decide | (simp only [List.length_cons, List.length_nil] <;> omega)) only [push_cast, ↓reduceIte, Nat.reduceLT, Nat.reduceEqDiff, reduceCtorEq, Nat.reduceAdd], rfl⟩
  · rintro a1 m a' h' hk kn kd kt ⟨rfl, i, h8, him, h7, hany⟩
    simp (disch := first | omega | decide | (simp only [List.length_cons, List.length_nil] <;> omega)) only [push_cast, ↓reduceIte, Nat.reduceLT, Nat.reduceEqDiff, reduceCtorEq, Nat.reduceAdd, kn, kd, kt, hn, hd, ha, h8, h7]
    refine condV_of (fun hlt => ?_) (fun hge => ?_)
    · have hi : i < zs.length := by have := hlt; simp at this; omega
      obtain ⟨cs, ⟨dv, rfl, hdv⟩, hld, -, -⟩ := hv.get hi default
      replace hld := hld _ agC
      simp (disch := first | omega | decide | (simp only [List.length_cons, List.length_nil] <;> omega)) only [push_cast, ↓reduceIte, Nat.reduceLT, Nat.reduceEqDiff, reduceCtorEq, Nat.reduceAdd, kn, kd, kt, hn, hd, ha, h8, h7, hv.idx Try.underlying30 infC, hld]
      refine callR.mono ?_ (hf _ (getD_mem hi default) dv hdv)
      rintro _ _ ⟨rfl, rfl⟩
      simp (disch := first | omega | decide | (simp only [List.length_cons, List.length_nil] <;> omega)) only [push_cast, ↓reduceIte, Nat.reduceLT, Nat.reduceEqDiff, reduceCtorEq, Nat.reduceAdd, kn, kd, kt, hn, hd, ha, h8, h7]
      rw [any_drop hi default] at hany
      refine condV_of (fun hp => ?_) (fun hp => ?_)
      · simp (disch := first | omega | decide | (simp only [List.length_cons, List.length_nil] <;> omega)) only [push_cast, ↓reduceIte, Nat.reduceLT, Nat.reduceEqDiff, reduceCtorEq, Nat.reduceAdd, kn, kd, kt, hn, hd, ha, h8, h7]
        exact ⟨rfl, i, rfl, by rw [← hany, hp]; simp⟩
      · simp (disch := first | omega | decide | (simp only [List.length_cons, List.length_nil] <;> omega)) only [push_cast, ↓reduceIte, Nat.reduceLT, Nat.reduceEqDiff, reduceCtorEq, Nat.reduceAdd, kn, kd, kt, hn, hd, ha, h8, h7, wrapI]
        exact ⟨m - 1, by omega, (by simp (disch := decide) only [Kp_put, put_none, hk]), rfl, i + 1, by simp (disch := first | omega | decide | (simp only [List.length_cons, List.length_nil] <;> omega)) only [push_cast, ↓reduceIte, Nat.reduceLT, Nat.reduceEqDiff, reduceCtorEq, Nat.reduceAdd], by omega, by simp (disch := first | omega | decide | (simp only [List.length_cons, List.length_nil] <;> omega)) only [push_cast, ↓reduceIte, Nat.reduceLT, Nat.reduceEqDiff, reduceCtorEq, Nat.reduceAdd, h7], by rw [← hany, hp]; simp⟩
    · have hi : zs.length ≤ i := by have := hge; simp at this; omega
      rw [List.drop_of_length_le hi] at hany
      simp (disch := first | omega | decide | (simp only [List.length_cons, List.length_nil] <;> omega)) only [push_cast, ↓reduceIte, Nat.reduceLT, Nat.reduceEqDiff, reduceCtorEq, Nat.reduceAdd, kn, kd, kt, hn, hd, ha, h8, h7]
      exact ⟨rfl, -1, rfl, by rw [← hany]; rfl⟩

theorem containsC {h : AH} {v f : Value} {zs : List Cell} {p : Cell → Bool} (hv : RowOf cellL h v zs) (hf : AsksC f h p zs) (hb : zs.length ≤ 4611686018427387904) :
    ACall Try.prog 56 [v, f] h (fun r h' => r = .bool (zs.any p) ∧ h' = h) := by
  refine ACall.of_wp 9 [.tmp 4] Try.func56 rfl (by kernel_rfl) rfl rfl fun a hn hd ha => ?_
  simp (disch := first | omega | decide | (simp only [List.length_cons, List.length_nil] <;> omega)) only [push_cast, ↓reduceIte, Nat.reduceLT, Nat.reduceEqDiff, reduceCtorEq, Nat.reduceAdd, hn, hd, ha]
  refine ACall.mono ?_ (indexC hv hf hb)
  rintro _ _ ⟨rfl, k, rfl, hk⟩
  simp (disch := first | omega | decide | (simp only [List.length_cons, List.length_nil] <;> omega)) only [push_cast, ↓reduceIte, Nat.reduceLT, Nat.reduceEqDiff, reduceCtorEq, Nat.reduceAdd, hn, hd, ha, hk]

def sameName (s : ByteArray) (d : Cell) : Bool := d.name.toList == s.toList

theorem checkC1R {h : AH} {x : Cell} {dv : Value} {B : Nat} {o : AObj} {s : ByteArray} {rest : List Value} (hdv : SlOf h dv (x.delay.map (.int .i64))) (hB : h.get B = some o) (hc : o.cells? = some (.string s :: rest)) :
    ACall Try.prog 57 [cellV x dv, .pointer (some ⟨B, 0, none⟩)] h (fun r _ => r = .bool (sameName s x)) := by
  refine ACall.wf ⟨_, Try.func57, rfl, by kernel_rfl⟩ fun hwf => ?_
  refine ACall.of_wp 9 [.tmp 3] Try.func57 rfl (by kernel_rfl) rfl rfl fun a hn hdf ha => ?_
  have hbox := boxA 47 h [.string x.name, .int .i64 x.pins, .int .u64 x.table, .int .i64 x.area, dv] (by simp only [List.all_cons, List.all_nil, hdv.one]; rfl)
  have hl := fun ob => ldL (Sub.new hwf ob _ _ hB) hc fl9
  simp (disch := first | omega | decide | (simp only [List.length_cons, List.length_nil] <;> omega)) only [push_cast, ↓reduceIte, Nat.reduceLT, Nat.reduceEqDiff, reduceCtorEq, Nat.reduceAdd, hn, hdf, ha, cellV, hbox, faL foC0, ldN fl9, hl, strBin, sameName]

theorem checkC1 {h : AH} {x : Cell} {dv : Value} {B : Nat} {o : AObj} {s : ByteArray} {rest : List Value} (hdv : SlOf h dv (x.delay.map (.int .i64))) (hB : h.get B = some o) (hc : o.cells? = some (.string s :: rest)) :
    ACall Try.prog 57 [cellV x dv, .pointer (some ⟨B, 0, none⟩)] h (fun r h' => r = .bool (sameName s x) ∧ h' = h) := by
  obtain ⟨o', h1, h2⟩ := viewCells hB hc
  exact ACall.viewed rfl (checkC1R hdv.view h1 h2)

def cellsGo (pre : List Cell) (i : Nat) : List Cell → Int × Int
  | [] => (0, 0)
  | c :: cs => if checkE c ≠ 0 then (i, checkE c) else if pre.any (sameName c.name) = true then (i, 10) else cellsGo (pre ++ [c]) (i + 1) cs
def cellsE (l : List Cell) : Int × Int := if l.length > 32 then (0, 5) else cellsGo [] 0 l

/-- The numbers of a cell are in range. -/
def CellOK (c : Cell) : Prop := 0 ≤ c.table ∧ c.table < 18446744073709551616 ∧ c.delay.length ≤ 4611686018427387904

theorem cellsR {h : AH} {v : Value} {l : List Cell} (hv : RowOf cellL h v l) (hok : ∀ c ∈ l, CellOK c) : ACall Try.prog 46 [v] h (fun r _ => r = .tuple #[.int .i64 (cellsE l).1, .int .i64 (cellsE l).2]) := by
  refine ACall.wf ⟨_, Try.func46, rfl, by kernel_rfl⟩ fun hwf => ?_
  refine ACall.of_wp 30 [.tmp 2, .tmp 3] Try.func46 rfl (by kernel_rfl) rfl rfl fun a hn hd ha => ?_
  simp (disch := first | omega | decide | (simp only [List.length_cons, List.length_nil] <;> omega)) only [push_cast, ↓reduceIte, Nat.reduceLT, Nat.reduceEqDiff, reduceCtorEq, Nat.reduceAdd, hn, hd, ha, hv.len Try.underlying30]
  refine condV_of (fun h0 => ?_) (fun h0 => ?_)
  · have : l.length > 32 := by simp at h0; omega
    simp (disch := first | omega | decide | (simp only [List.length_cons, List.length_nil] <;> omega)) only [push_cast, ↓reduceIte, Nat.reduceLT, Nat.reduceEqDiff, reduceCtorEq, Nat.reduceAdd, hn, hd, ha, cellsE, this]
  have hle : ¬ l.length > 32 := by simp at h0; omega
  simp (disch := first | omega | decide | (simp only [List.length_cons, List.length_nil] <;> omega)) only [push_cast, ↓reduceIte, Nat.reduceLT, Nat.reduceEqDiff, reduceCtorEq, Nat.reduceAdd, hn, hd, ha, hv.len Try.underlying30]
  have hE : cellsE l = cellsGo [] 0 l := by simp only [cellsE, if_neg hle]
  refine AW.loopN 13 [2, 3, 4, 5, 6, 12] (fun m a' h' => Gr h h' ∧ ∃ i : Nat, a'.tm 12 = .int .i64 i ∧ i + m = l.length ∧ cellsGo (l.take i) i (l.drop i) = cellsE l) l.length ?_ ?_
  · exact ⟨Gr.refl hwf, 0, by simp (disch := first | omega | decide | (simp only [List.length_cons, List.length_nil] <;> omega)) only [push_cast, ↓reduceIte, Nat.reduceLT, Nat.reduceEqDiff, reduceCtorEq, Nat.reduceAdd], by omega, by rw [hE]; rfl⟩
  · rintro a1 m a' h' hk kn kd kt ⟨hg, i, h12, him, hgo⟩
    simp (disch := first | omega | decide | (simp only [List.length_cons, List.length_nil] <;> omega)) only [push_cast, ↓reduceIte, Nat.reduceLT, Nat.reduceEqDiff, reduceCtorEq, Nat.reduceAdd, kn, kd, kt, hn, hd, ha, h12]
    refine condV_of (fun hlt => ?_) (fun hge => ?_)
    · have hi : i < l.length := by have := hlt; simp at this; omega
      have hv' := hv.sub hg.sub
      obtain ⟨cs, ⟨dv, rfl, hdv⟩, hld, -, -⟩ := hv'.get hi default
      replace hld := hld _ agC
      have hc := hok _ (getD_mem hi default)
      have hdrop : l.drop i = l.getD i default :: l.drop (i + 1) := by
        rw [List.drop_eq_getElem_cons hi]
        simp [List.getD_eq_getElem?_getD, hi]
      have htake : l.take (i + 1) = l.take i ++ [l.getD i default] := by
        rw [List.take_add_one]
        simp [List.getD_eq_getElem?_getD, hi]
      rw [hdrop] at hgo
      generalize l.getD i default = c at *
      have hone : [Value.string c.name, .int .i64 c.pins, .int .u64 c.table, .int .i64 c.area, dv].all oneC = true := by simp only [List.all_cons, List.all_nil, hdv.one]; rfl
      have hst := fun (hh : AH) cs e hl => stN agC hh cs e [Value.string c.name, .int .i64 c.pins, .int .u64 c.table, .int .i64 c.area, dv] hl rfl hone
      have hB : (h'.new (.row [.string c.name, .int .i64 c.pins, .int .u64 c.table, .int .i64 c.area, dv] 47 true)).get h'.next = some (.row [.string c.name, .int .i64 c.pins, .int .u64 c.table, .int .i64 c.area, dv] 47 true) := by simp [AH.new_get]
      have hg2 := hg.new (.row [.string c.name, .int .i64 c.pins, .int .u64 c.table, .int .i64 c.area, dv] 47 true)
      have hs2 := Sub.new hg.wf (.row [.string c.name, .int .i64 c.pins, .int .u64 c.table, .int .i64 c.area, dv] 47 true)
      simp (disch := first | omega | decide | (simp only [List.length_cons, List.length_nil] <;> omega)) only [push_cast, ↓reduceIte, Nat.reduceLT, Nat.reduceEqDiff, reduceCtorEq, Nat.reduceAdd, kn, kd, kt, hn, hd, ha, h12, hv'.idx Try.underlying30 infC, hld, alL zrC, hst, ldNA agC]
      generalize h'.new (.row [.string c.name, .int .i64 c.pins, .int .u64 c.table, .int .i64 c.area, dv] 47 true) = h2 at hB hg2 hs2 ⊢
      refine ACall.mono ?_ (check (hdv.sub hs2) hc.1 hc.2.1 hc.2.2)
      rintro _ h2 ⟨rfl, rfl⟩
      simp (disch := first | omega | decide | (simp only [List.length_cons, List.length_nil] <;> omega)) only [push_cast, ↓reduceIte, Nat.reduceLT, Nat.reduceEqDiff, reduceCtorEq, Nat.reduceAdd, kn, kd, kt, hn, hd, ha, h12]
      refine condV_not (fun h1 => ?_) (fun h1 => ?_)
      · have e : ¬ checkE c = 0 := by simpa using h1
        simp (disch := first | omega | decide | (simp only [List.length_cons, List.length_nil] <;> omega)) only [push_cast, ↓reduceIte, Nat.reduceLT, Nat.reduceEqDiff, reduceCtorEq, Nat.reduceAdd, kn, kd, kt, hn, hd, ha, h12, ← hgo, cellsGo, ne_eq, e]
      have e1 : checkE c = 0 := by simpa using h1
      obtain ⟨v', hsl, hpre⟩ := hv.pre (k := .i64) Try.underlying30 infC (Nat.le_of_lt hi)
      simp (disch := first | omega | decide | (simp only [List.length_cons, List.length_nil] <;> omega)) only [push_cast, ↓reduceIte, Nat.reduceLT, Nat.reduceEqDiff, reduceCtorEq, Nat.reduceAdd, kn, kd, kt, hn, hd, ha, h12, oev, hsl]
      refine ACall.mono ?_ (containsC (h := h2) (f := .func (.func 57) #[] #[.pointer (some ⟨h'.next, 0, none⟩)]) (p := sameName c.name) (hpre.sub hg2.sub) (fun x _ dv' hdv' => checkC1 hdv' hB rfl) (by rw [List.length_take]; omega))
      rintro _ _ ⟨rfl, rfl⟩
      simp (disch := first | omega | decide | (simp only [List.length_cons, List.length_nil] <;> omega)) only [push_cast, ↓reduceIte, Nat.reduceLT, Nat.reduceEqDiff, reduceCtorEq, Nat.reduceAdd, kn, kd, kt, hn, hd, ha, h12]
      refine condV_of (fun h2 => ?_) (fun h2 => ?_)
      · simp (disch := first | omega | decide | (simp only [List.length_cons, List.length_nil] <;> omega)) only [push_cast, ↓reduceIte, Nat.reduceLT, Nat.reduceEqDiff, reduceCtorEq, Nat.reduceAdd, kn, kd, kt, hn, hd, ha, h12, ← hgo, cellsGo, ne_eq, e1, h2, not_true_eq_false]
      · simp (disch := first | omega | decide | (simp only [List.length_cons, List.length_nil] <;> omega)) only [push_cast, ↓reduceIte, Nat.reduceLT, Nat.reduceEqDiff, reduceCtorEq, Nat.reduceAdd, kn, kd, kt, hn, hd, ha, h12, wrapI]
        refine ⟨m - 1, by omega, (by simp (disch := decide) only [Kp_put, put_none, hk]), hg2, i + 1, by simp (disch := first | omega | decide | (simp only [List.length_cons, List.length_nil] <;> omega)) only [push_cast, ↓reduceIte, Nat.reduceLT, Nat.reduceEqDiff, reduceCtorEq, Nat.reduceAdd], by omega, ?_⟩
        rw [htake, ← hgo]
        simp only [cellsGo, ne_eq, e1, h2, not_true_eq_false, if_false, Bool.false_eq_true]
    · have hi : l.length ≤ i := by have := hge; simp at this; omega
      rw [List.drop_of_length_le hi] at hgo
      simp (disch := first | omega | decide | (simp only [List.length_cons, List.length_nil] <;> omega)) only [push_cast, ↓reduceIte, Nat.reduceLT, Nat.reduceEqDiff, reduceCtorEq, Nat.reduceAdd, kn, kd, kt, hn, hd, ha, ← hgo, cellsGo]

theorem cells {h : AH} {v : Value} {l : List Cell} (hv : RowOf cellL h v l) (hok : ∀ c ∈ l, CellOK c) : ACall Try.prog 46 [v] h (fun r h' => r = .tuple #[.int .i64 (cellsE l).1, .int .i64 (cellsE l).2] ∧ h' = h) :=
  ACall.viewed rfl (cellsR hv.view hok)

end Go.Ab.S1
