/- CrcOf: the law's own code. No condition. -/
import Derived.Test.YtnggkhdmieafoaaWordsC
import Derived.Test.YtnggkhdmieafoaaProg
set_option linter.unusedVariables false
set_option linter.unusedSimpArgs false
namespace Go.WL.T1
def tab_3_8 : List (List Nat) := [[], [], [], [1, 2], [2, 1, 3], [], [], [5, 6], [6, 5, 7], [3, 1, 2, 4, 7, 5, 6, 8], [8, 6, 5, 7, 4, 2, 1, 3, 9], [0, 9, 3, 1, 2, 4, 7, 5, 6, 8, 10], [10, 8, 6, 5, 7, 4, 2, 1, 3, 9, 0, 11]]
def tab_3_10 : List (List Nat) := [[], [0], [0, 1], [], [1, 0, 2, 3], [3, 4, 1, 0, 2], [2, 0, 1, 4, 3, 5], [2, 0, 1, 4, 3, 5], [6, 7, 2, 0, 1, 4, 3, 5], [2, 0, 1, 4, 3, 5], [2, 0, 1, 4, 3, 5], [9, 10, 2, 0, 1, 4, 3, 5], [7, 6, 8, 10, 9, 11, 2, 0, 1, 4, 3, 5], [11, 9, 10, 8, 6, 7, 12, 2, 0, 1, 4, 3, 5], [2, 0, 1, 4, 3, 5], [12, 7, 6, 8, 10, 9, 11, 13, 14, 2, 0, 1, 4, 3, 5], [5, 3, 4, 1, 0, 2, 14, 13, 11, 9, 10, 8, 6, 7, 12, 15], [15, 14, 16, 5, 3, 4, 1, 0, 2, 12, 7, 6, 8, 10, 9, 11, 13], [13, 11, 9, 10, 8, 6, 7, 12, 2, 0, 1, 4, 3, 5, 16, 14, 15, 17], [18, 13, 11, 9, 10, 8, 6, 7, 12, 2, 0, 1, 4, 3, 5, 16, 14, 15, 17], [18, 19, 13, 11, 9, 10, 8, 6, 7, 12, 2, 0, 1, 4, 3, 5, 16, 14, 15, 17], [13, 11, 9, 10, 8, 6, 7, 12, 2, 0, 1, 4, 3, 5, 16, 14, 15, 17], [13, 11, 9, 10, 8, 6, 7, 12, 2, 0, 1, 4, 3, 5, 16, 14, 15, 17], [13, 11, 9, 10, 8, 6, 7, 12, 2, 0, 1, 4, 3, 5, 16, 14, 15, 17], [23, 13, 11, 9, 10, 8, 6, 7, 12, 2, 0, 1, 4, 3, 5, 16, 14, 15, 17], [22, 23, 24, 13, 11, 9, 10, 8, 6, 7, 12, 2, 0, 1, 4, 3, 5, 16, 14, 15, 17], [24, 23, 22, 25, 13, 11, 9, 10, 8, 6, 7, 12, 2, 0, 1, 4, 3, 5, 16, 14, 15, 17], [25, 22, 23, 24, 26, 19, 18, 20, 13, 11, 9, 10, 8, 6, 7, 12, 2, 0, 1, 4, 3, 5, 16, 14, 15, 17], [21, 20, 18, 19, 26, 24, 23, 22, 25, 27, 13, 11, 9, 10, 8, 6, 7, 12, 2, 0, 1, 4, 3, 5, 16, 14, 15, 17], [27, 25, 22, 23, 24, 26, 19, 18, 20, 21, 28, 13, 11, 9, 10, 8, 6, 7, 12, 2, 0, 1, 4, 3, 5, 16, 14, 15, 17], [17, 15, 14, 16, 5, 3, 4, 1, 0, 2, 12, 7, 6, 8, 10, 9, 11, 13, 28, 21, 20, 18, 19, 26, 24, 23, 22, 25, 27, 29], [29, 21, 28, 30, 17, 15, 14, 16, 5, 3, 4, 1, 0, 2, 12, 7, 6, 8, 10, 9, 11, 13, 20, 18, 19, 26, 24, 23, 22, 25, 27], [27, 25, 22, 23, 24, 26, 19, 18, 20, 13, 11, 9, 10, 8, 6, 7, 12, 2, 0, 1, 4, 3, 5, 16, 14, 15, 17, 30, 28, 21, 29, 31], [31, 29, 21, 28, 30, 17, 15, 14, 16, 5, 3, 4, 1, 0, 2, 12, 7, 6, 8, 10, 9, 11, 13, 20, 18, 19, 26, 24, 23, 22, 25, 27, 32], [32, 27, 25, 22, 23, 24, 26, 19, 18, 20, 13, 11, 9, 10, 8, 6, 7, 12, 2, 0, 1, 4, 3, 5, 16, 14, 15, 17, 30, 28, 21, 29, 31, 33]]
def tab_4_1 : List (List Nat) := [[], [], [0, 1], [], [], [3, 4, 1, 0, 2], [2, 0, 1, 4, 3, 5], [6, 2, 0, 1, 4, 3, 5], [5, 3, 4, 1, 0, 2, 6, 7], [5, 3, 4, 1, 0, 2, 6, 7], [5, 3, 4, 1, 0, 2, 6, 7], [10, 5, 3, 4, 1, 0, 2, 6, 7], [8, 9, 10, 11, 5, 3, 4, 1, 0, 2, 6, 7], [5, 3, 4, 1, 0, 2, 6, 7], [5, 3, 4, 1, 0, 2, 6, 7], [5, 3, 4, 1, 0, 2, 6, 7], [15, 5, 3, 4, 1, 0, 2, 6, 7], [13, 14, 15, 16, 11, 10, 9, 8, 12, 5, 3, 4, 1, 0, 2, 6, 7], [12, 8, 9, 10, 11, 16, 15, 14, 13, 17, 5, 3, 4, 1, 0, 2, 6, 7], [7, 6, 2, 0, 1, 4, 3, 5, 17, 13, 14, 15, 16, 11, 10, 9, 8, 12, 18]]
def tab_4_7 : List (List Nat) := [[], [], [1], [], [], [4], [0, 1, 2, 3, 4, 5], [], [], [8], [], [], [11], [7, 8, 9, 10, 11, 12, 5, 4, 3, 2, 1, 0, 6], [6, 0, 1, 2, 3, 4, 5, 12, 11, 10, 9, 8, 7, 13], [14, 6, 0, 1, 2, 3, 4, 5, 12, 11, 10, 9, 8, 7, 13], [13, 7, 8, 9, 10, 11, 12, 5, 4, 3, 2, 1, 0, 6, 14, 15], [15, 14, 6, 0, 1, 2, 3, 4, 5, 12, 11, 10, 9, 8, 7, 13, 16], [16, 13, 7, 8, 9, 10, 11, 12, 5, 4, 3, 2, 1, 0, 6, 14, 15, 17]]
def tab_6_3 : List (List Nat) := [[], [], [1], [0, 1, 2], [], [4], [4, 5, 2, 1, 0, 3], [], [7], [7, 8, 3, 0, 1, 2, 5, 4, 6], [6, 4, 5, 2, 1, 0, 3, 8, 7, 9]]
def tab_6_4 : List (List Nat) := [[], [], [], [1, 2], [], [4, 2, 1, 3], [3, 1, 2, 4, 5], [0, 5, 4, 2, 1, 3, 6], [6, 3, 1, 2, 4, 5, 0, 7], [7, 0, 5, 4, 2, 1, 3, 6, 8], [8, 6, 3, 1, 2, 4, 5, 0, 7, 9], [9, 7, 0, 5, 4, 2, 1, 3, 6, 8, 10]]
def tab_9_9 : List (List Nat) := [[], [], [], [1, 2], [2, 1, 3], [3, 1, 2, 4], [0, 4, 2, 1, 3, 5], [], [], [7, 8], [8, 7, 9], [9, 7, 8, 10], [10, 8, 7, 9, 11, 5, 3, 1, 2, 4, 0, 6], [], [], [13, 14], [14, 13, 15], [15, 13, 14, 16], [16, 14, 13, 15, 17, 6, 0, 4, 2, 1, 3, 5, 11, 9, 7, 8, 10, 12], [12, 10, 8, 7, 9, 11, 5, 3, 1, 2, 4, 0, 6, 17, 15, 13, 14, 16, 18]]
def tab_9_14 : List (List Nat) := [[], [0], [], [], [2, 3], [3, 2, 4], [4, 2, 3, 5], [0, 1, 5, 3, 2, 4, 6], [6, 4, 2, 3, 5, 7, 0, 1], [1, 0, 7, 5, 3, 2, 4, 6, 8], [9, 1, 0, 7, 5, 3, 2, 4, 6, 8], [1, 0, 7, 5, 3, 2, 4, 6, 8], [1, 0, 7, 5, 3, 2, 4, 6, 8], [11, 12, 1, 0, 7, 5, 3, 2, 4, 6, 8], [12, 11, 13, 1, 0, 7, 5, 3, 2, 4, 6, 8], [13, 11, 12, 14, 1, 0, 7, 5, 3, 2, 4, 6, 8], [14, 12, 11, 13, 15, 9, 10, 1, 0, 7, 5, 3, 2, 4, 6, 8], [10, 9, 15, 13, 11, 12, 14, 16, 1, 0, 7, 5, 3, 2, 4, 6, 8], [8, 6, 4, 2, 3, 5, 7, 0, 1, 16, 14, 12, 11, 13, 15, 9, 10, 17], [17, 18, 8, 6, 4, 2, 3, 5, 7, 0, 1, 10, 9, 15, 13, 11, 12, 14, 16], [16, 14, 12, 11, 13, 15, 9, 10, 1, 0, 7, 5, 3, 2, 4, 6, 8, 18, 17, 19], [20, 16, 14, 12, 11, 13, 15, 9, 10, 1, 0, 7, 5, 3, 2, 4, 6, 8, 18, 17, 19], [16, 14, 12, 11, 13, 15, 9, 10, 1, 0, 7, 5, 3, 2, 4, 6, 8, 18, 17, 19], [16, 14, 12, 11, 13, 15, 9, 10, 1, 0, 7, 5, 3, 2, 4, 6, 8, 18, 17, 19], [22, 23, 16, 14, 12, 11, 13, 15, 9, 10, 1, 0, 7, 5, 3, 2, 4, 6, 8, 18, 17, 19], [23, 22, 24, 16, 14, 12, 11, 13, 15, 9, 10, 1, 0, 7, 5, 3, 2, 4, 6, 8, 18, 17, 19], [24, 22, 23, 25, 16, 14, 12, 11, 13, 15, 9, 10, 1, 0, 7, 5, 3, 2, 4, 6, 8, 18, 17, 19], [20, 21, 25, 23, 22, 24, 26, 16, 14, 12, 11, 13, 15, 9, 10, 1, 0, 7, 5, 3, 2, 4, 6, 8, 18, 17, 19], [19, 17, 18, 8, 6, 4, 2, 3, 5, 7, 0, 1, 10, 9, 15, 13, 11, 12, 14, 16, 26, 24, 22, 23, 25, 21, 20, 27]]
def tab_10_27 : List (List Nat) := [[], [0], [], [0, 1, 2], [2, 1, 0, 3]]
def tab_10_28 : List (List Nat) := [[], [0], [0, 1], [1, 0, 2], [3, 1, 0, 2], [1, 0, 2], [5, 1, 0, 2], [1, 0, 2], [7, 1, 0, 2], [5, 6, 7, 8, 1, 0, 2], [3, 4, 8, 7, 6, 5, 9, 1, 0, 2], [2, 0, 1, 9, 5, 6, 7, 8, 4, 3, 10], [10, 8, 7, 6, 5, 9, 11, 2, 0, 1, 3, 4], [4, 3, 1, 0, 2, 11, 9, 5, 6, 7, 8, 10, 12], [13, 4, 3, 1, 0, 2, 11, 9, 5, 6, 7, 8, 10, 12], [4, 3, 1, 0, 2, 11, 9, 5, 6, 7, 8, 10, 12], [15, 4, 3, 1, 0, 2, 11, 9, 5, 6, 7, 8, 10, 12], [13, 14, 15, 16, 4, 3, 1, 0, 2, 11, 9, 5, 6, 7, 8, 10, 12], [12, 10, 8, 7, 6, 5, 9, 11, 2, 0, 1, 3, 4, 16, 15, 14, 13, 17], [17, 15, 16, 18, 12, 10, 8, 7, 6, 5, 9, 11, 2, 0, 1, 3, 4, 13, 14], [14, 13, 4, 3, 1, 0, 2, 11, 9, 5, 6, 7, 8, 10, 12, 18, 16, 15, 17, 19], [20, 14, 13, 4, 3, 1, 0, 2, 11, 9, 5, 6, 7, 8, 10, 12, 18, 16, 15, 17, 19], [14, 13, 4, 3, 1, 0, 2, 11, 9, 5, 6, 7, 8, 10, 12, 18, 16, 15, 17, 19], [22, 14, 13, 4, 3, 1, 0, 2, 11, 9, 5, 6, 7, 8, 10, 12, 18, 16, 15, 17, 19], [22, 23, 14, 13, 4, 3, 1, 0, 2, 11, 9, 5, 6, 7, 8, 10, 12, 18, 16, 15, 17, 19], [23, 22, 24, 20, 21, 14, 13, 4, 3, 1, 0, 2, 11, 9, 5, 6, 7, 8, 10, 12, 18, 16, 15, 17, 19], [19, 17, 15, 16, 18, 12, 10, 8, 7, 6, 5, 9, 11, 2, 0, 1, 3, 4, 13, 14, 21, 20, 24, 22, 23, 25], [26, 19, 17, 15, 16, 18, 12, 10, 8, 7, 6, 5, 9, 11, 2, 0, 1, 3, 4, 13, 14, 21, 20, 24, 22, 23, 25], [19, 17, 15, 16, 18, 12, 10, 8, 7, 6, 5, 9, 11, 2, 0, 1, 3, 4, 13, 14, 21, 20, 24, 22, 23, 25], [28, 19, 17, 15, 16, 18, 12, 10, 8, 7, 6, 5, 9, 11, 2, 0, 1, 3, 4, 13, 14, 21, 20, 24, 22, 23, 25], [26, 27, 28, 29, 19, 17, 15, 16, 18, 12, 10, 8, 7, 6, 5, 9, 11, 2, 0, 1, 3, 4, 13, 14, 21, 20, 24, 22, 23, 25], [25, 23, 22, 24, 20, 21, 29, 28, 27, 26, 30, 14, 13, 4, 3, 1, 0, 2, 11, 9, 5, 6, 7, 8, 10, 12, 18, 16, 15, 17, 19], [30, 26, 27, 28, 29, 21, 20, 24, 22, 23, 25, 31, 14, 13, 4, 3, 1, 0, 2, 11, 9, 5, 6, 7, 8, 10, 12, 18, 16, 15, 17, 19], [19, 17, 15, 16, 18, 12, 10, 8, 7, 6, 5, 9, 11, 2, 0, 1, 3, 4, 13, 14, 31, 25, 23, 22, 24, 20, 21, 29, 28, 27, 26, 30, 32]]
def tab_11_23 : List (List Nat) := [[], [], [0, 1], [1, 0, 2], [], [], [4, 5], [5, 4, 6], [2, 0, 1, 3, 6, 4, 5, 7], [7, 5, 4, 6, 3, 1, 0, 2, 8], [9, 7, 5, 4, 6, 3, 1, 0, 2, 8], [8, 2, 0, 1, 3, 6, 4, 5, 7, 9, 10], [8, 2, 0, 1, 3, 6, 4, 5, 7, 9, 10], [11, 12, 8, 2, 0, 1, 3, 6, 4, 5, 7, 9, 10], [12, 11, 13, 8, 2, 0, 1, 3, 6, 4, 5, 7, 9, 10], [13, 11, 12, 14, 8, 2, 0, 1, 3, 6, 4, 5, 7, 9, 10], [14, 12, 11, 13, 15, 8, 2, 0, 1, 3, 6, 4, 5, 7, 9, 10], [10, 9, 7, 5, 4, 6, 3, 1, 0, 2, 8, 15, 13, 11, 12, 14, 16]]
def tab_11_33 : List (List Nat) := [[], [], [], [], [2, 3], [3, 2, 4], [4, 2, 3, 5], [1, 5, 3, 2, 4, 6], [6, 4, 2, 3, 5, 1, 7], [0, 7, 1, 5, 3, 2, 4, 6, 8], [8, 6, 4, 2, 3, 5, 1, 7, 0, 9]]
def tab_11_34 : List (List Nat) := [[], [], [], [], [2, 3], [3, 2, 4], [4, 2, 3, 5], [0, 1, 5, 3, 2, 4, 6], [], [6, 4, 2, 3, 5, 1, 0, 7, 8]]
def tab_11_40 : List (List Nat) := [[], [], [], [1, 2], [0, 2, 1, 3], [], [], [6], [5, 6, 7], [7, 6, 5, 8, 3, 1, 2, 0, 4], [4, 0, 2, 1, 3, 8, 5, 6, 7, 9]]
def tab_11_47 : List (List Nat) := [[], [], [0, 1], [1, 0, 2], [], [], [4, 5], [5, 4, 6], [6, 4, 5, 7], [2, 0, 1, 3, 7, 5, 4, 6, 8]]
def tab_27_1 : List (List Nat) := [[], [0], [], [2, 0, 1], [1, 0, 2, 3]]
def tab_30_6 : List (List Nat) := [[], [], [0, 1], [1, 0, 2], [], [], [4, 5], [5, 4, 6], [2, 0, 1, 3, 6, 4, 5, 7]]
def tab_31_1 : List (List Nat) := [[], [0], [0, 1], [], [3], [3, 4, 1, 0, 2], [2, 0, 1, 4, 3, 5], [5, 3, 4, 1, 0, 2, 6]]
def tab_33_10 : List (List Nat) := [[], [0], [], [0, 1, 2], [2, 1, 0, 3], [], [5], [5, 6, 3, 0, 1, 2, 4], [4, 2, 1, 0, 3, 6, 5, 7]]
def tab_34_3 : List (List Nat) := [[], [0], [0, 1], [1, 0, 2], [2, 0, 1, 3], [], [5], [5, 6], [6, 5, 7], [7, 5, 6, 8], [3, 1, 0, 2, 4, 8, 6, 5, 7, 9], [], [11], [11, 12], [12, 11, 13], [13, 11, 12, 14], [9, 7, 5, 6, 8, 4, 2, 0, 1, 3, 10, 14, 12, 11, 13, 15], [], [17], [17, 18], [18, 17, 19], [15, 13, 11, 12, 14, 10, 3, 1, 0, 2, 4, 8, 6, 5, 7, 9, 16, 19, 17, 18, 20], [20, 18, 17, 19, 16, 9, 7, 5, 6, 8, 4, 2, 0, 1, 3, 10, 14, 12, 11, 13, 15, 21]]
def tab_34_9 : List (List Nat) := [[], [0], [], [], [3], [2, 3, 4], [4, 3, 2, 5, 0, 1], [1, 0, 5, 2, 3, 4, 6]]
def tab_39_7 : List (List Nat) := [[], [], [1], [1, 2], [2, 1, 3], [0, 3, 1, 2, 4]]
def tab_41_11 : List (List Nat) := [[], [0], [], [2], [], [4], [], [6], [], [6, 7, 8], [8, 7, 6, 9], [2, 3, 4, 5, 9, 6, 7, 8, 10], [10, 8, 7, 6, 9, 5, 4, 3, 2, 11, 0, 1], [1, 0, 11, 2, 3, 4, 5, 9, 6, 7, 8, 10, 12]]
def tab_43_4 : List (List Nat) := [[], [], [0], [1, 0, 2]]
def tab_43_10 : List (List Nat) := [[], [], [0], [1, 0, 2]]
def tab_50_4 : List (List Nat) := [[], [], [0, 1], [1, 0, 2], [2, 0, 1, 3], [], [3, 1, 0, 2, 4, 5]]
def tab_51_11 : List (List Nat) := [[], [], [1], [1, 2], [2, 1, 3], [], [], [5, 6], [6, 5, 7], [3, 1, 2, 4, 7, 5, 6, 8], [0, 8, 6, 5, 7, 4, 2, 1, 3, 9], [10, 0, 8, 6, 5, 7, 4, 2, 1, 3, 9], [10, 11, 0, 8, 6, 5, 7, 4, 2, 1, 3, 9]]
def tab_53_8 : List (List Nat) := [[], [], [], [], [], [4], [], [6], [2, 3, 4, 5, 6, 7], [], [9], [1, 7, 6, 5, 4, 3, 2, 8, 9, 10], [10, 9, 8, 2, 3, 4, 5, 6, 7, 1, 11], [0, 11, 1, 9, 10, 12, 7, 6, 5, 4, 3, 2, 8], [8, 2, 3, 4, 5, 6, 7, 12, 10, 9, 1, 11, 0, 13]]
def tab_54_9 : List (List Nat) := [[], [], [1], [1, 2], [2, 1, 3], [], [5], [5, 6], [6, 5, 7], [], [9], [9, 10], [10, 9, 11], [3, 1, 2, 4, 7, 5, 6, 8, 11, 9, 10, 12], [12, 10, 9, 11, 8, 6, 5, 7, 4, 2, 1, 3, 13], [0, 13, 3, 1, 2, 4, 7, 5, 6, 8, 11, 9, 10, 12, 14], [14, 12, 10, 9, 11, 8, 6, 5, 7, 4, 2, 1, 3, 13, 0, 15]]
def tab_63_1 : List (List Nat) := [[], [0], [0, 1], [], [3], [3, 4], [4, 3, 5, 1, 0, 2], [2, 0, 1, 5, 3, 4, 6], [6, 4, 3, 5, 1, 0, 2, 7]]
def tab_71_1 : List (List Nat) := [[], [0], [0, 1], [1, 0, 2], [2, 0, 1, 3], [], [5], [5, 6], [6, 5, 7], [7, 5, 6, 8], [3, 1, 0, 2, 4, 8, 6, 5, 7, 9], [], [11], [11, 12], [12, 11, 13], [13, 11, 12, 14], [9, 7, 5, 6, 8, 4, 2, 0, 1, 3, 10, 14, 12, 11, 13, 15], [], [17], [17, 18], [18, 17, 19], [15, 13, 11, 12, 14, 10, 3, 1, 0, 2, 4, 8, 6, 5, 7, 9, 16, 19, 17, 18, 20], [20, 18, 17, 19, 16, 9, 7, 5, 6, 8, 4, 2, 0, 1, 3, 10, 14, 12, 11, 13, 15, 21]]
def tab_76_5 : List (List Nat) := [[], [], [0, 1], [], [], [3, 4], [1, 0, 2, 4, 3, 5], [5, 3, 4, 2, 0, 1, 6]]
def tab_79_6 : List (List Nat) := [[], [0], [], [0, 1, 2], [2, 1, 0, 3], [], [5], [], [5, 6, 7], [7, 6, 5, 8], [3, 0, 1, 2, 4, 8, 5, 6, 7, 9]]
def tab_80_6 : List (List Nat) := [[], [0], [], [0, 1, 2], [2, 1, 0, 3], [], [5], [], [5, 6, 7], [7, 6, 5, 8], [3, 0, 1, 2, 4, 8, 5, 6, 7, 9]]
def tab_81_6 : List (List Nat) := [[], [0], [], [0, 1, 2], [2, 1, 0, 3], [], [5], [], [5, 6, 7], [7, 6, 5, 8], [3, 0, 1, 2, 4, 8, 5, 6, 7, 9]]
def tab_84_4 : List (List Nat) := [[], [0], [], [0, 1, 2], [2, 1, 0, 3], [3, 0, 1, 2, 4], [4, 2, 1, 0, 3, 5], [5, 3, 0, 1, 2, 4, 6], [7, 5, 3, 0, 1, 2, 4, 6], [5, 3, 0, 1, 2, 4, 6], [7, 8, 9, 5, 3, 0, 1, 2, 4, 6], [9, 8, 7, 10, 5, 3, 0, 1, 2, 4, 6], [10, 7, 8, 9, 11, 5, 3, 0, 1, 2, 4, 6], [6, 4, 2, 1, 0, 3, 5, 11, 9, 8, 7, 10, 12], [12, 10, 7, 8, 9, 11, 13, 5, 3, 0, 1, 2, 4, 6], [6, 4, 2, 1, 0, 3, 5, 13, 11, 9, 8, 7, 10, 12, 14], [15, 6, 4, 2, 1, 0, 3, 5, 13, 11, 9, 8, 7, 10, 12, 14], [15, 16, 6, 4, 2, 1, 0, 3, 5, 13, 11, 9, 8, 7, 10, 12, 14], [14, 12, 10, 7, 8, 9, 11, 13, 5, 3, 0, 1, 2, 4, 6, 16, 15, 17], [18, 14, 12, 10, 7, 8, 9, 11, 13, 5, 3, 0, 1, 2, 4, 6, 16, 15, 17], [14, 12, 10, 7, 8, 9, 11, 13, 5, 3, 0, 1, 2, 4, 6, 16, 15, 17], [20, 14, 12, 10, 7, 8, 9, 11, 13, 5, 3, 0, 1, 2, 4, 6, 16, 15, 17], [18, 19, 20, 21, 14, 12, 10, 7, 8, 9, 11, 13, 5, 3, 0, 1, 2, 4, 6, 16, 15, 17], [21, 20, 19, 18, 22, 14, 12, 10, 7, 8, 9, 11, 13, 5, 3, 0, 1, 2, 4, 6, 16, 15, 17], [14, 12, 10, 7, 8, 9, 11, 13, 5, 3, 0, 1, 2, 4, 6, 16, 15, 17], [24, 14, 12, 10, 7, 8, 9, 11, 13, 5, 3, 0, 1, 2, 4, 6, 16, 15, 17], [14, 12, 10, 7, 8, 9, 11, 13, 5, 3, 0, 1, 2, 4, 6, 16, 15, 17], [24, 25, 26, 14, 12, 10, 7, 8, 9, 11, 13, 5, 3, 0, 1, 2, 4, 6, 16, 15, 17], [26, 25, 24, 27, 14, 12, 10, 7, 8, 9, 11, 13, 5, 3, 0, 1, 2, 4, 6, 16, 15, 17], [22, 18, 19, 20, 21, 23, 27, 24, 25, 26, 28, 14, 12, 10, 7, 8, 9, 11, 13, 5, 3, 0, 1, 2, 4, 6, 16, 15, 17], [17, 15, 16, 28, 26, 25, 24, 27, 23, 21, 20, 19, 18, 22, 29, 6, 4, 2, 1, 0, 3, 5, 13, 11, 9, 8, 7, 10, 12, 14], [14, 12, 10, 7, 8, 9, 11, 13, 5, 3, 0, 1, 2, 4, 6, 29, 22, 18, 19, 20, 21, 23, 27, 24, 25, 26, 28, 16, 15, 17, 30]]
end Go.WL.T1
namespace Go.WL.T1
open Go.WL Go.Proofs
def tab : List (Nat × TI) := [
  (2, { k := .int .i64, sh := .lf, bytes := 8, zero := .sc (.int .i64 0) }),
  (3, { k := .int .i64, sh := .lf, bytes := 8, zero := .sc (.int .i64 0) }),
  (4, { k := .bool, sh := .lf, bytes := 1, zero := .sc (.bool false) }),
  (5, { k := .int .u8, sh := .lf, bytes := 1, zero := .sc (.int .u8 0) }),
  (9, { k := .str, sh := .lf, bytes := 16, zero := .sc (.string .empty) }),
  (12, { k := .int .u64, sh := .lf, bytes := 8, zero := .sc (.int .u64 0) }),
  (21, { k := .int .i32, sh := .lf, bytes := 4, zero := .sc (.int .i32 0) }),
  (22, { k := .slice 5, sh := .lf, bytes := 24, zero := .sl (.lf) [] .ex }),
  (23, { k := .int .u16, sh := .lf, bytes := 2, zero := .sc (.int .u16 0) }),
  (25, { k := .int .u32, sh := .lf, bytes := 4, zero := .sc (.int .u32 0) }),
  (29, { k := .strct [(3, 0), (3, 1)], sh := .nd [.lf, .lf], bytes := 16, zero := .st [.sc (.int .i64 0), .sc (.int .i64 0)] }),
  (30, { k := .strct [(3, 0), (3, 1)], sh := .nd [.lf, .lf], bytes := 16, zero := .st [.sc (.int .i64 0), .sc (.int .i64 0)] }),
  (35, { k := .slice 3, sh := .lf, bytes := 24, zero := .sl (.lf) [] .ex }),
  (37, { k := .arr 22 4, sh := .ar 22 (.lf), bytes := 22, zero := .ar 22 (.lf) (List.replicate 22 (.sc (.bool false))) }),
  (39, { k := .int .u64, sh := .lf, bytes := 8, zero := .sc (.int .u64 0) }),
  (40, { k := .arr 32 5, sh := .ar 32 (.lf), bytes := 32, zero := .ar 32 (.lf) (List.replicate 32 (.sc (.int .u8 0))) }),
  (41, { k := .arr 32 5, sh := .ar 32 (.lf), bytes := 32, zero := .ar 32 (.lf) (List.replicate 32 (.sc (.int .u8 0))) }),
  (42, { k := .strct [(39, 0), (22, 1), (41, 2)], sh := .nd [.lf, .lf, .ar 32 (.lf)], bytes := 64, zero := .st [.sc (.int .u64 0), .sl (.lf) [] .ex, .ar 32 (.lf) (List.replicate 32 (.sc (.int .u8 0)))] }),
  (43, { k := .strct [(39, 0), (22, 1), (41, 2)], sh := .nd [.lf, .lf, .ar 32 (.lf)], bytes := 64, zero := .st [.sc (.int .u64 0), .sl (.lf) [] .ex, .ar 32 (.lf) (List.replicate 32 (.sc (.int .u8 0)))] }),
  (50, { k := .int .i64, sh := .lf, bytes := 8, zero := .sc (.int .i64 0) }),
  (58, { k := .int .u64, sh := .lf, bytes := 8, zero := .sc (.int .u64 0) }),
  (60, { k := .slice 43, sh := .lf, bytes := 24, zero := .sl (.nd [.lf, .lf, .ar 32 (.lf)]) [] .ex }),
  (61, { k := .ptr 135, sh := .lf, bytes := 8, zero := .sc (.pointer none) }),
  (67, { k := .strct [(22, 0), (3, 1), (4, 2)], sh := .nd [.lf, .lf, .lf], bytes := 40, zero := .st [.sl (.lf) [] .ex, .sc (.int .i64 0), .sc (.bool false)] }),
  (68, { k := .strct [(22, 0), (3, 1), (4, 2)], sh := .nd [.lf, .lf, .lf], bytes := 40, zero := .st [.sl (.lf) [] .ex, .sc (.int .i64 0), .sc (.bool false)] }),
  (79, { k := .slice 85, sh := .lf, bytes := 24, zero := .sl (.nd [.lf, .lf, .lf]) [] .ex }),
  (80, { k := .ptr 116, sh := .lf, bytes := 8, zero := .sc (.pointer none) }),
  (83, { k := .slice 88, sh := .lf, bytes := 24, zero := .sl (.nd [.ar 32 (.lf), .lf, .lf, .lf]) [] .ex }),
  (84, { k := .strct [(3, 0), (5, 1), (3, 2)], sh := .nd [.lf, .lf, .lf], bytes := 24, zero := .st [.sc (.int .i64 0), .sc (.int .u8 0), .sc (.int .i64 0)] }),
  (85, { k := .strct [(3, 0), (5, 1), (3, 2)], sh := .nd [.lf, .lf, .lf], bytes := 24, zero := .st [.sc (.int .i64 0), .sc (.int .u8 0), .sc (.int .i64 0)] }),
  (87, { k := .strct [(41, 0), (3, 32), (3, 33), (3, 34)], sh := .nd [.ar 32 (.lf), .lf, .lf, .lf], bytes := 56, zero := .st [.ar 32 (.lf) (List.replicate 32 (.sc (.int .u8 0))), .sc (.int .i64 0), .sc (.int .i64 0), .sc (.int .i64 0)] }),
  (88, { k := .strct [(41, 0), (3, 32), (3, 33), (3, 34)], sh := .nd [.ar 32 (.lf), .lf, .lf, .lf], bytes := 56, zero := .st [.ar 32 (.lf) (List.replicate 32 (.sc (.int .u8 0))), .sc (.int .i64 0), .sc (.int .i64 0), .sc (.int .i64 0)] }),
  (91, { k := .slice 109, sh := .lf, bytes := 24, zero := .sl (.nd [.lf, .lf, .lf, .nd [.lf, .lf, .lf, .lf, .ar 32 (.lf), .lf, .ar 32 (.lf), .ar 32 (.lf)], .nd [.nd [.lf, .lf, .lf, .lf, .ar 32 (.lf), .lf, .ar 32 (.lf), .ar 32 (.lf)], .lf], .nd [.lf, .lf, .lf, .ar 32 (.lf), .lf, .ar 32 (.lf)], .nd [.ar 32 (.lf), .lf, .lf, .lf, .lf], .ar 32 (.lf), .nd [.lf, .lf, .lf, .lf, .lf, .lf, .lf]]) [] .ex }),
  (96, { k := .strct [(3, 0), (3, 1), (3, 2), (3, 3), (41, 4), (3, 36), (41, 37), (41, 69)], sh := .nd [.lf, .lf, .lf, .lf, .ar 32 (.lf), .lf, .ar 32 (.lf), .ar 32 (.lf)], bytes := 136, zero := .st [.sc (.int .i64 0), .sc (.int .i64 0), .sc (.int .i64 0), .sc (.int .i64 0), .ar 32 (.lf) (List.replicate 32 (.sc (.int .u8 0))), .sc (.int .i64 0), .ar 32 (.lf) (List.replicate 32 (.sc (.int .u8 0))), .ar 32 (.lf) (List.replicate 32 (.sc (.int .u8 0)))] }),
  (97, { k := .strct [(3, 0), (3, 1), (3, 2), (3, 3), (41, 4), (3, 36), (41, 37), (41, 69)], sh := .nd [.lf, .lf, .lf, .lf, .ar 32 (.lf), .lf, .ar 32 (.lf), .ar 32 (.lf)], bytes := 136, zero := .st [.sc (.int .i64 0), .sc (.int .i64 0), .sc (.int .i64 0), .sc (.int .i64 0), .ar 32 (.lf) (List.replicate 32 (.sc (.int .u8 0))), .sc (.int .i64 0), .ar 32 (.lf) (List.replicate 32 (.sc (.int .u8 0))), .ar 32 (.lf) (List.replicate 32 (.sc (.int .u8 0)))] }),
  (98, { k := .slice 156, sh := .lf, bytes := 24, zero := .sl (.nd [.lf, .ar 32 (.lf)]) [] .ex }),
  (99, { k := .strct [(97, 0), (98, 101)], sh := .nd [.nd [.lf, .lf, .lf, .lf, .ar 32 (.lf), .lf, .ar 32 (.lf), .ar 32 (.lf)], .lf], bytes := 160, zero := .st [.st [.sc (.int .i64 0), .sc (.int .i64 0), .sc (.int .i64 0), .sc (.int .i64 0), .ar 32 (.lf) (List.replicate 32 (.sc (.int .u8 0))), .sc (.int .i64 0), .ar 32 (.lf) (List.replicate 32 (.sc (.int .u8 0))), .ar 32 (.lf) (List.replicate 32 (.sc (.int .u8 0)))], .sl (.nd [.lf, .ar 32 (.lf)]) [] .ex] }),
  (100, { k := .strct [(97, 0), (98, 101)], sh := .nd [.nd [.lf, .lf, .lf, .lf, .ar 32 (.lf), .lf, .ar 32 (.lf), .ar 32 (.lf)], .lf], bytes := 160, zero := .st [.st [.sc (.int .i64 0), .sc (.int .i64 0), .sc (.int .i64 0), .sc (.int .i64 0), .ar 32 (.lf) (List.replicate 32 (.sc (.int .u8 0))), .sc (.int .i64 0), .ar 32 (.lf) (List.replicate 32 (.sc (.int .u8 0))), .ar 32 (.lf) (List.replicate 32 (.sc (.int .u8 0)))], .sl (.nd [.lf, .ar 32 (.lf)]) [] .ex] }),
  (101, { k := .strct [(3, 0), (3, 1), (3, 2), (41, 3), (35, 35), (41, 36)], sh := .nd [.lf, .lf, .lf, .ar 32 (.lf), .lf, .ar 32 (.lf)], bytes := 112, zero := .st [.sc (.int .i64 0), .sc (.int .i64 0), .sc (.int .i64 0), .ar 32 (.lf) (List.replicate 32 (.sc (.int .u8 0))), .sl (.lf) [] .ex, .ar 32 (.lf) (List.replicate 32 (.sc (.int .u8 0)))] }),
  (102, { k := .strct [(3, 0), (3, 1), (3, 2), (41, 3), (35, 35), (41, 36)], sh := .nd [.lf, .lf, .lf, .ar 32 (.lf), .lf, .ar 32 (.lf)], bytes := 112, zero := .st [.sc (.int .i64 0), .sc (.int .i64 0), .sc (.int .i64 0), .ar 32 (.lf) (List.replicate 32 (.sc (.int .u8 0))), .sl (.lf) [] .ex, .ar 32 (.lf) (List.replicate 32 (.sc (.int .u8 0)))] }),
  (103, { k := .slice 107, sh := .lf, bytes := 24, zero := .sl (.nd [.lf, .lf, .lf, .lf, .lf, .lf, .lf]) [] .ex }),
  (104, { k := .strct [(41, 0), (3, 32), (3, 33), (3, 34), (103, 35)], sh := .nd [.ar 32 (.lf), .lf, .lf, .lf, .lf], bytes := 80, zero := .st [.ar 32 (.lf) (List.replicate 32 (.sc (.int .u8 0))), .sc (.int .i64 0), .sc (.int .i64 0), .sc (.int .i64 0), .sl (.nd [.lf, .lf, .lf, .lf, .lf, .lf, .lf]) [] .ex] }),
  (105, { k := .strct [(41, 0), (3, 32), (3, 33), (3, 34), (103, 35)], sh := .nd [.ar 32 (.lf), .lf, .lf, .lf, .lf], bytes := 80, zero := .st [.ar 32 (.lf) (List.replicate 32 (.sc (.int .u8 0))), .sc (.int .i64 0), .sc (.int .i64 0), .sc (.int .i64 0), .sl (.nd [.lf, .lf, .lf, .lf, .lf, .lf, .lf]) [] .ex] }),
  (106, { k := .strct [(3, 0), (3, 1), (3, 2), (3, 3), (3, 4), (9, 5), (9, 6)], sh := .nd [.lf, .lf, .lf, .lf, .lf, .lf, .lf], bytes := 72, zero := .st [.sc (.int .i64 0), .sc (.int .i64 0), .sc (.int .i64 0), .sc (.int .i64 0), .sc (.int .i64 0), .sc (.string .empty), .sc (.string .empty)] }),
  (107, { k := .strct [(3, 0), (3, 1), (3, 2), (3, 3), (3, 4), (9, 5), (9, 6)], sh := .nd [.lf, .lf, .lf, .lf, .lf, .lf, .lf], bytes := 72, zero := .st [.sc (.int .i64 0), .sc (.int .i64 0), .sc (.int .i64 0), .sc (.int .i64 0), .sc (.int .i64 0), .sc (.string .empty), .sc (.string .empty)] }),
  (108, { k := .strct [(3, 0), (3, 1), (3, 2), (97, 3), (100, 104), (102, 206), (105, 274), (41, 310), (107, 342)], sh := .nd [.lf, .lf, .lf, .nd [.lf, .lf, .lf, .lf, .ar 32 (.lf), .lf, .ar 32 (.lf), .ar 32 (.lf)], .nd [.nd [.lf, .lf, .lf, .lf, .ar 32 (.lf), .lf, .ar 32 (.lf), .ar 32 (.lf)], .lf], .nd [.lf, .lf, .lf, .ar 32 (.lf), .lf, .ar 32 (.lf)], .nd [.ar 32 (.lf), .lf, .lf, .lf, .lf], .ar 32 (.lf), .nd [.lf, .lf, .lf, .lf, .lf, .lf, .lf]], bytes := 616, zero := .st [.sc (.int .i64 0), .sc (.int .i64 0), .sc (.int .i64 0), .st [.sc (.int .i64 0), .sc (.int .i64 0), .sc (.int .i64 0), .sc (.int .i64 0), .ar 32 (.lf) (List.replicate 32 (.sc (.int .u8 0))), .sc (.int .i64 0), .ar 32 (.lf) (List.replicate 32 (.sc (.int .u8 0))), .ar 32 (.lf) (List.replicate 32 (.sc (.int .u8 0)))], .st [.st [.sc (.int .i64 0), .sc (.int .i64 0), .sc (.int .i64 0), .sc (.int .i64 0), .ar 32 (.lf) (List.replicate 32 (.sc (.int .u8 0))), .sc (.int .i64 0), .ar 32 (.lf) (List.replicate 32 (.sc (.int .u8 0))), .ar 32 (.lf) (List.replicate 32 (.sc (.int .u8 0)))], .sl (.nd [.lf, .ar 32 (.lf)]) [] .ex], .st [.sc (.int .i64 0), .sc (.int .i64 0), .sc (.int .i64 0), .ar 32 (.lf) (List.replicate 32 (.sc (.int .u8 0))), .sl (.lf) [] .ex, .ar 32 (.lf) (List.replicate 32 (.sc (.int .u8 0)))], .st [.ar 32 (.lf) (List.replicate 32 (.sc (.int .u8 0))), .sc (.int .i64 0), .sc (.int .i64 0), .sc (.int .i64 0), .sl (.nd [.lf, .lf, .lf, .lf, .lf, .lf, .lf]) [] .ex], .ar 32 (.lf) (List.replicate 32 (.sc (.int .u8 0))), .st [.sc (.int .i64 0), .sc (.int .i64 0), .sc (.int .i64 0), .sc (.int .i64 0), .sc (.int .i64 0), .sc (.string .empty), .sc (.string .empty)]] }),
  (109, { k := .strct [(3, 0), (3, 1), (3, 2), (97, 3), (100, 104), (102, 206), (105, 274), (41, 310), (107, 342)], sh := .nd [.lf, .lf, .lf, .nd [.lf, .lf, .lf, .lf, .ar 32 (.lf), .lf, .ar 32 (.lf), .ar 32 (.lf)], .nd [.nd [.lf, .lf, .lf, .lf, .ar 32 (.lf), .lf, .ar 32 (.lf), .ar 32 (.lf)], .lf], .nd [.lf, .lf, .lf, .ar 32 (.lf), .lf, .ar 32 (.lf)], .nd [.ar 32 (.lf), .lf, .lf, .lf, .lf], .ar 32 (.lf), .nd [.lf, .lf, .lf, .lf, .lf, .lf, .lf]], bytes := 616, zero := .st [.sc (.int .i64 0), .sc (.int .i64 0), .sc (.int .i64 0), .st [.sc (.int .i64 0), .sc (.int .i64 0), .sc (.int .i64 0), .sc (.int .i64 0), .ar 32 (.lf) (List.replicate 32 (.sc (.int .u8 0))), .sc (.int .i64 0), .ar 32 (.lf) (List.replicate 32 (.sc (.int .u8 0))), .ar 32 (.lf) (List.replicate 32 (.sc (.int .u8 0)))], .st [.st [.sc (.int .i64 0), .sc (.int .i64 0), .sc (.int .i64 0), .sc (.int .i64 0), .ar 32 (.lf) (List.replicate 32 (.sc (.int .u8 0))), .sc (.int .i64 0), .ar 32 (.lf) (List.replicate 32 (.sc (.int .u8 0))), .ar 32 (.lf) (List.replicate 32 (.sc (.int .u8 0)))], .sl (.nd [.lf, .ar 32 (.lf)]) [] .ex], .st [.sc (.int .i64 0), .sc (.int .i64 0), .sc (.int .i64 0), .ar 32 (.lf) (List.replicate 32 (.sc (.int .u8 0))), .sl (.lf) [] .ex, .ar 32 (.lf) (List.replicate 32 (.sc (.int .u8 0)))], .st [.ar 32 (.lf) (List.replicate 32 (.sc (.int .u8 0))), .sc (.int .i64 0), .sc (.int .i64 0), .sc (.int .i64 0), .sl (.nd [.lf, .lf, .lf, .lf, .lf, .lf, .lf]) [] .ex], .ar 32 (.lf) (List.replicate 32 (.sc (.int .u8 0))), .st [.sc (.int .i64 0), .sc (.int .i64 0), .sc (.int .i64 0), .sc (.int .i64 0), .sc (.int .i64 0), .sc (.string .empty), .sc (.string .empty)]] }),
  (111, { k := .slice 41, sh := .lf, bytes := 24, zero := .sl (.ar 32 (.lf)) [] .ex }),
  (114, { k := .slice 140, sh := .lf, bytes := 24, zero := .sl (.nd [.ar 32 (.lf), .lf, .lf]) [] .ex }),
  (115, { k := .strct [(3, 0), (3, 1), (114, 2)], sh := .nd [.lf, .lf, .lf], bytes := 40, zero := .st [.sc (.int .i64 0), .sc (.int .i64 0), .sl (.nd [.ar 32 (.lf), .lf, .lf]) [] .ex] }),
  (116, { k := .strct [(3, 0), (3, 1), (114, 2)], sh := .nd [.lf, .lf, .lf], bytes := 40, zero := .st [.sc (.int .i64 0), .sc (.int .i64 0), .sl (.nd [.ar 32 (.lf), .lf, .lf]) [] .ex] }),
  (119, { k := .strct [(41, 0), (3, 32), (3, 33), (50, 34)], sh := .nd [.ar 32 (.lf), .lf, .lf, .lf], bytes := 56, zero := .st [.ar 32 (.lf) (List.replicate 32 (.sc (.int .u8 0))), .sc (.int .i64 0), .sc (.int .i64 0), .sc (.int .i64 0)] }),
  (120, { k := .strct [(41, 0), (3, 32), (3, 33), (50, 34)], sh := .nd [.ar 32 (.lf), .lf, .lf, .lf], bytes := 56, zero := .st [.ar 32 (.lf) (List.replicate 32 (.sc (.int .u8 0))), .sc (.int .i64 0), .sc (.int .i64 0), .sc (.int .i64 0)] }),
  (129, { k := .slice 22, sh := .lf, bytes := 24, zero := .sl (.lf) [] .ex }),
  (134, { k := .strct [(22, 0), (4, 1)], sh := .nd [.lf, .lf], bytes := 32, zero := .st [.sl (.lf) [] .ex, .sc (.bool false)] }),
  (135, { k := .strct [(22, 0), (4, 1)], sh := .nd [.lf, .lf], bytes := 32, zero := .st [.sl (.lf) [] .ex, .sc (.bool false)] }),
  (139, { k := .strct [(41, 0), (3, 32), (3, 33)], sh := .nd [.ar 32 (.lf), .lf, .lf], bytes := 48, zero := .st [.ar 32 (.lf) (List.replicate 32 (.sc (.int .u8 0))), .sc (.int .i64 0), .sc (.int .i64 0)] }),
  (140, { k := .strct [(41, 0), (3, 32), (3, 33)], sh := .nd [.ar 32 (.lf), .lf, .lf], bytes := 48, zero := .st [.ar 32 (.lf) (List.replicate 32 (.sc (.int .u8 0))), .sc (.int .i64 0), .sc (.int .i64 0)] }),
  (142, { k := .ptr 140, sh := .lf, bytes := 8, zero := .sc (.pointer none) }),
  (155, { k := .strct [(3, 0), (41, 1)], sh := .nd [.lf, .ar 32 (.lf)], bytes := 40, zero := .st [.sc (.int .i64 0), .ar 32 (.lf) (List.replicate 32 (.sc (.int .u8 0)))] }),
  (156, { k := .strct [(3, 0), (41, 1)], sh := .nd [.lf, .ar 32 (.lf)], bytes := 40, zero := .st [.sc (.int .i64 0), .ar 32 (.lf) (List.replicate 32 (.sc (.int .u8 0)))] }),
  (169, { k := .ptr 5, sh := .lf, bytes := 8, zero := .sc (.pointer none) })]

def D : Tabs := ⟨tab, []⟩
theorem tabOK : TabOK Try.prog D := tabOK_of (by decide +kernel)
theorem hmix : Try.prog.follows .mixedOrders = true := by decide +kernel
end Go.WL.T1
namespace Go.WL.T1
open Go.WL Go.Proofs
set_option maxRecDepth 20000

/-! ### The check, in bits -/
def poly : BitVec 32 := 0x814141ab#32
def it (n : BitVec 32) : BitVec 32 := (n <<< 1) ^^^ (if n.msb then poly else 0#32)
def its : Nat → BitVec 32 → BitVec 32
  | 0, n => n
  | k + 1, n => it (its k n)
def crcB (n : BitVec 32) (c : UInt8) : BitVec 32 := its 8 (n ^^^ (c.toBitVec.setWidth 32 <<< 24))
def crc (n : BitVec 32) (l : List UInt8) : BitVec 32 := l.foldl crcB n
abbrev n32 (b : BitVec 32) : Int := (b.toNat : Int)

theorem ofn32 (a : BitVec 32) : BitVec.ofInt 32 (n32 a) = a := by
  simp [n32]
theorem r32 (a : BitVec 32) : 0 ≤ n32 a ∧ n32 a < 4294967296 := by
  have := a.isLt
  show 0 ≤ (a.toNat : Int) ∧ (a.toNat : Int) < 4294967296
  omega
theorem wn32 (a : BitVec 32) : IntKind.u32.wrap (n32 a) = n32 a := wu32 (r32 a).1 (r32 a).2
theorem xor32 (a b : BitVec 32) : IntKind.u32.wrap ((BitVec.ofInt IntKind.u32.bits (n32 a) ^^^ BitVec.ofInt IntKind.u32.bits (n32 b)).toNat : Int) = n32 (a ^^^ b) := by
  show IntKind.u32.wrap ((BitVec.ofInt 32 (n32 a) ^^^ BitVec.ofInt 32 (n32 b)).toNat : Int) = _
  rw [ofn32, ofn32]
  exact wn32 _
theorem and32 (a b : BitVec 32) : IntKind.u32.wrap ((BitVec.ofInt IntKind.u32.bits (n32 a) &&& BitVec.ofInt IntKind.u32.bits (n32 b)).toNat : Int) = n32 (a &&& b) := by
  show IntKind.u32.wrap ((BitVec.ofInt 32 (n32 a) &&& BitVec.ofInt 32 (n32 b)).toNat : Int) = _
  rw [ofn32, ofn32]
  exact wn32 _
theorem shl32 (a : BitVec 32) (k : Nat) : IntKind.u32.wrap (n32 a * 2 ^ k) = n32 (a <<< k) := by
  simp only [IntKind.wrap, IntKind.signed, IntKind.bits, n32, BitVec.toNat_shiftLeft, Nat.shiftLeft_eq, Bool.false_and, Bool.false_eq_true, if_false]
  norm_cast
theorem c32 (c : UInt8) : IntKind.u32.wrap (c.toNat : Int) = n32 (c.toBitVec.setWidth 32) := by
  have h := c.toNat_lt
  rw [wu32 (by omega) (by omega)]
  simp [n32]
theorem msb32 (a : BitVec 32) : (n32 (a &&& 0x80000000#32) != 0) = a.msb := by
  have e : a &&& 0x80000000#32 = if a.msb then 0x80000000#32 else 0#32 := by
    rw [show (0x80000000#32 : BitVec 32) = BitVec.twoPow 32 31 by rfl, BitVec.and_twoPow, BitVec.msb_eq_getLsbD_last]
  rw [e]
  cases a.msb <;> rfl
theorem its_add (j k : Nat) (n : BitVec 32) : its (j + k) n = its j (its k n) := by
  induction j with
  | zero => rw [Nat.zero_add]; rfl
  | succ j ih => rw [Nat.succ_add, its, ih, its]
theorem it_xor (a b : BitVec 32) : it (a ^^^ b) = it a ^^^ it b := by
  unfold it
  rw [BitVec.shiftLeft_xor_distrib, BitVec.msb_xor]
  generalize a <<< 1 = x
  generalize b <<< 1 = y
  cases a.msb <;> cases b.msb
  · simp
  · simp
    ac_rfl
  · simp
    ac_rfl
  · simp
    have e : x ^^^ poly ^^^ (y ^^^ poly) = (poly ^^^ poly) ^^^ (x ^^^ y) := by ac_rfl
    rw [e, BitVec.xor_self, BitVec.zero_xor]
theorem its_xor (k : Nat) (a b : BitVec 32) : its k (a ^^^ b) = its k a ^^^ its k b := by
  induction k with
  | zero => rfl
  | succ k ih => rw [its, ih, it_xor]; rfl
theorem crc_xor : ∀ (l m : List UInt8) (a b : BitVec 32), l.length = m.length → crc (a ^^^ b) (List.zipWith (· ^^^ ·) l m) = crc a l ^^^ crc b m
  | [], [], a, b, _ => rfl
  | x :: l, y :: m, a, b, h => by
    simp only [List.zipWith_cons_cons, crc, List.foldl_cons]
    have e : crcB (a ^^^ b) (x ^^^ y) = crcB a x ^^^ crcB b y := by
      unfold crcB
      rw [← its_xor, UInt8.toBitVec_xor, BitVec.setWidth_xor, BitVec.shiftLeft_xor_distrib]
      generalize x.toBitVec.setWidth 32 <<< 24 = p
      generalize y.toBitVec.setWidth 32 <<< 24 = q
      have e : a ^^^ b ^^^ (p ^^^ q) = a ^^^ p ^^^ (b ^^^ q) := by ac_rfl
      rw [e]
    rw [e]
    exact crc_xor l m _ _ (by simpa using h)
theorem crc_append (n : BitVec 32) (l m : List UInt8) : crc n (l ++ m) = crc (crc n l) m := by simp [crc, List.foldl_append]

/-! ### The reference's division, a bit at a time -/
def refb (r : BitVec 32) (b : Bool) : BitVec 32 := it r ^^^ (if b then 1#32 else 0#32)
def bit (c : UInt8) (k : Nat) : Bool := c.toBitVec.getLsbD k
/-- A byte's bits, from the k-th down, shifted in. -/
def refB (r : BitVec 32) (c : UInt8) : Nat → BitVec 32
  | 0 => r
  | k + 1 => refB (refb r (bit c k)) c k
def ref (r : BitVec 32) (l : List UInt8) : BitVec 32 := l.foldl (fun r c => refB r c 8) r
theorem refB_lin (c : UInt8) : ∀ (k : Nat) (a b : BitVec 32), refB (a ^^^ b) c k = its k a ^^^ refB b c k
  | 0, a, b => rfl
  | k + 1, a, b => by
    simp only [refB, refb]
    rw [it_xor, BitVec.xor_assoc, refB_lin c k, its_add k 1]
    rfl
theorem each8 {Q : UInt8 → Prop} (h : ∀ n, n < 256 → Q (UInt8.ofNat n)) (c : UInt8) : Q c := by
  have := h c.toNat c.toNat_lt
  rwa [UInt8.ofNat_toNat] at this
theorem refB_zero : ∀ c : UInt8, refB 0#32 c 8 = c.toBitVec.setWidth 32 := each8 (by decide +kernel)
theorem its24 : ∀ c : UInt8, its 24 (c.toBitVec.setWidth 32) = c.toBitVec.setWidth 32 <<< 24 := each8 (by decide +kernel)
theorem ref_crc : ∀ (l : List UInt8) (r : BitVec 32), its 32 (ref r l) = crc (its 32 r) l
  | [], r => rfl
  | c :: l, r => by
    simp only [ref, crc, List.foldl_cons]
    rw [show l.foldl (fun r c => refB r c 8) (refB r c 8) = ref (refB r c 8) l from rfl, show l.foldl crcB (crcB (its 32 r) c) = crc (crcB (its 32 r) c) l from rfl, ref_crc l]
    congr 1
    have e : refB r c 8 = its 8 r ^^^ c.toBitVec.setWidth 32 := by
      have := refB_lin c 8 r 0#32
      rw [BitVec.xor_zero] at this
      rw [this, refB_zero]
    rw [e, its_xor, crcB, its_xor, ← its24, ← its_add, ← its_add, ← its_add]
/-- With four bytes 0 behind: the check. -/
theorem ref_is (l : List UInt8) : ref 0#32 (l ++ [0, 0, 0, 0]) = crc 0#32 l := by
  have e : ∀ r : BitVec 32, ref r [0, 0, 0, 0] = its 32 r := by
    intro r
    have : ∀ r : BitVec 32, refB r 0 8 = its 8 r := by
      intro r
      have := refB_lin 0 8 r 0#32
      rw [BitVec.xor_zero, refB_zero] at this
      rw [this]
      exact BitVec.xor_zero
    simp only [ref, List.foldl_cons, List.foldl_nil, this, ← its_add]
  rw [ref, List.foldl_append]
  show ref (ref 0#32 l) [0, 0, 0, 0] = _
  rw [e, ref_crc]
  rfl
end Go.WL.T1
namespace Go.WL.T1
open Go.WL Go.Proofs
set_option maxRecDepth 20000
set_option maxHeartbeats 4000000
theorem by8_at {b : List UInt8} {i : Nat} (h : i < b.length) : (by8 b)[i]? = some (.sc (.int .u8 (b[i].toNat : Int))) := by
  simp [by8, h]
theorem shl24 (a : BitVec 32) : IntKind.u32.wrap (n32 a * 2 ^ min (Int.toNat 24) IntKind.u32.bits) = n32 (a <<< 24) := shl32 a 24
theorem shl1 (a : BitVec 32) : IntKind.u32.wrap (n32 a * 2 ^ min (Int.toNat 1) IntKind.u32.bits) = n32 (a <<< 1) := shl32 a 1
theorem by8_len (b : List UInt8) : (by8 b).length = b.length := by simp [by8]
theorem c_crc (ps : List (List UInt8)) (hl : ps.length < 1000000) (hp : ∀ p ∈ ps, p.length < 1000000000) : FnOK Try.prog D 17 [.sl .lf (ps.map (fun b => (AV.sl .lf (by8 (b)) .ro))) .ro] [] (fun r st => r = (AV.sc (.int .u32 (n32 (crc 0#32 ps.flatten)))) ∧ st = []) := by
  refine fnok_of_W hmix tabOK Try.func17 rfl rfl (Nat.le_of_ble_eq_true rfl) ?_
  conv => whnf
  refine ⟨false, [3, 9, 10, 11], fun τ => ∃ i : Nat, i ≤ ps.length ∧ τ = ⟨40, [(3, (AV.sc (.int .u32 (n32 (crc 0#32 (ps.take i).flatten))))), (9, .sl .lf (ps.map (fun b => (AV.sl .lf (by8 (b)) .ro))) .ro), (10, .sc (.int .i64 (ps.length : Int))), (11, .sc (.int .i64 (i : Int)))], ⟨[], [], 0⟩⟩, fun τ => ps.length - (slotI τ 11).toNat, ?_, ?_⟩
  · conv => whnf
    exact ⟨0, Nat.zero_le _, by rw [List.length_map]; rfl⟩
  · rintro τ ⟨i, hi, rfl⟩
    conv => whnf
    refine Branch.of (fun h => ?_) (fun h => ?_) <;> rw [h] <;> conv => whnf
    · simp only [decide_eq_true_eq] at h
      have hi' : i < ps.length := by omega
      refine ⟨by omega, (AV.sl .lf (by8 (ps[i])) .ro), by simp [hi'], ?_⟩
      conv => whnf
      have hpi := hp ps[i] (List.getElem_mem hi')
      generalize hq : ps[i] = q at hpi
      generalize hn : crc 0#32 (ps.take i).flatten = n0
      refine ⟨false, [3, 9, 10, 11, 15, 16, 17], fun τ => ∃ j : Nat, j ≤ q.length ∧ τ = ⟨40, [(3, (AV.sc (.int .u32 (n32 (crc n0 (q.take j)))))), (9, .sl .lf (ps.map (fun b => (AV.sl .lf (by8 (b)) .ro))) .ro), (10, .sc (.int .i64 (ps.length : Int))), (11, .sc (.int .i64 (i : Int))), (15, (AV.sl .lf (by8 (q)) .ro)), (16, .sc (.int .i64 (q.length : Int))), (17, .sc (.int .i64 (j : Int)))], ⟨[], [], 0⟩⟩, fun τ => q.length - (slotI τ 17).toNat, ?_, ?_⟩
      · conv => whnf
        exact ⟨0, Nat.zero_le _, by rw [by8_len]; rfl⟩
      · rintro τ ⟨j, hj, rfl⟩
        conv => whnf
        refine Branch.of (fun h2 => ?_) (fun h2 => ?_) <;> rw [h2] <;> conv => whnf
        · simp only [decide_eq_true_eq] at h2
          have hj' : j < q.length := by omega
          refine ⟨by omega, .sc (.int .u8 (q[j].toNat : Int)), by simp [by8, hj'], ?_⟩
          conv => whnf
          refine ⟨by omega, ?_⟩
          conv => whnf
          rw [c32 q[j], shl24 (q[j].toBitVec.setWidth 32), xor32 (crc n0 (q.take j)) (q[j].toBitVec.setWidth 32 <<< 24)]
          refine ⟨false, [3, 9, 10, 11, 15, 16, 17, 26], fun τ => ∃ k : Nat, k ≤ 8 ∧ τ = ⟨40, [(3, (AV.sc (.int .u32 (n32 (its k (crc n0 (q.take j) ^^^ (q[j].toBitVec.setWidth 32 <<< 24))))))), (9, .sl .lf (ps.map (fun b => (AV.sl .lf (by8 (b)) .ro))) .ro), (10, .sc (.int .i64 (ps.length : Int))), (11, .sc (.int .i64 (i : Int))), (15, (AV.sl .lf (by8 (q)) .ro)), (16, .sc (.int .i64 (q.length : Int))), (17, .sc (.int .i64 (j : Int))), (26, .sc (.int .i64 (k : Int)))], ⟨[], [], 0⟩⟩, fun τ => 8 - (slotI τ 26).toNat, ?_, ?_⟩
          · conv => whnf
            exact ⟨0, Nat.zero_le _, rfl⟩
          · rintro τ ⟨k, hk, rfl⟩
            generalize hx : its k (crc n0 (q.take j) ^^^ (q[j].toBitVec.setWidth 32 <<< 24)) = x
            conv => whnf
            refine Branch.of (fun h3 => ?_) (fun h3 => ?_) <;> rw [h3] <;> conv => whnf
            · simp only [decide_eq_true_eq] at h3
              refine ⟨by omega, ?_⟩
              conv => whnf
              have ht : (IntKind.u32.wrap ((BitVec.ofInt IntKind.u32.bits (n32 x) &&& BitVec.ofInt IntKind.u32.bits 2147483648).toNat : Int) != 0) = x.msb := by
                have := and32 x 0x80000000#32
                rw [show (n32 0x80000000#32) = 2147483648 from rfl] at this
                rw [this, msb32]
              have hs : its (k + 1) (crc n0 (q.take j) ^^^ (q[j].toBitVec.setWidth 32 <<< 24)) = (x <<< 1) ^^^ (if x.msb then poly else 0#32) := by
                rw [its, hx]; rfl
              refine Branch.of (fun h4 => ?_) (fun h4 => ?_)
              · have hmsb : x.msb = true := ht.symm.trans h4
                clear h4 ht
                rw [hmsb] at hs
                conv => whnf
                rw [shl1 x, show IntKind.u32.wrap ((BitVec.ofInt IntKind.u32.bits (n32 (x <<< 1)) ^^^ BitVec.ofInt IntKind.u32.bits 2168537515).toNat : Int) = n32 (x <<< 1 ^^^ poly) from xor32 (x <<< 1) poly, w64 (x := (k : Int) + 1) (by omega) (by omega)]
                refine ⟨⟨k + 1, by omega, by rw [hs]; rfl⟩, ?_⟩
                show 8 - ((k : Int) + 1).toNat < 8 - (k : Int).toNat
                omega
              · have hmsb : x.msb = false := ht.symm.trans h4
                clear h4 ht
                rw [hmsb] at hs
                conv => whnf
                rw [shl1 x, w64 (x := (k : Int) + 1) (by omega) (by omega)]
                refine ⟨⟨k + 1, by omega, by rw [hs, show (x <<< 1 ^^^ if false = true then poly else 0#32) = x <<< 1 from BitVec.xor_zero]; rfl⟩, ?_⟩
                show 8 - ((k : Int) + 1).toNat < 8 - (k : Int).toNat
                omega
            · simp only [decide_eq_false_iff_not] at h3
              have hk8 : k = 8 := by omega
              subst hk8
              rw [w64 (x := (j : Int) + 1) (by omega) (by omega)]
              refine ⟨⟨j + 1, by omega, ?_⟩, ?_⟩
              · have : crc n0 (q.take (j + 1)) = x := by
                  rw [List.take_succ_eq_append_getElem hj', crc_append, ← hx]
                  rfl
                rw [this]
                rfl
              · show q.length - ((j : Int) + 1).toNat < q.length - (j : Int).toNat
                omega
        · simp only [decide_eq_false_iff_not] at h2
          have hjq : j = q.length := by omega
          subst hjq
          rw [w64 (x := (i : Int) + 1) (by omega) (by omega)]
          refine ⟨⟨i + 1, by omega, ?_⟩, ?_⟩
          · have : crc 0#32 (ps.take (i + 1)).flatten = crc n0 (q.take q.length) := by
              rw [List.take_succ_eq_append_getElem hi', List.flatten_append, crc_append, hn, hq, List.take_length]
              simp
            rw [this]
            rfl
          · show ps.length - ((i : Int) + 1).toNat < ps.length - (i : Int).toNat
            omega
    · simp only [decide_eq_false_iff_not] at h
      have hip : i = ps.length := by omega
      subst hip
      refine ⟨false, [], ?_⟩
      conv => whnf
      refine ⟨?_, rfl⟩
      congr 2
      rw [List.take_length]
end Go.WL.T1
namespace Go.WL.T1
open Go.WL Go.Proofs
set_option maxRecDepth 20000
set_option maxHeartbeats 1000000
def bi (b : Bool) : Nat := if b then 1 else 0
theorem even_xor (a : Nat) (b : Bool) : (2 * a) ^^^ bi b = 2 * a + bi b := by
  cases b with
  | false => exact Nat.xor_zero _
  | true =>
    show (2 * a) ^^^ 1 = 2 * a + 1
    apply Nat.eq_of_testBit_eq
    intro i
    cases i with
    | zero => simp [Nat.testBit_zero, Nat.add_mod]
    | succ i =>
      have e1 : (2 * a + 1) / 2 = a := by omega
      have e2 : (2 * a) / 2 = a := by omega
      rw [Nat.testBit_xor, Nat.testBit_succ, Nat.testBit_succ (x := 1), Nat.testBit_succ (x := 2 * a + 1), e1, e2]
      simp
theorem low_toNat (r : BitVec 32) (b : Bool) : (r <<< 1 ^^^ (if b then 1#32 else 0#32)).toNat = r.toNat * 2 % 4294967296 + bi b := by
  rw [BitVec.toNat_xor, BitVec.toNat_shiftLeft, Nat.shiftLeft_eq]
  have e1 : (if b then 1#32 else 0#32 : BitVec 32).toNat = bi b := by cases b <;> rfl
  have e2 : r.toNat * 2 ^ 1 % 2 ^ 32 = 2 * (r.toNat % 2147483648) := by omega
  rw [e1, e2, even_xor]
theorem refb_low (r : BitVec 32) (b : Bool) (h : r.toNat * 2 + bi b < 4294967296) : n32 (refb r b) = n32 r * 2 + (bi b : Int) := by
  have hm : r.msb = false := by
    rw [BitVec.msb_eq_decide]
    have : bi b ≤ 1 := by cases b <;> decide
    simp
    omega
  have e : refb r b = r <<< 1 ^^^ (if b then 1#32 else 0#32) := by
    unfold refb it
    rw [hm]
    simp
  show ((refb r b).toNat : Int) = (r.toNat : Int) * 2 + bi b
  rw [e, low_toNat]
  omega
theorem xor64 (a b : Nat) (ha : a < 18446744073709551616) (hb : b < 18446744073709551616) : IntKind.u64.wrap ((BitVec.ofInt IntKind.u64.bits (a : Int) ^^^ BitVec.ofInt IntKind.u64.bits (b : Int)).toNat : Int) = ((a ^^^ b : Nat) : Int) := by
  show IntKind.u64.wrap ((BitVec.ofInt 64 (a : Int) ^^^ BitVec.ofInt 64 (b : Int)).toNat : Int) = _
  have h : a ^^^ b < 2 ^ 64 := Nat.xor_lt_two_pow ha hb
  rw [BitVec.toNat_xor]
  have e1 : (BitVec.ofInt 64 (a : Int)).toNat = a := by simp; omega
  have e2 : (BitVec.ofInt 64 (b : Int)).toNat = b := by simp; omega
  rw [e1, e2]
  exact wu64 (by omega) (by omega)
theorem refb_high (r : BitVec 32) (b : Bool) (h : 4294967296 ≤ r.toNat * 2 + bi b) : IntKind.u64.wrap ((BitVec.ofInt IntKind.u64.bits (IntKind.u64.wrap ((n32 r * 2 + (bi b : Int)) - 4294967296)) ^^^ BitVec.ofInt IntKind.u64.bits 2168537515).toNat : Int) = n32 (refb r b) := by
  have hb : bi b ≤ 1 := by cases b <;> decide
  have hm : r.msb = true := by
    rw [BitVec.msb_eq_decide]
    simp
    omega
  have hr := r.isLt
  have e0 : (n32 r * 2 + (bi b : Int)) - 4294967296 = ((r.toNat * 2 % 4294967296 + bi b : Nat) : Int) := by
    show (r.toNat : Int) * 2 + bi b - 4294967296 = _
    omega
  rw [e0, wu64 (x := ((r.toNat * 2 % 4294967296 + bi b : Nat) : Int)) (by omega) (by omega), show (2168537515 : Int) = ((2168537515 : Nat) : Int) from rfl, xor64 _ _ (by omega) (by omega), ← low_toNat, show (2168537515 : Nat) = poly.toNat from rfl, ← BitVec.toNat_xor]
  congr 2
  unfold refb it
  rw [hm, if_pos rfl]
  generalize r <<< 1 = x
  ac_rfl
theorem bit_at (c : UInt8) (k : Nat) : (Int.fdiv (c.toNat : Int) (2 ^ min k IntKind.u8.bits)).tmod 2 = (bi (bit c k) : Int) := by
  have e : ((2 : Int) ^ min k IntKind.u8.bits) = ((2 ^ min k 8 : Nat) : Int) := by simp [IntKind.bits]
  rw [e, Int.fdiv_eq_ediv_of_nonneg _ (Int.natCast_nonneg _), ← Int.natCast_ediv, Int.tmod_eq_emod_of_nonneg (Int.natCast_nonneg _)]
  have hb : bit c k = decide (c.toNat / 2 ^ k % 2 = 1) := by
    rw [bit, BitVec.getLsbD, ← Nat.testBit_eq_decide_div_mod_eq]
    rfl
  have hc := c.toNat_lt
  by_cases h : k ≤ 8
  · rw [Nat.min_eq_left h, hb]
    by_cases h2 : c.toNat / 2 ^ k % 2 = 1
    · simp only [h2, decide_true, bi, if_true]; omega
    · simp only [h2, decide_false, bi, Bool.false_eq_true, if_false]; omega
  · rw [Nat.min_eq_right (by omega), hb]
    have h3 : c.toNat / 2 ^ k = 0 := Nat.div_eq_of_lt (Nat.lt_of_lt_of_le hc (by show 2 ^ 8 ≤ 2 ^ k; exact Nat.pow_le_pow_right (by omega) (by omega)))
    have h4 : c.toNat / 2 ^ 8 = 0 := Nat.div_eq_of_lt hc
    rw [h3, h4]
    rfl
theorem ref_snoc (r : BitVec 32) (l : List UInt8) (c : UInt8) : ref r (l ++ [c]) = refB (ref r l) c 8 := by simp [ref, List.foldl_append]
theorem wn32' (a : BitVec 32) : IntKind.u32.wrap (n32 a) = n32 a := wn32 a
theorem c_refcrc (b : List UInt8) (hl : b.length < 1000000) : FnOK Try.prog D 16 [(AV.sl .lf (by8 (b)) .ro)] [] (fun r st => r = (AV.sc (.int .u32 (n32 (crc 0#32 b)))) ∧ st = []) := by
  refine fnok_of_W hmix tabOK Try.func16 rfl rfl (Nat.le_of_ble_eq_true rfl) ?_
  conv => whnf
  refine ⟨by rw [by8_len]; simp; omega, ?_⟩
  conv => whnf
  refine ⟨by simp [by8_len]; omega, ?_⟩
  conv => whnf
  generalize ha : b ++ [0, 0, 0, 0] = all
  have hal : all.length = b.length + 4 := by rw [← ha]; simp
  have hA : ∀ x y : List AV, x = [] → y = [.sc (.int .u8 0), .sc (.int .u8 0), .sc (.int .u8 0), .sc (.int .u8 0)] → x ++ by8 b ++ y = by8 all := by
    rintro _ _ rfl rfl
    rw [← ha]
    simp [by8]
  refine ⟨false, [3, 4, 5], fun τ => ∃ i : Nat, i ≤ all.length ∧ τ = ⟨41, [(3, .sc (.int .u64 (n32 (ref 0#32 (all.take i))))), (4, .sl .lf (by8 all) (.own 0)), (5, .sc (.int .i64 (i : Int)))], ⟨[], [0], 1⟩⟩, fun τ => all.length - (slotI τ 5).toNat, ?_, ?_⟩
  · conv => whnf
    refine ⟨0, Nat.zero_le _, ?_⟩
    rw [show (List.replicate 0 (AV.sc (.int .u8 0)) ++ by8 b ++ [.sc (.int .u8 0), .sc (.int .u8 0), .sc (.int .u8 0), .sc (.int .u8 0)]) = by8 all from hA _ _ rfl rfl]
    rfl
  · rintro τ ⟨i, hi, rfl⟩
    conv => whnf
    rw [by8_len]
    refine Branch.of (fun h => ?_) (fun h => ?_) <;> rw [h] <;> conv => whnf
    · simp only [decide_eq_true_eq] at h
      have hi' : i < all.length := by omega
      generalize hr : ref 0#32 (all.take i) = r0
      generalize hc : all[i] = c
      refine ⟨false, [3, 4, 5, 6], fun τ => ∃ (m : Nat) (r : BitVec 32), m ≤ 8 ∧ refB r c m = refB r0 c 8 ∧ τ = ⟨41, [(3, .sc (.int .u64 (n32 r))), (4, .sl .lf (by8 all) (.own 0)), (5, .sc (.int .i64 (i : Int))), (6, .sc (.int .i64 ((m : Int) - 1)))], ⟨[], [0], 1⟩⟩, fun τ => (slotI τ 6 + 1).toNat, ?_, ?_⟩
      · conv => whnf
        exact ⟨8, r0, Nat.le_refl _, rfl, rfl⟩
      · rintro τ ⟨m, r, hm, hr2, rfl⟩
        conv => whnf
        refine Branch.of (fun h2 => ?_) (fun h2 => ?_) <;> rw [h2] <;> conv => whnf
        · simp only [ge_iff_le, decide_eq_true_eq] at h2
          obtain ⟨k, rfl⟩ : ∃ k, m = k + 1 := ⟨m - 1, by omega⟩
          rw [show (((k + 1 : Nat) : Int) - 1) = (k : Int) by omega]
          refine ⟨by omega, .sc (.int .u8 (c.toNat : Int)), by rw [by8, List.getElem?_map, Int.toNat_natCast, List.getElem?_eq_getElem hi', hc]; rfl, ?_⟩
          conv => whnf
          rw [wu64 (x := (k : Int)) (by omega) (by omega)]
          refine ⟨by omega, ?_⟩
          conv => whnf
          refine ⟨by omega, ?_⟩
          conv => whnf
          have hb := bit_at c k
          have hb1 : bi (bit c k) ≤ 1 := by cases bit c k <;> decide
          have hr := r32 r
          rw [Int.toNat_natCast, hb, wu64 (x := n32 r * 2) (by omega) (by omega), wu64 (x := (bi (bit c k) : Int)) (by omega) (by omega), wu64 (x := n32 r * 2 + (bi (bit c k) : Int)) (by omega) (by omega)]
          have hs : refB (refb r (bit c k)) c k = refB r0 c 8 := hr2
          refine Branch.of (fun h4 => ?_) (fun h4 => ?_)
          · conv => whnf
            simp only [ge_iff_le, decide_eq_true_eq] at h4
            rw [refb_high r (bit c k) (by have : n32 r = (r.toNat : Int) := rfl; omega), w64 (x := (k : Int) - 1) (by omega) (by omega)]
            refine ⟨⟨k, refb r (bit c k), by omega, hs, rfl⟩, ?_⟩
            show ((k : Int) - 1 + 1).toNat < ((k : Int) + 1).toNat
            omega
          · conv => whnf
            simp only [ge_iff_le, decide_eq_false_iff_not] at h4
            rw [← refb_low r (bit c k) (by have : n32 r = (r.toNat : Int) := rfl; omega), w64 (x := (k : Int) - 1) (by omega) (by omega)]
            refine ⟨⟨k, refb r (bit c k), by omega, hs, rfl⟩, ?_⟩
            show ((k : Int) - 1 + 1).toNat < ((k : Int) + 1).toNat
            omega
        · simp only [ge_iff_le, decide_eq_false_iff_not] at h2
          have hm0 : m = 0 := by omega
          subst hm0
          rw [w64 (x := (i : Int) + 1) (by omega) (by omega)]
          refine ⟨⟨i + 1, by omega, ?_⟩, ?_⟩
          · have : ref 0#32 (all.take (i + 1)) = r := by
              rw [List.take_succ_eq_append_getElem hi', ref_snoc, hr, hc, ← hr2]
              rfl
            rw [this]
            rfl
          · show all.length - ((i : Int) + 1).toNat < all.length - (i : Int).toNat
            omega
    · simp only [decide_eq_false_iff_not] at h
      have hia : i = all.length := by omega
      subst hia
      rw [List.take_length, ← ha, ref_is, wn32']
      refine ⟨false, [], ?_⟩
      conv => whnf
      refine ⟨?_, rfl⟩
      congr 2
end Go.WL.T1
namespace Go.WL.T1
open Go.WL Go.Proofs
set_option maxRecDepth 20000
set_option maxHeartbeats 2000000
/-- The check of bytes. -/
@[irreducible] def chk (l : List UInt8) : BitVec 32 := crc 0#32 l
theorem chk_eq (l : List UInt8) : crc 0#32 l = chk l := by unfold chk; rfl
theorem c_ref (b : List UInt8) (hl : b.length < 1000000) : FnOK Try.prog D 16 [(AV.sl .lf (by8 (b)) .ro)] [] (fun r st => r = (AV.sc (.int .u32 (n32 (chk b)))) ∧ st = []) := by
  rw [← chk_eq]
  exact c_refcrc b hl
theorem c_crcs (ps : List (List UInt8)) (hl : ps.length < 1000000) (hp : ∀ p ∈ ps, p.length < 1000000000) {xs : List AV} {m : Mark} (hm : m = .ex ∨ m = .ro) (h : Weaks xs (ps.map (fun b => (AV.sl .lf (by8 (b)) .ro)))) : FnOK Try.prog D 17 [.sl .lf xs m] [] (fun r st => r = (AV.sc (.int .u32 (n32 (chk ps.flatten)))) ∧ st = []) := by
  rw [← chk_eq]
  exact (c_crc ps hl hp).weak (.cons (.sl hm h) .nil)
theorem known : crc 0#32 [49, 50, 51, 52, 53, 54, 55, 56, 57] = 0x3010bf7f#32 := by decide +kernel
theorem c_crcawake  : FnOK Try.prog D 15 [] [] (fun r st => r = .sc (.bool true) ∧ st = []) := by
  refine fnok_of_W hmix tabOK Try.func15 rfl rfl (Nat.le_of_ble_eq_true rfl) ?_
  conv => whnf
  refine (c_crcs [[49, 50, 51, 52], [53, 54, 55, 56, 57]] (by decide) (by decide) (.inl rfl) (Weaks.refl _)).mono fun r st e => ?_
  obtain ⟨rfl, rfl⟩ := e
  rw [show chk ([[49, 50, 51, 52], [53, 54, 55, 56, 57]] : List (List UInt8)).flatten = 0x3010bf7f#32 from (chk_eq _).symm.trans known]
  conv => whnf
  refine ⟨false, [], ?_⟩
  conv => whnf
  exact ⟨rfl, rfl⟩
theorem xor8 (a b : UInt8) : IntKind.u8.wrap ((BitVec.ofInt IntKind.u8.bits (a.toNat : Int) ^^^ BitVec.ofInt IntKind.u8.bits (b.toNat : Int)).toNat : Int) = ((a ^^^ b).toNat : Int) := by
  have h1 := (a ^^^ b).toNat_lt
  have e : ∀ c : UInt8, BitVec.ofInt IntKind.u8.bits (c.toNat : Int) = c.toBitVec := by
    intro c
    show BitVec.ofInt 8 (c.toNat : Int) = _
    simp
  rw [e, e]
  exact wu8 (by omega) (by have := (a ^^^ b).toNat_lt; show ((a ^^^ b).toNat : Int) < 256; omega)
theorem by8_take (k : Nat) (b : List UInt8) : (by8 b).take k = by8 (b.take k) := by simp [by8]
theorem by8_drop (k : Nat) (b : List UInt8) : (by8 b).drop k = by8 (b.drop k) := by simp [by8]
theorem by8_cut (k : Nat) (b : List UInt8) : ((by8 b).drop k).take ((by8 b).length - k) = by8 (b.drop k) := by
  rw [by8_drop, by8_take, List.take_of_length_le]
  rw [by8_len, List.length_drop]
  exact Nat.le_refl _
theorem zip_take (f : UInt8 → UInt8 → UInt8) : ∀ l m : List UInt8, List.zipWith f l m = List.zipWith f l (m.take l.length)
  | [], m => by simp
  | x :: l, [] => by simp
  | x :: l, y :: m => by
    simp only [List.length_cons, List.take_succ_cons, List.zipWith_cons_cons]
    rw [← zip_take f l m]
theorem c_crclaw (b c : List UInt8) (at_ : Int) (hb : b.length ≤ maxLen) (hc : c.length ≤ maxLen) (h0 : 0 ≤ at_) (h1 : at_ < 65536) : FnOK Try.prog D 3 [(AV.sl .lf (by8 (b)) .ro), (AV.sl .lf (by8 (c)) .ro), .sc (.int .u16 at_)] [] (fun r _ => r = .sc (.bool true)) := by
  refine fnok_of_W hmix tabOK Try.func3 rfl rfl (Nat.le_of_ble_eq_true rfl) ?_
  conv => whnf
  rw [by8_len]
  refine Branch.of (fun h => ?_) (fun h => ?_) <;> rw [h] <;> conv => whnf
  · refine c_crcawake.mono fun r st e => ?_
    obtain ⟨rfl, rfl⟩ := e
    conv => whnf
    refine ⟨false, [], ?_⟩
    conv => whnf
  simp only [gt_iff_lt, decide_eq_false_iff_not] at h
  rw [by8_len, by8_len]
  refine Branch.of (fun h2 => ?_) (fun h2 => ?_) <;> rw [h2] <;> conv => whnf
  · refine c_crcawake.mono fun r st e => ?_
    obtain ⟨rfl, rfl⟩ := e
    conv => whnf
    refine ⟨false, [], ?_⟩
    conv => whnf
  simp only [decide_eq_false_iff_not] at h2
  rw [by8_len]
  refine Branch.of (fun h3 => ?_) (fun h3 => ?_) <;> rw [h3] <;> conv => whnf
  · refine c_crcawake.mono fun r st e => ?_
    obtain ⟨rfl, rfl⟩ := e
    conv => whnf
    refine ⟨false, [], ?_⟩
    conv => whnf
  simp only [gt_iff_lt, decide_eq_false_iff_not] at h3
  rw [by8_len, w64 (x := at_) (by omega) (by omega), w64 (x := (b.length : Int) + 1) (by omega) (by omega)]
  refine ⟨by omega, ?_⟩
  conv => whnf
  rw [Int.tmod_eq_emod_of_nonneg (by omega)]
  have hk0 := Int.emod_nonneg at_ (show (b.length : Int) + 1 ≠ 0 by omega)
  have hk1 := Int.emod_lt_of_pos at_ (show 0 < (b.length : Int) + 1 by omega)
  generalize hk : at_ % ((b.length : Int) + 1) = k at hk0 hk1
  obtain ⟨k, rfl⟩ := Int.eq_ofNat_of_zero_le hk0
  generalize hz : List.zipWith (fun x y : UInt8 => x ^^^ y) b c = z
  refine ⟨true, [0, 1, 6, 7, 8, 9], fun τ => ∃ i : Nat, i ≤ b.length ∧ τ = ⟨88, [(0, (AV.sl .lf (by8 (b)) .ro)), (1, (AV.sl .lf (by8 (c)) .ro)), (6, .sc (.bool false)), (7, .sc (.int .i64 (k : Int))), (8, .sl .lf (by8 (z.take i)) (.own 0)), (9, .sc (.int .i64 (i : Int)))], ⟨[], [0], 1⟩⟩, fun τ => b.length - (slotI τ 9).toNat, ?_, ?_⟩
  · conv => whnf
    exact ⟨0, Nat.zero_le _, rfl⟩
  · rintro τ ⟨i, hi, rfl⟩
    conv => whnf
    rw [by8_len]
    refine Branch.of (fun h4 => ?_) (fun h4 => ?_) <;> rw [h4] <;> conv => whnf
    · simp only [decide_eq_true_eq] at h4
      have hi' : i < b.length := by omega
      have hi2 : i < c.length := by omega
      refine ⟨tab_3_8, by decide +kernel, ?_⟩
      conv => whnf
      refine ⟨by omega, .sc (.int .u8 (b[i].toNat : Int)), by simp [by8, hi'], ?_⟩
      conv => whnf
      refine ⟨by omega, .sc (.int .u8 (c[i].toNat : Int)), by simp [by8, hi2], ?_⟩
      conv => whnf
      have hzi : i < z.length := by rw [← hz]; simp; omega
      have hx : IntKind.u8.wrap ((BitVec.ofInt IntKind.u8.bits (b[i].toNat : Int) ^^^ BitVec.ofInt IntKind.u8.bits (c[i].toNat : Int)).toNat : Int) = (z[i].toNat : Int) := by
        rw [xor8]
        congr 2
        simp [← hz]
      rw [hx]
      refine ⟨by simp [by8_len]; omega, ?_⟩
      conv => whnf
      rw [w64 (x := (i : Int) + 1) (by omega) (by omega)]
      refine ⟨⟨i + 1, by omega, ?_⟩, ?_⟩
      · rw [List.take_succ_eq_append_getElem hzi]
        simp only [by8, List.map_append]
        rfl
      · show b.length - ((i : Int) + 1).toNat < b.length - (i : Int).toNat
        omega
    · simp only [decide_eq_false_iff_not] at h4
      refine (c_ref b (by omega)).mono fun r st e => ?_
      obtain ⟨rfl, rfl⟩ := e
      conv => whnf
      refine ⟨tab_3_10, by decide +kernel, ?_⟩
      conv => whnf
      refine ⟨_, _, c_crcs [b] (by simp) (by simp; omega) (.inl rfl) (Weaks.refl _), ?_⟩
      conv => whnf
      rw [show [b].flatten = b by simp, show (n32 (chk b) == n32 (chk b)) = true from beq_self_eq_true _]
      conv => whnf
      refine ⟨by omega, ?_⟩
      conv => whnf
      refine ⟨by omega, by rw [by8_len]; omega, ?_⟩
      conv => whnf
      refine ⟨by omega, ?_⟩
      conv => whnf
      refine ⟨by rw [by8_len]; omega, by rw [by8_len]; omega, ?_⟩
      conv => whnf
      rw [Int.toNat_natCast, Nat.sub_zero, List.drop_zero, by8_take k b, by8_cut k b]
      have c3 := c_crcs [b.take k, b.drop k] (by simp) (by simp; omega) (.inl rfl) (Weaks.refl _)
      rw [show [b.take k, b.drop k].flatten = b by simp] at c3
      refine ⟨_, _, c3, ?_⟩
      conv => whnf
      rw [show (n32 (chk b) == n32 (chk b)) = true from beq_self_eq_true _]
      conv => whnf
      have hzl : z.length = b.length := by rw [← hz]; simp; omega
      have c4 := c_crcs [z.take i] (by simp) (by simp; omega) (.inl rfl) (Weaks.refl _)
      rw [show [z.take i].flatten = z by rw [List.flatten_cons, List.flatten_nil, List.append_nil, List.take_of_length_le (by omega)]] at c4
      refine ⟨_, _, c4, ?_⟩
      conv => whnf
      rw [by8_len]
      refine ⟨by omega, by omega, by rw [by8_len]; omega, ?_⟩
      conv => whnf
      rw [Int.toNat_natCast, Nat.sub_zero, List.drop_zero, by8_take b.length c]
      have c5 := c_crcs [c.take b.length] (by simp) (by simp; omega) (.inl rfl) (Weaks.refl _)
      rw [show [c.take b.length].flatten = c.take b.length by simp] at c5
      refine ⟨_, _, c5, ?_⟩
      conv => whnf
      have hx : chk z = chk b ^^^ chk (c.take b.length) := by
        have hz2 : z = List.zipWith (fun x y : UInt8 => x ^^^ y) b (c.take b.length) := by
          rw [← hz, zip_take]
        have := crc_xor b (c.take b.length) 0#32 0#32 (by simp; omega)
        rw [← chk_eq, ← chk_eq, ← chk_eq, hz2, ← this]
        congr 1
      rw [xor32 (chk b) (chk (c.take b.length)), ← hx, show (n32 (chk z) == n32 (chk z)) = true from beq_self_eq_true _]
      conv => whnf
      refine ⟨_, _, c_crcawake, ?_⟩
      conv => whnf
      refine ⟨false, [], ?_⟩
      conv => whnf
end Go.WL.T1
