/- LeaderTurns: the law's own code. No condition. -/
import Derived.Test.YtnggkhdmieafoaaWordsC
import Derived.Test.YtnggkhdmieafoaaProg
set_option linter.unusedVariables false
set_option linter.unusedSimpArgs false
namespace Go.WL.T1
def tab_3_8 : List (List Nat) := [[], [], [], [1, 2], [2, 1, 3], [], [], [5, 6], [6, 5, 7], [3, 1, 2, 4, 7, 5, 6, 8], [8, 6, 5, 7, 4, 2, 1, 3, 9], [0, 9, 3, 1, 2, 4, 7, 5, 6, 8, 10], [10, 8, 6, 5, 7, 4, 2, 1, 3, 9, 0, 11]]
def tab_3_10 : List (List Nat) := [[], [0], [0, 1], [], [1, 0, 2, 3], [3, 4, 1, 0, 2], [2, 0, 1, 4, 3, 5], [2, 0, 1, 4, 3, 5], [6, 7, 2, 0, 1, 4, 3, 5], [2, 0, 1, 4, 3, 5], [2, 0, 1, 4, 3, 5], [9, 10, 2, 0, 1, 4, 3, 5], [7, 6, 8, 10, 9, 11, 2, 0, 1, 4, 3, 5], [11, 9, 10, 8, 6, 7, 12, 2, 0, 1, 4, 3, 5], [2, 0, 1, 4, 3, 5], [12, 7, 6, 8, 10, 9, 11, 13, 14, 2, 0, 1, 4, 3, 5], [5, 3, 4, 1, 0, 2, 14, 13, 11, 9, 10, 8, 6, 7, 12, 15], [15, 14, 16, 5, 3, 4, 1, 0, 2, 12, 7, 6, 8, 10, 9, 11, 13], [13, 11, 9, 10, 8, 6, 7, 12, 2, 0, 1, 4, 3, 5, 16, 14, 15, 17], [18, 13, 11, 9, 10, 8, 6, 7, 12, 2, 0, 1, 4, 3, 5, 16, 14, 15, 17], [18, 19, 13, 11, 9, 10, 8, 6, 7, 12, 2, 0, 1, 4, 3, 5, 16, 14, 15, 17], [13, 11, 9, 10, 8, 6, 7, 12, 2, 0, 1, 4, 3, 5, 16, 14, 15, 17], [13, 11, 9, 10, 8, 6, 7, 12, 2, 0, 1, 4, 3, 5, 16, 14, 15, 17], [13, 11, 9, 10, 8, 6, 7, 12, 2, 0, 1, 4, 3, 5, 16, 14, 15, 17], [23, 13, 11, 9, 10, 8, 6, 7, 12, 2, 0, 1, 4, 3, 5, 16, 14, 15, 17], [22, 23, 24, 13, 11, 9, 10, 8, 6, 7, 12, 2, 0, 1, 4, 3, 5, 16, 14, 15, 17], [24, 23, 22, 25, 13, 11, 9, 10, 8, 6, 7, 12, 2, 0, 1, 4, 3, 5, 16, 14, 15, 17], [25, 22, 23, 24, 26, 19, 18, 20, 13, 11, 9, 10, 8, 6, 7, 12, 2, 0, 1, 4, 3, 5, 16, 14, 15, 17], [21, 20, 18, 19, 26, 24, 23, 22, 25, 27, 13, 11, 9, 10, 8, 6, 7, 12, 2, 0, 1, 4, 3, 5, 16, 14, 15, 17], [27, 25, 22, 23, 24, 26, 19, 18, 20, 21, 28, 13, 11, 9, 10, 8, 6, 7, 12, 2, 0, 1, 4, 3, 5, 16, 14, 15, 17], [17, 15, 14, 16, 5, 3, 4, 1, 0, 2, 12, 7, 6, 8, 10, 9, 11, 13, 28, 21, 20, 18, 19, 26, 24, 23, 22, 25, 27, 29], [29, 21, 28, 30, 17, 15, 14, 16, 5, 3, 4, 1, 0, 2, 12, 7, 6, 8, 10, 9, 11, 13, 20, 18, 19, 26, 24, 23, 22, 25, 27], [27, 25, 22, 23, 24, 26, 19, 18, 20, 13, 11, 9, 10, 8, 6, 7, 12, 2, 0, 1, 4, 3, 5, 16, 14, 15, 17, 30, 28, 21, 29, 31], [31, 29, 21, 28, 30, 17, 15, 14, 16, 5, 3, 4, 1, 0, 2, 12, 7, 6, 8, 10, 9, 11, 13, 20, 18, 19, 26, 24, 23, 22, 25, 27, 32], [32, 27, 25, 22, 23, 24, 26, 19, 18, 20, 13, 11, 9, 10, 8, 6, 7, 12, 2, 0, 1, 4, 3, 5, 16, 14, 15, 17, 30, 28, 21, 29, 31, 33]]
def tab_4_1 : List (List Nat) := [[], [], [0, 1], [], [], [3, 4, 1, 0, 2], [2, 0, 1, 4, 3, 5], [6, 2, 0, 1, 4, 3, 5], [5, 3, 4, 1, 0, 2, 6, 7], [5, 3, 4, 1, 0, 2, 6, 7], [5, 3, 4, 1, 0, 2, 6, 7], [10, 5, 3, 4, 1, 0, 2, 6, 7], [8, 9, 10, 11, 5, 3, 4, 1, 0, 2, 6, 7], [5, 3, 4, 1, 0, 2, 6, 7], [5, 3, 4, 1, 0, 2, 6, 7], [5, 3, 4, 1, 0, 2, 6, 7], [15, 5, 3, 4, 1, 0, 2, 6, 7], [13, 14, 15, 16, 11, 10, 9, 8, 12, 5, 3, 4, 1, 0, 2, 6, 7], [12, 8, 9, 10, 11, 16, 15, 14, 13, 17, 5, 3, 4, 1, 0, 2, 6, 7], [7, 6, 2, 0, 1, 4, 3, 5, 17, 13, 14, 15, 16, 11, 10, 9, 8, 12, 18]]
def tab_4_7 : List (List Nat) := [[], [], [1], [], [], [4], [0, 1, 2, 3, 4, 5], [], [], [8], [], [], [11], [7, 8, 9, 10, 11, 12, 5, 4, 3, 2, 1, 0, 6], [6, 0, 1, 2, 3, 4, 5, 12, 11, 10, 9, 8, 7, 13], [14, 6, 0, 1, 2, 3, 4, 5, 12, 11, 10, 9, 8, 7, 13], [13, 7, 8, 9, 10, 11, 12, 5, 4, 3, 2, 1, 0, 6, 14, 15], [15, 14, 6, 0, 1, 2, 3, 4, 5, 12, 11, 10, 9, 8, 7, 13, 16], [16, 13, 7, 8, 9, 10, 11, 12, 5, 4, 3, 2, 1, 0, 6, 14, 15, 17]]
def tab_6_3 : List (List Nat) := [[], [], [1], [0, 1, 2], [], [4], [4, 5, 2, 1, 0, 3], [], [7], [7, 8, 3, 0, 1, 2, 5, 4, 6], [6, 4, 5, 2, 1, 0, 3, 8, 7, 9]]
def tab_6_4 : List (List Nat) := [[], [], [], [1, 2], [], [4, 2, 1, 3], [3, 1, 2, 4, 5], [0, 5, 4, 2, 1, 3, 6], [6, 3, 1, 2, 4, 5, 0, 7], [7, 0, 5, 4, 2, 1, 3, 6, 8], [8, 6, 3, 1, 2, 4, 5, 0, 7, 9], [9, 7, 0, 5, 4, 2, 1, 3, 6, 8, 10]]
def tab_9_9 : List (List Nat) := [[], [], [], [1, 2], [2, 1, 3], [3, 1, 2, 4], [0, 4, 2, 1, 3, 5], [], [], [7, 8], [8, 7, 9], [9, 7, 8, 10], [10, 8, 7, 9, 11, 5, 3, 1, 2, 4, 0, 6], [], [], [13, 14], [14, 13, 15], [15, 13, 14, 16], [16, 14, 13, 15, 17, 6, 0, 4, 2, 1, 3, 5, 11, 9, 7, 8, 10, 12], [12, 10, 8, 7, 9, 11, 5, 3, 1, 2, 4, 0, 6, 17, 15, 13, 14, 16, 18]]
def tab_9_14 : List (List Nat) := [[], [0], [], [], [2, 3], [3, 2, 4], [4, 2, 3, 5], [0, 1, 5, 3, 2, 4, 6], [6, 4, 2, 3, 5, 7, 0, 1], [1, 0, 7, 5, 3, 2, 4, 6, 8], [9, 1, 0, 7, 5, 3, 2, 4, 6, 8], [1, 0, 7, 5, 3, 2, 4, 6, 8], [1, 0, 7, 5, 3, 2, 4, 6, 8], [11, 12, 1, 0, 7, 5, 3, 2, 4, 6, 8], [12, 11, 13, 1, 0, 7, 5, 3, 2, 4, 6, 8], [13, 11, 12, 14, 1, 0, 7, 5, 3, 2, 4, 6, 8], [14, 12, 11, 13, 15, 9, 10, 1, 0, 7, 5, 3, 2, 4, 6, 8], [10, 9, 15, 13, 11, 12, 14, 16, 1, 0, 7, 5, 3, 2, 4, 6, 8], [8, 6, 4, 2, 3, 5, 7, 0, 1, 16, 14, 12, 11, 13, 15, 9, 10, 17], [17, 18, 8, 6, 4, 2, 3, 5, 7, 0, 1, 10, 9, 15, 13, 11, 12, 14, 16], [16, 14, 12, 11, 13, 15, 9, 10, 1, 0, 7, 5, 3, 2, 4, 6, 8, 18, 17, 19], [20, 16, 14, 12, 11, 13, 15, 9, 10, 1, 0, 7, 5, 3, 2, 4, 6, 8, 18, 17, 19], [16, 14, 12, 11, 13, 15, 9, 10, 1, 0, 7, 5, 3, 2, 4, 6, 8, 18, 17, 19], [16, 14, 12, 11, 13, 15, 9, 10, 1, 0, 7, 5, 3, 2, 4, 6, 8, 18, 17, 19], [22, 23, 16, 14, 12, 11, 13, 15, 9, 10, 1, 0, 7, 5, 3, 2, 4, 6, 8, 18, 17, 19], [23, 22, 24, 16, 14, 12, 11, 13, 15, 9, 10, 1, 0, 7, 5, 3, 2, 4, 6, 8, 18, 17, 19], [24, 22, 23, 25, 16, 14, 12, 11, 13, 15, 9, 10, 1, 0, 7, 5, 3, 2, 4, 6, 8, 18, 17, 19], [20, 21, 25, 23, 22, 24, 26, 16, 14, 12, 11, 13, 15, 9, 10, 1, 0, 7, 5, 3, 2, 4, 6, 8, 18, 17, 19], [19, 17, 18, 8, 6, 4, 2, 3, 5, 7, 0, 1, 10, 9, 15, 13, 11, 12, 14, 16, 26, 24, 22, 23, 25, 21, 20, 27]]
def tab_10_27 : List (List Nat) := [[], [0], [], [0, 1, 2], [2, 1, 0, 3]]
def tab_10_28 : List (List Nat) := [[], [0], [0, 1], [1, 0, 2], [3, 1, 0, 2], [1, 0, 2], [5, 1, 0, 2], [1, 0, 2], [7, 1, 0, 2], [5, 6, 7, 8, 1, 0, 2], [3, 4, 8, 7, 6, 5, 9, 1, 0, 2], [2, 0, 1, 9, 5, 6, 7, 8, 4, 3, 10], [10, 8, 7, 6, 5, 9, 11, 2, 0, 1, 3, 4], [4, 3, 1, 0, 2, 11, 9, 5, 6, 7, 8, 10, 12], [13, 4, 3, 1, 0, 2, 11, 9, 5, 6, 7, 8, 10, 12], [4, 3, 1, 0, 2, 11, 9, 5, 6, 7, 8, 10, 12], [15, 4, 3, 1, 0, 2, 11, 9, 5, 6, 7, 8, 10, 12], [13, 14, 15, 16, 4, 3, 1, 0, 2, 11, 9, 5, 6, 7, 8, 10, 12], [12, 10, 8, 7, 6, 5, 9, 11, 2, 0, 1, 3, 4, 16, 15, 14, 13, 17], [17, 15, 16, 18, 12, 10, 8, 7, 6, 5, 9, 11, 2, 0, 1, 3, 4, 13, 14], [14, 13, 4, 3, 1, 0, 2, 11, 9, 5, 6, 7, 8, 10, 12, 18, 16, 15, 17, 19], [20, 14, 13, 4, 3, 1, 0, 2, 11, 9, 5, 6, 7, 8, 10, 12, 18, 16, 15, 17, 19], [14, 13, 4, 3, 1, 0, 2, 11, 9, 5, 6, 7, 8, 10, 12, 18, 16, 15, 17, 19], [22, 14, 13, 4, 3, 1, 0, 2, 11, 9, 5, 6, 7, 8, 10, 12, 18, 16, 15, 17, 19], [22, 23, 14, 13, 4, 3, 1, 0, 2, 11, 9, 5, 6, 7, 8, 10, 12, 18, 16, 15, 17, 19], [23, 22, 24, 20, 21, 14, 13, 4, 3, 1, 0, 2, 11, 9, 5, 6, 7, 8, 10, 12, 18, 16, 15, 17, 19], [19, 17, 15, 16, 18, 12, 10, 8, 7, 6, 5, 9, 11, 2, 0, 1, 3, 4, 13, 14, 21, 20, 24, 22, 23, 25], [26, 19, 17, 15, 16, 18, 12, 10, 8, 7, 6, 5, 9, 11, 2, 0, 1, 3, 4, 13, 14, 21, 20, 24, 22, 23, 25], [19, 17, 15, 16, 18, 12, 10, 8, 7, 6, 5, 9, 11, 2, 0, 1, 3, 4, 13, 14, 21, 20, 24, 22, 23, 25], [28, 19, 17, 15, 16, 18, 12, 10, 8, 7, 6, 5, 9, 11, 2, 0, 1, 3, 4, 13, 14, 21, 20, 24, 22, 23, 25], [26, 27, 28, 29, 19, 17, 15, 16, 18, 12, 10, 8, 7, 6, 5, 9, 11, 2, 0, 1, 3, 4, 13, 14, 21, 20, 24, 22, 23, 25], [25, 23, 22, 24, 20, 21, 29, 28, 27, 26, 30, 14, 13, 4, 3, 1, 0, 2, 11, 9, 5, 6, 7, 8, 10, 12, 18, 16, 15, 17, 19], [30, 26, 27, 28, 29, 21, 20, 24, 22, 23, 25, 31, 14, 13, 4, 3, 1, 0, 2, 11, 9, 5, 6, 7, 8, 10, 12, 18, 16, 15, 17, 19], [19, 17, 15, 16, 18, 12, 10, 8, 7, 6, 5, 9, 11, 2, 0, 1, 3, 4, 13, 14, 31, 25, 23, 22, 24, 20, 21, 29, 28, 27, 26, 30, 32]]
def tab_11_23 : List (List Nat) := [[], [], [0, 1], [1, 0, 2], [], [], [4, 5], [5, 4, 6], [2, 0, 1, 3, 6, 4, 5, 7], [7, 5, 4, 6, 3, 1, 0, 2, 8], [9, 7, 5, 4, 6, 3, 1, 0, 2, 8], [8, 2, 0, 1, 3, 6, 4, 5, 7, 9, 10], [8, 2, 0, 1, 3, 6, 4, 5, 7, 9, 10], [11, 12, 8, 2, 0, 1, 3, 6, 4, 5, 7, 9, 10], [12, 11, 13, 8, 2, 0, 1, 3, 6, 4, 5, 7, 9, 10], [13, 11, 12, 14, 8, 2, 0, 1, 3, 6, 4, 5, 7, 9, 10], [14, 12, 11, 13, 15, 8, 2, 0, 1, 3, 6, 4, 5, 7, 9, 10], [10, 9, 7, 5, 4, 6, 3, 1, 0, 2, 8, 15, 13, 11, 12, 14, 16]]
def tab_11_33 : List (List Nat) := [[], [], [], [], [2, 3], [3, 2, 4], [4, 2, 3, 5], [1, 5, 3, 2, 4, 6], [6, 4, 2, 3, 5, 1, 7], [0, 7, 1, 5, 3, 2, 4, 6, 8], [8, 6, 4, 2, 3, 5, 1, 7, 0, 9]]
def tab_11_34 : List (List Nat) := [[], [], [], [], [2, 3], [3, 2, 4], [4, 2, 3, 5], [0, 1, 5, 3, 2, 4, 6], [], [6, 4, 2, 3, 5, 1, 0, 7, 8]]
def tab_11_40 : List (List Nat) := [[], [], [], [1, 2], [0, 2, 1, 3], [], [], [6], [5, 6, 7], [7, 6, 5, 8, 3, 1, 2, 0, 4], [4, 0, 2, 1, 3, 8, 5, 6, 7, 9]]
def tab_11_47 : List (List Nat) := [[], [], [0, 1], [1, 0, 2], [], [], [4, 5], [5, 4, 6], [6, 4, 5, 7], [2, 0, 1, 3, 7, 5, 4, 6, 8]]
def tab_27_1 : List (List Nat) := [[], [0], [], [2, 0, 1], [1, 0, 2, 3]]
def tab_30_6 : List (List Nat) := [[], [], [0, 1], [1, 0, 2], [], [], [4, 5], [5, 4, 6], [2, 0, 1, 3, 6, 4, 5, 7]]
def tab_31_1 : List (List Nat) := [[], [0], [0, 1], [], [3], [3, 4, 1, 0, 2], [2, 0, 1, 4, 3, 5], [5, 3, 4, 1, 0, 2, 6]]
def tab_33_10 : List (List Nat) := [[], [0], [], [0, 1, 2], [2, 1, 0, 3], [], [5], [5, 6, 3, 0, 1, 2, 4], [4, 2, 1, 0, 3, 6, 5, 7]]
def tab_34_3 : List (List Nat) := [[], [0], [0, 1], [1, 0, 2], [2, 0, 1, 3], [], [5], [5, 6], [6, 5, 7], [7, 5, 6, 8], [3, 1, 0, 2, 4, 8, 6, 5, 7, 9], [], [11], [11, 12], [12, 11, 13], [13, 11, 12, 14], [9, 7, 5, 6, 8, 4, 2, 0, 1, 3, 10, 14, 12, 11, 13, 15], [], [17], [17, 18], [18, 17, 19], [15, 13, 11, 12, 14, 10, 3, 1, 0, 2, 4, 8, 6, 5, 7, 9, 16, 19, 17, 18, 20], [20, 18, 17, 19, 16, 9, 7, 5, 6, 8, 4, 2, 0, 1, 3, 10, 14, 12, 11, 13, 15, 21]]
def tab_34_9 : List (List Nat) := [[], [0], [], [], [3], [2, 3, 4], [4, 3, 2, 5, 0, 1], [1, 0, 5, 2, 3, 4, 6]]
def tab_39_7 : List (List Nat) := [[], [], [1], [1, 2], [2, 1, 3], [0, 3, 1, 2, 4]]
def tab_41_11 : List (List Nat) := [[], [0], [], [2], [], [4], [], [6], [], [6, 7, 8], [8, 7, 6, 9], [2, 3, 4, 5, 9, 6, 7, 8, 10], [10, 8, 7, 6, 9, 5, 4, 3, 2, 11, 0, 1], [1, 0, 11, 2, 3, 4, 5, 9, 6, 7, 8, 10, 12]]
def tab_43_4 : List (List Nat) := [[], [], [0], [1, 0, 2]]
def tab_43_10 : List (List Nat) := [[], [], [0], [1, 0, 2]]
def tab_50_4 : List (List Nat) := [[], [], [0, 1], [1, 0, 2], [2, 0, 1, 3], [], [3, 1, 0, 2, 4, 5]]
def tab_51_11 : List (List Nat) := [[], [], [1], [1, 2], [2, 1, 3], [], [], [5, 6], [6, 5, 7], [3, 1, 2, 4, 7, 5, 6, 8], [0, 8, 6, 5, 7, 4, 2, 1, 3, 9], [10, 0, 8, 6, 5, 7, 4, 2, 1, 3, 9], [10, 11, 0, 8, 6, 5, 7, 4, 2, 1, 3, 9]]
def tab_53_8 : List (List Nat) := [[], [], [], [], [], [4], [], [6], [2, 3, 4, 5, 6, 7], [], [9], [1, 7, 6, 5, 4, 3, 2, 8, 9, 10], [10, 9, 8, 2, 3, 4, 5, 6, 7, 1, 11], [0, 11, 1, 9, 10, 12, 7, 6, 5, 4, 3, 2, 8], [8, 2, 3, 4, 5, 6, 7, 12, 10, 9, 1, 11, 0, 13]]
def tab_54_9 : List (List Nat) := [[], [], [1], [1, 2], [2, 1, 3], [], [5], [5, 6], [6, 5, 7], [], [9], [9, 10], [10, 9, 11], [3, 1, 2, 4, 7, 5, 6, 8, 11, 9, 10, 12], [12, 10, 9, 11, 8, 6, 5, 7, 4, 2, 1, 3, 13], [0, 13, 3, 1, 2, 4, 7, 5, 6, 8, 11, 9, 10, 12, 14], [14, 12, 10, 9, 11, 8, 6, 5, 7, 4, 2, 1, 3, 13, 0, 15]]
def tab_63_1 : List (List Nat) := [[], [0], [0, 1], [], [3], [3, 4], [4, 3, 5, 1, 0, 2], [2, 0, 1, 5, 3, 4, 6], [6, 4, 3, 5, 1, 0, 2, 7]]
def tab_71_1 : List (List Nat) := [[], [0], [0, 1], [1, 0, 2], [2, 0, 1, 3], [], [5], [5, 6], [6, 5, 7], [7, 5, 6, 8], [3, 1, 0, 2, 4, 8, 6, 5, 7, 9], [], [11], [11, 12], [12, 11, 13], [13, 11, 12, 14], [9, 7, 5, 6, 8, 4, 2, 0, 1, 3, 10, 14, 12, 11, 13, 15], [], [17], [17, 18], [18, 17, 19], [15, 13, 11, 12, 14, 10, 3, 1, 0, 2, 4, 8, 6, 5, 7, 9, 16, 19, 17, 18, 20], [20, 18, 17, 19, 16, 9, 7, 5, 6, 8, 4, 2, 0, 1, 3, 10, 14, 12, 11, 13, 15, 21]]
def tab_76_5 : List (List Nat) := [[], [], [0, 1], [], [], [3, 4], [1, 0, 2, 4, 3, 5], [5, 3, 4, 2, 0, 1, 6]]
def tab_79_6 : List (List Nat) := [[], [0], [], [0, 1, 2], [2, 1, 0, 3], [], [5], [], [5, 6, 7], [7, 6, 5, 8], [3, 0, 1, 2, 4, 8, 5, 6, 7, 9]]
def tab_80_6 : List (List Nat) := [[], [0], [], [0, 1, 2], [2, 1, 0, 3], [], [5], [], [5, 6, 7], [7, 6, 5, 8], [3, 0, 1, 2, 4, 8, 5, 6, 7, 9]]
def tab_81_6 : List (List Nat) := [[], [0], [], [0, 1, 2], [2, 1, 0, 3], [], [5], [], [5, 6, 7], [7, 6, 5, 8], [3, 0, 1, 2, 4, 8, 5, 6, 7, 9]]
def tab_84_4 : List (List Nat) := [[], [0], [], [0, 1, 2], [2, 1, 0, 3], [3, 0, 1, 2, 4], [4, 2, 1, 0, 3, 5], [5, 3, 0, 1, 2, 4, 6], [7, 5, 3, 0, 1, 2, 4, 6], [5, 3, 0, 1, 2, 4, 6], [7, 8, 9, 5, 3, 0, 1, 2, 4, 6], [9, 8, 7, 10, 5, 3, 0, 1, 2, 4, 6], [10, 7, 8, 9, 11, 5, 3, 0, 1, 2, 4, 6], [6, 4, 2, 1, 0, 3, 5, 11, 9, 8, 7, 10, 12], [12, 10, 7, 8, 9, 11, 13, 5, 3, 0, 1, 2, 4, 6], [6, 4, 2, 1, 0, 3, 5, 13, 11, 9, 8, 7, 10, 12, 14], [15, 6, 4, 2, 1, 0, 3, 5, 13, 11, 9, 8, 7, 10, 12, 14], [15, 16, 6, 4, 2, 1, 0, 3, 5, 13, 11, 9, 8, 7, 10, 12, 14], [14, 12, 10, 7, 8, 9, 11, 13, 5, 3, 0, 1, 2, 4, 6, 16, 15, 17], [18, 14, 12, 10, 7, 8, 9, 11, 13, 5, 3, 0, 1, 2, 4, 6, 16, 15, 17], [14, 12, 10, 7, 8, 9, 11, 13, 5, 3, 0, 1, 2, 4, 6, 16, 15, 17], [20, 14, 12, 10, 7, 8, 9, 11, 13, 5, 3, 0, 1, 2, 4, 6, 16, 15, 17], [18, 19, 20, 21, 14, 12, 10, 7, 8, 9, 11, 13, 5, 3, 0, 1, 2, 4, 6, 16, 15, 17], [21, 20, 19, 18, 22, 14, 12, 10, 7, 8, 9, 11, 13, 5, 3, 0, 1, 2, 4, 6, 16, 15, 17], [14, 12, 10, 7, 8, 9, 11, 13, 5, 3, 0, 1, 2, 4, 6, 16, 15, 17], [24, 14, 12, 10, 7, 8, 9, 11, 13, 5, 3, 0, 1, 2, 4, 6, 16, 15, 17], [14, 12, 10, 7, 8, 9, 11, 13, 5, 3, 0, 1, 2, 4, 6, 16, 15, 17], [24, 25, 26, 14, 12, 10, 7, 8, 9, 11, 13, 5, 3, 0, 1, 2, 4, 6, 16, 15, 17], [26, 25, 24, 27, 14, 12, 10, 7, 8, 9, 11, 13, 5, 3, 0, 1, 2, 4, 6, 16, 15, 17], [22, 18, 19, 20, 21, 23, 27, 24, 25, 26, 28, 14, 12, 10, 7, 8, 9, 11, 13, 5, 3, 0, 1, 2, 4, 6, 16, 15, 17], [17, 15, 16, 28, 26, 25, 24, 27, 23, 21, 20, 19, 18, 22, 29, 6, 4, 2, 1, 0, 3, 5, 13, 11, 9, 8, 7, 10, 12, 14], [14, 12, 10, 7, 8, 9, 11, 13, 5, 3, 0, 1, 2, 4, 6, 29, 22, 18, 19, 20, 21, 23, 27, 24, 25, 26, 28, 16, 15, 17, 30]]
end Go.WL.T1
namespace Go.WL.T1
open Go.WL Go.Proofs
def tab : List (Nat × TI) := [
  (2, { k := .int .i64, sh := .lf, bytes := 8, zero := .sc (.int .i64 0) }),
  (3, { k := .int .i64, sh := .lf, bytes := 8, zero := .sc (.int .i64 0) }),
  (4, { k := .bool, sh := .lf, bytes := 1, zero := .sc (.bool false) }),
  (5, { k := .int .u8, sh := .lf, bytes := 1, zero := .sc (.int .u8 0) }),
  (9, { k := .str, sh := .lf, bytes := 16, zero := .sc (.string .empty) }),
  (12, { k := .int .u64, sh := .lf, bytes := 8, zero := .sc (.int .u64 0) }),
  (21, { k := .int .i32, sh := .lf, bytes := 4, zero := .sc (.int .i32 0) }),
  (22, { k := .slice 5, sh := .lf, bytes := 24, zero := .sl (.lf) [] .ex }),
  (23, { k := .int .u16, sh := .lf, bytes := 2, zero := .sc (.int .u16 0) }),
  (25, { k := .int .u32, sh := .lf, bytes := 4, zero := .sc (.int .u32 0) }),
  (29, { k := .strct [(3, 0), (3, 1)], sh := .nd [.lf, .lf], bytes := 16, zero := .st [.sc (.int .i64 0), .sc (.int .i64 0)] }),
  (30, { k := .strct [(3, 0), (3, 1)], sh := .nd [.lf, .lf], bytes := 16, zero := .st [.sc (.int .i64 0), .sc (.int .i64 0)] }),
  (35, { k := .slice 3, sh := .lf, bytes := 24, zero := .sl (.lf) [] .ex }),
  (37, { k := .arr 22 4, sh := .ar 22 (.lf), bytes := 22, zero := .ar 22 (.lf) (List.replicate 22 (.sc (.bool false))) }),
  (39, { k := .int .u64, sh := .lf, bytes := 8, zero := .sc (.int .u64 0) }),
  (40, { k := .arr 32 5, sh := .ar 32 (.lf), bytes := 32, zero := .ar 32 (.lf) (List.replicate 32 (.sc (.int .u8 0))) }),
  (41, { k := .arr 32 5, sh := .ar 32 (.lf), bytes := 32, zero := .ar 32 (.lf) (List.replicate 32 (.sc (.int .u8 0))) }),
  (42, { k := .strct [(39, 0), (22, 1), (41, 2)], sh := .nd [.lf, .lf, .ar 32 (.lf)], bytes := 64, zero := .st [.sc (.int .u64 0), .sl (.lf) [] .ex, .ar 32 (.lf) (List.replicate 32 (.sc (.int .u8 0)))] }),
  (43, { k := .strct [(39, 0), (22, 1), (41, 2)], sh := .nd [.lf, .lf, .ar 32 (.lf)], bytes := 64, zero := .st [.sc (.int .u64 0), .sl (.lf) [] .ex, .ar 32 (.lf) (List.replicate 32 (.sc (.int .u8 0)))] }),
  (50, { k := .int .i64, sh := .lf, bytes := 8, zero := .sc (.int .i64 0) }),
  (58, { k := .int .u64, sh := .lf, bytes := 8, zero := .sc (.int .u64 0) }),
  (60, { k := .slice 43, sh := .lf, bytes := 24, zero := .sl (.nd [.lf, .lf, .ar 32 (.lf)]) [] .ex }),
  (61, { k := .ptr 135, sh := .lf, bytes := 8, zero := .sc (.pointer none) }),
  (67, { k := .strct [(22, 0), (3, 1), (4, 2)], sh := .nd [.lf, .lf, .lf], bytes := 40, zero := .st [.sl (.lf) [] .ex, .sc (.int .i64 0), .sc (.bool false)] }),
  (68, { k := .strct [(22, 0), (3, 1), (4, 2)], sh := .nd [.lf, .lf, .lf], bytes := 40, zero := .st [.sl (.lf) [] .ex, .sc (.int .i64 0), .sc (.bool false)] }),
  (79, { k := .slice 85, sh := .lf, bytes := 24, zero := .sl (.nd [.lf, .lf, .lf]) [] .ex }),
  (80, { k := .ptr 116, sh := .lf, bytes := 8, zero := .sc (.pointer none) }),
  (83, { k := .slice 88, sh := .lf, bytes := 24, zero := .sl (.nd [.ar 32 (.lf), .lf, .lf, .lf]) [] .ex }),
  (84, { k := .strct [(3, 0), (5, 1), (3, 2)], sh := .nd [.lf, .lf, .lf], bytes := 24, zero := .st [.sc (.int .i64 0), .sc (.int .u8 0), .sc (.int .i64 0)] }),
  (85, { k := .strct [(3, 0), (5, 1), (3, 2)], sh := .nd [.lf, .lf, .lf], bytes := 24, zero := .st [.sc (.int .i64 0), .sc (.int .u8 0), .sc (.int .i64 0)] }),
  (87, { k := .strct [(41, 0), (3, 32), (3, 33), (3, 34)], sh := .nd [.ar 32 (.lf), .lf, .lf, .lf], bytes := 56, zero := .st [.ar 32 (.lf) (List.replicate 32 (.sc (.int .u8 0))), .sc (.int .i64 0), .sc (.int .i64 0), .sc (.int .i64 0)] }),
  (88, { k := .strct [(41, 0), (3, 32), (3, 33), (3, 34)], sh := .nd [.ar 32 (.lf), .lf, .lf, .lf], bytes := 56, zero := .st [.ar 32 (.lf) (List.replicate 32 (.sc (.int .u8 0))), .sc (.int .i64 0), .sc (.int .i64 0), .sc (.int .i64 0)] }),
  (91, { k := .slice 109, sh := .lf, bytes := 24, zero := .sl (.nd [.lf, .lf, .lf, .nd [.lf, .lf, .lf, .lf, .ar 32 (.lf), .lf, .ar 32 (.lf), .ar 32 (.lf)], .nd [.nd [.lf, .lf, .lf, .lf, .ar 32 (.lf), .lf, .ar 32 (.lf), .ar 32 (.lf)], .lf], .nd [.lf, .lf, .lf, .ar 32 (.lf), .lf, .ar 32 (.lf)], .nd [.ar 32 (.lf), .lf, .lf, .lf, .lf], .ar 32 (.lf), .nd [.lf, .lf, .lf, .lf, .lf, .lf, .lf]]) [] .ex }),
  (96, { k := .strct [(3, 0), (3, 1), (3, 2), (3, 3), (41, 4), (3, 36), (41, 37), (41, 69)], sh := .nd [.lf, .lf, .lf, .lf, .ar 32 (.lf), .lf, .ar 32 (.lf), .ar 32 (.lf)], bytes := 136, zero := .st [.sc (.int .i64 0), .sc (.int .i64 0), .sc (.int .i64 0), .sc (.int .i64 0), .ar 32 (.lf) (List.replicate 32 (.sc (.int .u8 0))), .sc (.int .i64 0), .ar 32 (.lf) (List.replicate 32 (.sc (.int .u8 0))), .ar 32 (.lf) (List.replicate 32 (.sc (.int .u8 0)))] }),
  (97, { k := .strct [(3, 0), (3, 1), (3, 2), (3, 3), (41, 4), (3, 36), (41, 37), (41, 69)], sh := .nd [.lf, .lf, .lf, .lf, .ar 32 (.lf), .lf, .ar 32 (.lf), .ar 32 (.lf)], bytes := 136, zero := .st [.sc (.int .i64 0), .sc (.int .i64 0), .sc (.int .i64 0), .sc (.int .i64 0), .ar 32 (.lf) (List.replicate 32 (.sc (.int .u8 0))), .sc (.int .i64 0), .ar 32 (.lf) (List.replicate 32 (.sc (.int .u8 0))), .ar 32 (.lf) (List.replicate 32 (.sc (.int .u8 0)))] }),
  (98, { k := .slice 156, sh := .lf, bytes := 24, zero := .sl (.nd [.lf, .ar 32 (.lf)]) [] .ex }),
  (99, { k := .strct [(97, 0), (98, 101)], sh := .nd [.nd [.lf, .lf, .lf, .lf, .ar 32 (.lf), .lf, .ar 32 (.lf), .ar 32 (.lf)], .lf], bytes := 160, zero := .st [.st [.sc (.int .i64 0), .sc (.int .i64 0), .sc (.int .i64 0), .sc (.int .i64 0), .ar 32 (.lf) (List.replicate 32 (.sc (.int .u8 0))), .sc (.int .i64 0), .ar 32 (.lf) (List.replicate 32 (.sc (.int .u8 0))), .ar 32 (.lf) (List.replicate 32 (.sc (.int .u8 0)))], .sl (.nd [.lf, .ar 32 (.lf)]) [] .ex] }),
  (100, { k := .strct [(97, 0), (98, 101)], sh := .nd [.nd [.lf, .lf, .lf, .lf, .ar 32 (.lf), .lf, .ar 32 (.lf), .ar 32 (.lf)], .lf], bytes := 160, zero := .st [.st [.sc (.int .i64 0), .sc (.int .i64 0), .sc (.int .i64 0), .sc (.int .i64 0), .ar 32 (.lf) (List.replicate 32 (.sc (.int .u8 0))), .sc (.int .i64 0), .ar 32 (.lf) (List.replicate 32 (.sc (.int .u8 0))), .ar 32 (.lf) (List.replicate 32 (.sc (.int .u8 0)))], .sl (.nd [.lf, .ar 32 (.lf)]) [] .ex] }),
  (101, { k := .strct [(3, 0), (3, 1), (3, 2), (41, 3), (35, 35), (41, 36)], sh := .nd [.lf, .lf, .lf, .ar 32 (.lf), .lf, .ar 32 (.lf)], bytes := 112, zero := .st [.sc (.int .i64 0), .sc (.int .i64 0), .sc (.int .i64 0), .ar 32 (.lf) (List.replicate 32 (.sc (.int .u8 0))), .sl (.lf) [] .ex, .ar 32 (.lf) (List.replicate 32 (.sc (.int .u8 0)))] }),
  (102, { k := .strct [(3, 0), (3, 1), (3, 2), (41, 3), (35, 35), (41, 36)], sh := .nd [.lf, .lf, .lf, .ar 32 (.lf), .lf, .ar 32 (.lf)], bytes := 112, zero := .st [.sc (.int .i64 0), .sc (.int .i64 0), .sc (.int .i64 0), .ar 32 (.lf) (List.replicate 32 (.sc (.int .u8 0))), .sl (.lf) [] .ex, .ar 32 (.lf) (List.replicate 32 (.sc (.int .u8 0)))] }),
  (103, { k := .slice 107, sh := .lf, bytes := 24, zero := .sl (.nd [.lf, .lf, .lf, .lf, .lf, .lf, .lf]) [] .ex }),
  (104, { k := .strct [(41, 0), (3, 32), (3, 33), (3, 34), (103, 35)], sh := .nd [.ar 32 (.lf), .lf, .lf, .lf, .lf], bytes := 80, zero := .st [.ar 32 (.lf) (List.replicate 32 (.sc (.int .u8 0))), .sc (.int .i64 0), .sc (.int .i64 0), .sc (.int .i64 0), .sl (.nd [.lf, .lf, .lf, .lf, .lf, .lf, .lf]) [] .ex] }),
  (105, { k := .strct [(41, 0), (3, 32), (3, 33), (3, 34), (103, 35)], sh := .nd [.ar 32 (.lf), .lf, .lf, .lf, .lf], bytes := 80, zero := .st [.ar 32 (.lf) (List.replicate 32 (.sc (.int .u8 0))), .sc (.int .i64 0), .sc (.int .i64 0), .sc (.int .i64 0), .sl (.nd [.lf, .lf, .lf, .lf, .lf, .lf, .lf]) [] .ex] }),
  (106, { k := .strct [(3, 0), (3, 1), (3, 2), (3, 3), (3, 4), (9, 5), (9, 6)], sh := .nd [.lf, .lf, .lf, .lf, .lf, .lf, .lf], bytes := 72, zero := .st [.sc (.int .i64 0), .sc (.int .i64 0), .sc (.int .i64 0), .sc (.int .i64 0), .sc (.int .i64 0), .sc (.string .empty), .sc (.string .empty)] }),
  (107, { k := .strct [(3, 0), (3, 1), (3, 2), (3, 3), (3, 4), (9, 5), (9, 6)], sh := .nd [.lf, .lf, .lf, .lf, .lf, .lf, .lf], bytes := 72, zero := .st [.sc (.int .i64 0), .sc (.int .i64 0), .sc (.int .i64 0), .sc (.int .i64 0), .sc (.int .i64 0), .sc (.string .empty), .sc (.string .empty)] }),
  (108, { k := .strct [(3, 0), (3, 1), (3, 2), (97, 3), (100, 104), (102, 206), (105, 274), (41, 310), (107, 342)], sh := .nd [.lf, .lf, .lf, .nd [.lf, .lf, .lf, .lf, .ar 32 (.lf), .lf, .ar 32 (.lf), .ar 32 (.lf)], .nd [.nd [.lf, .lf, .lf, .lf, .ar 32 (.lf), .lf, .ar 32 (.lf), .ar 32 (.lf)], .lf], .nd [.lf, .lf, .lf, .ar 32 (.lf), .lf, .ar 32 (.lf)], .nd [.ar 32 (.lf), .lf, .lf, .lf, .lf], .ar 32 (.lf), .nd [.lf, .lf, .lf, .lf, .lf, .lf, .lf]], bytes := 616, zero := .st [.sc (.int .i64 0), .sc (.int .i64 0), .sc (.int .i64 0), .st [.sc (.int .i64 0), .sc (.int .i64 0), .sc (.int .i64 0), .sc (.int .i64 0), .ar 32 (.lf) (List.replicate 32 (.sc (.int .u8 0))), .sc (.int .i64 0), .ar 32 (.lf) (List.replicate 32 (.sc (.int .u8 0))), .ar 32 (.lf) (List.replicate 32 (.sc (.int .u8 0)))], .st [.st [.sc (.int .i64 0), .sc (.int .i64 0), .sc (.int .i64 0), .sc (.int .i64 0), .ar 32 (.lf) (List.replicate 32 (.sc (.int .u8 0))), .sc (.int .i64 0), .ar 32 (.lf) (List.replicate 32 (.sc (.int .u8 0))), .ar 32 (.lf) (List.replicate 32 (.sc (.int .u8 0)))], .sl (.nd [.lf, .ar 32 (.lf)]) [] .ex], .st [.sc (.int .i64 0), .sc (.int .i64 0), .sc (.int .i64 0), .ar 32 (.lf) (List.replicate 32 (.sc (.int .u8 0))), .sl (.lf) [] .ex, .ar 32 (.lf) (List.replicate 32 (.sc (.int .u8 0)))], .st [.ar 32 (.lf) (List.replicate 32 (.sc (.int .u8 0))), .sc (.int .i64 0), .sc (.int .i64 0), .sc (.int .i64 0), .sl (.nd [.lf, .lf, .lf, .lf, .lf, .lf, .lf]) [] .ex], .ar 32 (.lf) (List.replicate 32 (.sc (.int .u8 0))), .st [.sc (.int .i64 0), .sc (.int .i64 0), .sc (.int .i64 0), .sc (.int .i64 0), .sc (.int .i64 0), .sc (.string .empty), .sc (.string .empty)]] }),
  (109, { k := .strct [(3, 0), (3, 1), (3, 2), (97, 3), (100, 104), (102, 206), (105, 274), (41, 310), (107, 342)], sh := .nd [.lf, .lf, .lf, .nd [.lf, .lf, .lf, .lf, .ar 32 (.lf), .lf, .ar 32 (.lf), .ar 32 (.lf)], .nd [.nd [.lf, .lf, .lf, .lf, .ar 32 (.lf), .lf, .ar 32 (.lf), .ar 32 (.lf)], .lf], .nd [.lf, .lf, .lf, .ar 32 (.lf), .lf, .ar 32 (.lf)], .nd [.ar 32 (.lf), .lf, .lf, .lf, .lf], .ar 32 (.lf), .nd [.lf, .lf, .lf, .lf, .lf, .lf, .lf]], bytes := 616, zero := .st [.sc (.int .i64 0), .sc (.int .i64 0), .sc (.int .i64 0), .st [.sc (.int .i64 0), .sc (.int .i64 0), .sc (.int .i64 0), .sc (.int .i64 0), .ar 32 (.lf) (List.replicate 32 (.sc (.int .u8 0))), .sc (.int .i64 0), .ar 32 (.lf) (List.replicate 32 (.sc (.int .u8 0))), .ar 32 (.lf) (List.replicate 32 (.sc (.int .u8 0)))], .st [.st [.sc (.int .i64 0), .sc (.int .i64 0), .sc (.int .i64 0), .sc (.int .i64 0), .ar 32 (.lf) (List.replicate 32 (.sc (.int .u8 0))), .sc (.int .i64 0), .ar 32 (.lf) (List.replicate 32 (.sc (.int .u8 0))), .ar 32 (.lf) (List.replicate 32 (.sc (.int .u8 0)))], .sl (.nd [.lf, .ar 32 (.lf)]) [] .ex], .st [.sc (.int .i64 0), .sc (.int .i64 0), .sc (.int .i64 0), .ar 32 (.lf) (List.replicate 32 (.sc (.int .u8 0))), .sl (.lf) [] .ex, .ar 32 (.lf) (List.replicate 32 (.sc (.int .u8 0)))], .st [.ar 32 (.lf) (List.replicate 32 (.sc (.int .u8 0))), .sc (.int .i64 0), .sc (.int .i64 0), .sc (.int .i64 0), .sl (.nd [.lf, .lf, .lf, .lf, .lf, .lf, .lf]) [] .ex], .ar 32 (.lf) (List.replicate 32 (.sc (.int .u8 0))), .st [.sc (.int .i64 0), .sc (.int .i64 0), .sc (.int .i64 0), .sc (.int .i64 0), .sc (.int .i64 0), .sc (.string .empty), .sc (.string .empty)]] }),
  (111, { k := .slice 41, sh := .lf, bytes := 24, zero := .sl (.ar 32 (.lf)) [] .ex }),
  (114, { k := .slice 140, sh := .lf, bytes := 24, zero := .sl (.nd [.ar 32 (.lf), .lf, .lf]) [] .ex }),
  (115, { k := .strct [(3, 0), (3, 1), (114, 2)], sh := .nd [.lf, .lf, .lf], bytes := 40, zero := .st [.sc (.int .i64 0), .sc (.int .i64 0), .sl (.nd [.ar 32 (.lf), .lf, .lf]) [] .ex] }),
  (116, { k := .strct [(3, 0), (3, 1), (114, 2)], sh := .nd [.lf, .lf, .lf], bytes := 40, zero := .st [.sc (.int .i64 0), .sc (.int .i64 0), .sl (.nd [.ar 32 (.lf), .lf, .lf]) [] .ex] }),
  (119, { k := .strct [(41, 0), (3, 32), (3, 33), (50, 34)], sh := .nd [.ar 32 (.lf), .lf, .lf, .lf], bytes := 56, zero := .st [.ar 32 (.lf) (List.replicate 32 (.sc (.int .u8 0))), .sc (.int .i64 0), .sc (.int .i64 0), .sc (.int .i64 0)] }),
  (120, { k := .strct [(41, 0), (3, 32), (3, 33), (50, 34)], sh := .nd [.ar 32 (.lf), .lf, .lf, .lf], bytes := 56, zero := .st [.ar 32 (.lf) (List.replicate 32 (.sc (.int .u8 0))), .sc (.int .i64 0), .sc (.int .i64 0), .sc (.int .i64 0)] }),
  (129, { k := .slice 22, sh := .lf, bytes := 24, zero := .sl (.lf) [] .ex }),
  (134, { k := .strct [(22, 0), (4, 1)], sh := .nd [.lf, .lf], bytes := 32, zero := .st [.sl (.lf) [] .ex, .sc (.bool false)] }),
  (135, { k := .strct [(22, 0), (4, 1)], sh := .nd [.lf, .lf], bytes := 32, zero := .st [.sl (.lf) [] .ex, .sc (.bool false)] }),
  (139, { k := .strct [(41, 0), (3, 32), (3, 33)], sh := .nd [.ar 32 (.lf), .lf, .lf], bytes := 48, zero := .st [.ar 32 (.lf) (List.replicate 32 (.sc (.int .u8 0))), .sc (.int .i64 0), .sc (.int .i64 0)] }),
  (140, { k := .strct [(41, 0), (3, 32), (3, 33)], sh := .nd [.ar 32 (.lf), .lf, .lf], bytes := 48, zero := .st [.ar 32 (.lf) (List.replicate 32 (.sc (.int .u8 0))), .sc (.int .i64 0), .sc (.int .i64 0)] }),
  (142, { k := .ptr 140, sh := .lf, bytes := 8, zero := .sc (.pointer none) }),
  (155, { k := .strct [(3, 0), (41, 1)], sh := .nd [.lf, .ar 32 (.lf)], bytes := 40, zero := .st [.sc (.int .i64 0), .ar 32 (.lf) (List.replicate 32 (.sc (.int .u8 0)))] }),
  (156, { k := .strct [(3, 0), (41, 1)], sh := .nd [.lf, .ar 32 (.lf)], bytes := 40, zero := .st [.sc (.int .i64 0), .ar 32 (.lf) (List.replicate 32 (.sc (.int .u8 0)))] }),
  (169, { k := .ptr 5, sh := .lf, bytes := 8, zero := .sc (.pointer none) })]

def D : Tabs := ⟨tab, []⟩
theorem tabOK : TabOK Try.prog D := tabOK_of (by decide +kernel)
theorem hmix : Try.prog.follows .mixedOrders = true := by decide +kernel
end Go.WL.T1
namespace Go.WL.T1
open Go.WL Go.Proofs
theorem c_view (v : Int) : FnOK Try.prog D 64 [.sc (.int .i64 v)] [] (fun r st => r = .sc (.bool (decide (1 ≤ v ∧ v ≤ 1099511627776))) ∧ st = []) := by
  refine fnok_of_W hmix tabOK Try.func64 rfl rfl (Nat.le_of_ble_eq_true rfl) ?_
  conv => whnf
  refine Branch.of (fun h => ?_) (fun h => ?_) <;> rw [h] <;> conv => whnf
  all_goals refine ⟨false, [], ?_⟩
  all_goals conv => whnf
  all_goals refine ⟨?_, rfl⟩
  all_goals congr 2
  all_goals simp at h ⊢ <;> omega
theorem c_node (v : Int) : FnOK Try.prog D 89 [.sc (.int .i64 v)] [] (fun r st => r = .sc (.bool (decide (1 ≤ v ∧ v ≤ 21))) ∧ st = []) := by
  refine fnok_of_W hmix tabOK Try.func89 rfl rfl (Nat.le_of_ble_eq_true rfl) ?_
  conv => whnf
  refine Branch.of (fun h => ?_) (fun h => ?_) <;> rw [h] <;> conv => whnf
  all_goals refine ⟨false, [], ?_⟩
  all_goals conv => whnf
  all_goals refine ⟨?_, rfl⟩
  all_goals congr 2
  all_goals simp at h ⊢ <;> omega
/-- Is there a number of parts? -/
def nok (n : Int) : Prop := 1 ≤ n ∧ n ≤ 21 ∧ n % 2 = 1
instance (n : Int) : Decidable (nok n) := by unfold nok; infer_instance
def quorum (n : Int) : Int := if nok n then n / 2 + 1 else 0
theorem quorum_yes {n : Int} (h : nok n) : quorum n = n / 2 + 1 := if_pos h
theorem quorum_no {n : Int} (h : ¬ nok n) : quorum n = 0 := if_neg h
theorem c_quorum (v : Int) : FnOK Try.prog D 65 [.sc (.int .i64 v)] [] (fun r st => r = .sc (.int .i64 (quorum v)) ∧ st = []) := by
  refine fnok_of_W hmix tabOK Try.func65 rfl rfl (Nat.le_of_ble_eq_true rfl) ?_
  conv => whnf
  refine (c_node v).mono fun r st e => ?_
  obtain ⟨rfl, rfl⟩ := e
  conv => whnf
  refine Branch.of (fun h => ?_) (fun h => ?_) <;> rw [h] <;> conv => whnf
  · refine ⟨false, [], ?_⟩
    conv => whnf
    refine ⟨?_, rfl⟩
    congr 2
    simp only [Bool.not_eq_true', decide_eq_false_iff_not] at h
    rw [quorum_no (by unfold nok; omega)]
  · refine ⟨by omega, ?_⟩
    simp only [Bool.not_eq_false', decide_eq_true_eq] at h
    conv => whnf
    refine Branch.of (fun h1 => ?_) (fun h1 => ?_) <;> rw [h1] <;> conv => whnf
    · refine ⟨false, [], ?_⟩
      conv => whnf
      refine ⟨?_, rfl⟩
      congr 2
      simp only [beq_iff_eq] at h1
      rw [Int.tmod_eq_emod_of_nonneg (by omega)] at h1
      rw [quorum_no (by unfold nok; omega)]
    · refine ⟨by omega, ?_⟩
      conv => whnf
      refine ⟨false, [], ?_⟩
      conv => whnf
      refine ⟨?_, rfl⟩
      congr 2
      simp only [beq_eq_false_iff_ne] at h1
      rw [Int.tmod_eq_emod_of_nonneg (by omega)] at h1
      rw [quorum_yes (by unfold nok; omega), Int.tdiv_eq_ediv_of_nonneg (by omega), w64 (x := v / 2) (by omega) (by omega), w64 (by omega) (by omega)]
theorem c_refquorum (v : Int) : FnOK Try.prog D 25 [.sc (.int .i64 v)] [] (fun r st => r = .sc (.int .i64 (quorum v)) ∧ st = []) := by
  refine fnok_of_W hmix tabOK Try.func25 rfl rfl (Nat.le_of_ble_eq_true rfl) ?_
  conv => whnf
  refine ⟨false, [0, 3], fun τ => ∃ f : Int, 0 ≤ f ∧ f ≤ 11 ∧ (∀ g : Int, 0 ≤ g → g < f → v ≠ 2 * g + 1) ∧ τ = ⟨15, [(0, .sc (.int .i64 v)), (3, .sc (.int .i64 f))], ⟨[], [], 0⟩⟩, fun τ => (11 - slotI τ 3).toNat, ?_, ?_⟩
  · conv => whnf
    exact ⟨0, by omega, by omega, fun g h1 h2 => by omega, rfl⟩
  · rintro τ ⟨f, h1, h2, h3, rfl⟩
    conv => whnf
    refine Branch.of (fun h => ?_) (fun h => ?_) <;> rw [h] <;> conv => whnf
    · simp only [decide_eq_true_eq] at h
      refine Branch.of (fun h4 => ?_) (fun h4 => ?_) <;> rw [h4] <;> conv => whnf
      · refine ⟨false, [], ?_⟩
        conv => whnf
        refine ⟨?_, rfl⟩
        congr 2
        rw [w64 (x := 2 * f) (by omega) (by omega), w64 (by omega) (by omega)] at h4
        simp only [beq_iff_eq] at h4
        rw [w64 (by omega) (by omega), quorum_yes (by unfold nok; omega)]
        omega
      · rw [w64 (x := f + 1) (by omega) (by omega)]
        refine ⟨⟨f + 1, by omega, by omega, fun g h5 h6 => ?_, rfl⟩, ?_⟩
        · rw [w64 (x := 2 * f) (by omega) (by omega), w64 (by omega) (by omega)] at h4
          simp only [beq_eq_false_iff_ne] at h4
          by_cases e : g = f
          · rw [e]; exact h4
          · exact h3 g h5 (by omega)
        · show (11 - (f + 1)).toNat < (11 - f).toNat
          omega
    · refine ⟨false, [], ?_⟩
      conv => whnf
      refine ⟨?_, rfl⟩
      congr 2
      simp only [decide_eq_false_iff_not] at h
      rw [quorum_no]
      rintro ⟨k1, k2, k3⟩
      exact h3 (v / 2) (by omega) (by omega) (by omega)

def vok (v : Int) : Prop := 1 ≤ v ∧ v ≤ 1099511627776
instance (v : Int) : Decidable (vok v) := by unfold vok; infer_instance
/-- The leader of a view. -/
def lead (v n : Int) : Int := if vok v ∧ nok n then (v - 1) % n + 1 else 0
theorem lead_yes {v n : Int} (h : vok v) (h2 : nok n) : lead v n = (v - 1) % n + 1 := if_pos ⟨h, h2⟩
theorem lead_no {v n : Int} (h : ¬ (vok v ∧ nok n)) : lead v n = 0 := if_neg h
theorem q_zero {n : Int} : quorum n = 0 ↔ ¬ nok n := by
  by_cases h : nok n
  · rw [quorum_yes h]
    unfold nok at h
    constructor
    · intro e; omega
    · intro e; exact absurd h e
  · rw [quorum_no h]; simp [h]
theorem c_of (v n : Int) : FnOK Try.prog D 18 [.sc (.int .i64 v), .sc (.int .i64 n)] [] (fun r st => r = .sc (.int .i64 (lead v n)) ∧ st = []) := by
  refine fnok_of_W hmix tabOK Try.func18 rfl rfl (Nat.le_of_ble_eq_true rfl) ?_
  conv => whnf
  refine (c_view v).mono fun r st e => ?_
  obtain ⟨rfl, rfl⟩ := e
  conv => whnf
  refine Branch.of (fun h => ?_) (fun h => ?_) <;> rw [h] <;> conv => whnf
  · refine ⟨false, [], ?_⟩
    conv => whnf
    refine ⟨?_, rfl⟩
    congr 2
    simp only [Bool.not_eq_true', decide_eq_false_iff_not] at h
    rw [lead_no (fun e => h e.1)]
  · simp only [Bool.not_eq_false', decide_eq_true_eq] at h
    refine (c_quorum n).mono fun r st e => ?_
    obtain ⟨rfl, rfl⟩ := e
    conv => whnf
    refine Branch.of (fun h1 => ?_) (fun h1 => ?_) <;> rw [h1] <;> conv => whnf
    · refine ⟨false, [], ?_⟩
      conv => whnf
      refine ⟨?_, rfl⟩
      congr 2
      simp only [beq_iff_eq] at h1
      rw [lead_no (fun e => q_zero.1 h1 e.2)]
    · simp only [beq_eq_false_iff_ne] at h1
      have hn : nok n := Decidable.not_not.1 fun e => h1 (q_zero.2 e)
      have hn2 := hn
      unfold nok at hn2
      refine ⟨by omega, ?_⟩
      conv => whnf
      refine ⟨false, [], ?_⟩
      conv => whnf
      refine ⟨?_, rfl⟩
      congr 2
      have := Int.emod_nonneg (v - 1) (show n ≠ 0 by omega)
      have := Int.emod_lt_of_pos (v - 1) (show 0 < n by omega)
      rw [lead_yes h hn, w64 (x := v - 1) (by omega) (by omega), Int.tmod_eq_emod_of_nonneg (by omega), w64 (by omega) (by omega)]
theorem c_refof (v n : Int) : FnOK Try.prog D 19 [.sc (.int .i64 v), .sc (.int .i64 n)] [] (fun r st => r = .sc (.int .i64 (lead v n)) ∧ st = []) := by
  refine fnok_of_W hmix tabOK Try.func19 rfl rfl (Nat.le_of_ble_eq_true rfl) ?_
  conv => whnf
  refine Branch.of (fun h => ?_) (fun h => ?_) <;> rw [h] <;> conv => whnf
  · refine ⟨false, [], ?_⟩
    conv => whnf
    refine ⟨?_, rfl⟩
    congr 2
    simp only [decide_eq_true_eq] at h
    rw [lead_no (fun e => by have := e.1.1; omega)]
  simp only [decide_eq_false_iff_not] at h
  refine Branch.of (fun h2 => ?_) (fun h2 => ?_) <;> rw [h2] <;> conv => whnf
  · refine ⟨false, [], ?_⟩
    conv => whnf
    refine ⟨?_, rfl⟩
    congr 2
    simp only [decide_eq_true_eq] at h2
    rw [lead_no (fun e => by have := e.1.2; omega)]
  simp only [decide_eq_false_iff_not] at h2
  refine (c_refquorum n).mono fun r st e => ?_
  obtain ⟨rfl, rfl⟩ := e
  conv => whnf
  refine Branch.of (fun h1 => ?_) (fun h1 => ?_) <;> rw [h1] <;> conv => whnf
  · refine ⟨false, [], ?_⟩
    conv => whnf
    refine ⟨?_, rfl⟩
    congr 2
    simp only [beq_iff_eq] at h1
    rw [lead_no (fun e => q_zero.1 h1 e.2)]
  simp only [beq_eq_false_iff_ne] at h1
  have hn : nok n := Decidable.not_not.1 fun e => h1 (q_zero.2 e)
  have hv : vok v := by unfold vok; omega
  have hn2 := hn
  unfold nok at hn2
  refine ⟨by omega, ?_⟩
  have key : v % n = ((v - 1) % n + 1) % n := by rw [Int.emod_add_emod, Int.sub_add_cancel]
  have k1 := Int.emod_nonneg (v - 1) (show n ≠ 0 by omega)
  have k2 := Int.emod_lt_of_pos (v - 1) (show 0 < n by omega)
  rw [Int.tmod_eq_emod_of_nonneg (by omega)]
  conv => whnf
  refine Branch.of (fun h3 => ?_) (fun h3 => ?_) <;> rw [h3] <;> conv => whnf
  · refine ⟨false, [], ?_⟩
    conv => whnf
    refine ⟨?_, rfl⟩
    congr 2
    simp only [beq_iff_eq] at h3
    rw [lead_yes hv hn]
    by_cases e : (v - 1) % n + 1 = n
    · exact e.symm
    · rw [key, Int.emod_eq_of_lt (by omega) (by omega)] at h3
      omega
  · refine ⟨false, [], ?_⟩
    conv => whnf
    refine ⟨?_, rfl⟩
    congr 2
    simp only [beq_eq_false_iff_ne] at h3
    rw [lead_yes hv hn]
    by_cases e : (v - 1) % n + 1 = n
    · rw [key, e, Int.emod_self] at h3
      exact absurd rfl h3
    · rw [key, Int.emod_eq_of_lt (by omega) (by omega)]

/-- How far the next view is that a part leads. -/
def gap (v n i : Int) : Int := (i - lead v n + n) % n
def next (v n i : Int) : Int := if lead v n = 0 ∨ i < 1 ∨ i > n then 0 else if v + gap v n i > 1099511627776 then 0 else v + gap v n i
theorem lead_zero {v n : Int} : lead v n = 0 ↔ ¬ (vok v ∧ nok n) := by
  by_cases h : vok v ∧ nok n
  · rw [lead_yes h.1 h.2]
    have hn := h.2
    unfold nok at hn
    have := Int.emod_nonneg (v - 1) (show n ≠ 0 by omega)
    constructor
    · intro e; omega
    · intro e; exact absurd h e
  · rw [lead_no h]; simp [h]
theorem lead_range {v n : Int} (hv : vok v) (hn : nok n) : 1 ≤ lead v n ∧ lead v n ≤ n := by
  rw [lead_yes hv hn]
  unfold nok at hn
  have := Int.emod_nonneg (v - 1) (show n ≠ 0 by omega)
  have := Int.emod_lt_of_pos (v - 1) (show 0 < n by omega)
  omega
theorem gap_range {v n i : Int} (hn : nok n) : 0 ≤ gap v n i ∧ gap v n i < n := by
  unfold nok at hn
  exact ⟨Int.emod_nonneg _ (by omega), Int.emod_lt_of_pos _ (by omega)⟩
theorem c_next (v n i : Int) : FnOK Try.prog D 20 [.sc (.int .i64 v), .sc (.int .i64 n), .sc (.int .i64 i)] [] (fun r st => r = .sc (.int .i64 (next v n i)) ∧ st = []) := by
  refine fnok_of_W hmix tabOK Try.func20 rfl rfl (Nat.le_of_ble_eq_true rfl) ?_
  conv => whnf
  refine (c_of v n).mono fun r st e => ?_
  obtain ⟨rfl, rfl⟩ := e
  conv => whnf
  refine Branch.of (fun h => ?_) (fun h => ?_) <;> rw [h] <;> conv => whnf
  · refine ⟨false, [], ?_⟩
    conv => whnf
    refine ⟨?_, rfl⟩
    congr 2
    simp only [beq_iff_eq] at h
    rw [next, if_pos (.inl h)]
  simp only [beq_eq_false_iff_ne] at h
  have hv := Decidable.not_not.1 fun e => h (lead_zero.2 e)
  obtain ⟨hv, hn⟩ := hv
  have hn2 := hn
  unfold nok at hn2
  have hv2 := hv
  unfold vok at hv2
  have hr := lead_range hv hn
  have hg := gap_range (v := v) (i := i) hn
  refine Branch.of (fun h2 => ?_) (fun h2 => ?_) <;> rw [h2] <;> conv => whnf
  · refine ⟨false, [], ?_⟩
    conv => whnf
    refine ⟨?_, rfl⟩
    congr 2
    simp only [decide_eq_true_eq] at h2
    rw [next, if_pos (.inr (.inl h2))]
  simp only [decide_eq_false_iff_not] at h2
  refine Branch.of (fun h3 => ?_) (fun h3 => ?_) <;> rw [h3] <;> conv => whnf
  · refine ⟨false, [], ?_⟩
    conv => whnf
    refine ⟨?_, rfl⟩
    congr 2
    simp only [decide_eq_true_eq] at h3
    rw [next, if_pos (.inr (.inr h3))]
  simp only [decide_eq_false_iff_not] at h3
  refine (c_of v n).mono fun r st e => ?_
  obtain ⟨rfl, rfl⟩ := e
  conv => whnf
  refine ⟨by omega, ?_⟩
  rw [w64 (x := i - lead v n) (by omega) (by omega), w64 (x := i - lead v n + n) (by omega) (by omega), Int.tmod_eq_emod_of_nonneg (by omega)]
  have eg : (i - lead v n + n) % n = gap v n i := rfl
  rw [eg]
  have hnx : next v n i = if v + gap v n i > 1099511627776 then 0 else v + gap v n i := by
    rw [next, if_neg (by omega)]
  conv => whnf
  rw [w64 (x := v + gap v n i) (by omega) (by omega)]
  refine Branch.of (fun h4 => ?_) (fun h4 => ?_) <;> rw [h4] <;> conv => whnf
  all_goals refine ⟨false, [], ?_⟩
  all_goals conv => whnf
  all_goals refine ⟨?_, rfl⟩
  all_goals congr 2
  · simp only [decide_eq_true_eq] at h4
    rw [hnx, if_pos h4]
  · simp only [decide_eq_false_iff_not] at h4
    rw [hnx, if_neg h4]

/-- Which views are led: those the gap away from the first, and by whole rounds. -/
theorem led_iff {v k n i : Int} (hv : vok v) (hn : nok n) (hk : 0 ≤ k) (hvk : v + k ≤ 1099511627776) (h1 : 1 ≤ i) (h2 : i ≤ n) : lead (v + k) n = i ↔ (k - gap v n i) % n = 0 := by
  have hn2 := hn
  unfold nok at hn2
  have hv2 := hv
  unfold vok at hv2
  rw [lead_yes (by unfold vok; omega) hn, gap, lead_yes hv hn]
  have e1 : (k - (i - ((v - 1) % n + 1) + n) % n) % n = (v + k - i) % n := by
    rw [Int.sub_emod, Int.emod_emod, ← Int.sub_emod]
    have : k - (i - ((v - 1) % n + 1) + n) = (v - 1) % n + (k - i + 1 - n) := by omega
    rw [this, Int.emod_add_emod]
    have : v - 1 + (k - i + 1 - n) = (v + k - i) - n := by omega
    rw [this, Int.sub_emod_right]
  rw [e1]
  have e2 : (v + k - i) % n = ((v + k - 1) % n + (1 - i)) % n := by
    rw [Int.emod_add_emod]
    congr 1
    omega
  rw [e2]
  have a1 := Int.emod_nonneg (v + k - 1) (show n ≠ 0 by omega)
  have a2 := Int.emod_lt_of_pos (v + k - 1) (show 0 < n by omega)
  constructor
  · intro e
    have : (v + k - 1) % n + (1 - i) = 0 := by omega
    rw [this]; simp
  · intro e
    have d := Int.dvd_of_emod_eq_zero e
    obtain ⟨q, hq⟩ := d
    have : q = 0 := by
      rcases Int.lt_trichotomy q 0 with hq0 | hq0 | hq0
      · have : n * q ≤ n * (-1) := Int.mul_le_mul_of_nonneg_left (by omega) (by omega)
        omega
      · exact hq0
      · have : n * 1 ≤ n * q := Int.mul_le_mul_of_nonneg_left (by omega) (by omega)
        omega
    rw [this] at hq
    omega
theorem c_refnext (v n i : Int) : FnOK Try.prog D 21 [.sc (.int .i64 v), .sc (.int .i64 n), .sc (.int .i64 i)] [] (fun r st => r = .sc (.int .i64 (next v n i)) ∧ st = []) := by
  refine fnok_of_W hmix tabOK Try.func21 rfl rfl (Nat.le_of_ble_eq_true rfl) ?_
  conv => whnf
  refine Branch.of (fun h => ?_) (fun h => ?_) <;> rw [h] <;> conv => whnf
  · refine ⟨false, [], ?_⟩
    conv => whnf
    refine ⟨?_, rfl⟩
    congr 2
    simp only [decide_eq_true_eq] at h
    rw [next, if_pos (.inl (lead_zero.2 fun e => by have := e.1.1; omega))]
  simp only [decide_eq_false_iff_not] at h
  refine Branch.of (fun h2 => ?_) (fun h2 => ?_) <;> rw [h2] <;> conv => whnf
  · refine ⟨false, [], ?_⟩
    conv => whnf
    refine ⟨?_, rfl⟩
    congr 2
    simp only [decide_eq_true_eq] at h2
    rw [next, if_pos (.inl (lead_zero.2 fun e => by have := e.1.2; omega))]
  simp only [decide_eq_false_iff_not] at h2
  have hv : vok v := by unfold vok; omega
  have stop : ∀ k : Int, 0 ≤ k → k ≤ 21 → v + k ≤ 1099511627776 → (k < 21 → v + k = 1099511627776 ∧ ¬ (1 ≤ i ∧ lead (v + k) n = i)) → (∀ j : Int, 0 ≤ j → j < k → ¬ (1 ≤ i ∧ lead (v + j) n = i)) → next v n i = 0 := by
    intro k k1 k2 k3 k4 k5
    rw [next]
    by_cases c : lead v n = 0 ∨ i < 1 ∨ i > n
    · rw [if_pos c]
    · rw [if_neg c]
      have hn := (Decidable.not_not.1 fun e => c (.inl (lead_zero.2 e))).2
      have hg := gap_range (v := v) (i := i) hn
      have hn2 := hn
      unfold nok at hn2
      by_cases c2 : v + gap v n i > 1099511627776
      · rw [if_pos c2]
      · exfalso
        have hl : lead (v + gap v n i) n = i := (led_iff hv hn hg.1 (by omega) (by omega) (by omega)).2 (by simp)
        by_cases c3 : gap v n i < k
        · exact k5 _ hg.1 c3 ⟨by omega, hl⟩
        · by_cases c4 : k < 21
          · have e : gap v n i = k := by have := (k4 c4).1; omega
            exact (k4 c4).2 ⟨by omega, e ▸ hl⟩
          · omega
  refine ⟨false, [0, 1, 2, 7], fun τ => ∃ k : Int, 0 ≤ k ∧ k ≤ 21 ∧ v + k ≤ 1099511627776 ∧ (∀ j : Int, 0 ≤ j → j < k → ¬ (1 ≤ i ∧ lead (v + j) n = i)) ∧ τ = ⟨36, [(0, .sc (.int .i64 v)), (1, .sc (.int .i64 n)), (2, .sc (.int .i64 i)), (7, .sc (.int .i64 k))], ⟨[], [], 0⟩⟩, fun τ => (21 - slotI τ 7).toNat, ?_, ?_⟩
  · conv => whnf
    exact ⟨0, by omega, by omega, by omega, fun j k1 k2 => by omega, rfl⟩
  · rintro τ ⟨k, k1, k2, k3, k5, rfl⟩
    conv => whnf
    refine Branch.of (fun h3 => ?_) (fun h3 => ?_) <;> rw [h3] <;> conv => whnf
    · simp only [decide_eq_true_eq] at h3
      have go : ¬ (1 ≤ i ∧ lead (v + k) n = i) → ¬ v ≥ 1099511627776 - k → (fun τ => ∃ k : Int, 0 ≤ k ∧ k ≤ 21 ∧ v + k ≤ 1099511627776 ∧ (∀ j : Int, 0 ≤ j → j < k → ¬ (1 ≤ i ∧ lead (v + j) n = i)) ∧ τ = (⟨36, [(0, .sc (.int .i64 v)), (1, .sc (.int .i64 n)), (2, .sc (.int .i64 i)), (7, .sc (.int .i64 k))], ⟨[], [], 0⟩⟩ : AS)) ⟨36, [(0, .sc (.int .i64 v)), (1, .sc (.int .i64 n)), (2, .sc (.int .i64 i)), (7, .sc (.int .i64 (k + 1)))], ⟨[], [], 0⟩⟩ := by
        intro g1 g2
        refine ⟨k + 1, by omega, by omega, by omega, fun j j1 j2 => ?_, rfl⟩
        by_cases e : j = k
        · rw [e]; exact g1
        · exact k5 j j1 (by omega)
      refine Branch.of (fun h4 => ?_) (fun h4 => ?_) <;> rw [h4] <;> conv => whnf
      · simp only [decide_eq_true_eq] at h4
        rw [w64 (x := v + k) (by omega) (by omega)]
        refine (c_refof (v + k) n).mono fun r st e => ?_
        obtain ⟨rfl, rfl⟩ := e
        conv => whnf
        refine Branch.of (fun h5 => ?_) (fun h5 => ?_) <;> rw [h5] <;> conv => whnf
        · simp only [beq_iff_eq] at h5
          refine ⟨false, [], ?_⟩
          conv => whnf
          refine ⟨?_, rfl⟩
          congr 2
          rw [w64 (x := v + k) (by omega) (by omega)]
          have hn : nok n := by
            refine Decidable.not_not.1 fun e => ?_
            rw [lead_no fun e' => e e'.2] at h5
            omega
          have hr := lead_range (v := v + k) (by unfold vok; omega) hn
          have hg := gap_range (v := v) (i := i) hn
          have hn2 := hn
          unfold nok at hn2
          have hd := (led_iff hv hn k1 k3 (by omega) (by omega)).1 h5
          have hle : ¬ gap v n i < k := fun c => k5 _ hg.1 c ⟨by omega, (led_iff hv hn hg.1 (by omega) (by omega) (by omega)).2 (by simp)⟩
          have e : gap v n i = k := by
            obtain ⟨q, hq⟩ := Int.dvd_of_emod_eq_zero hd
            have : q = 0 := by
              rcases Int.lt_trichotomy q 0 with hq0 | hq0 | hq0
              · have : n * q ≤ n * (-1) := Int.mul_le_mul_of_nonneg_left (by omega) (by omega)
                omega
              · exact hq0
              · have : n * 1 ≤ n * q := Int.mul_le_mul_of_nonneg_left (by omega) (by omega)
                omega
            rw [this] at hq
            omega
          rw [next, if_neg (fun c => ?_), if_neg (by omega), e]
          rcases c with c | c | c
          · exact lead_zero.1 c ⟨hv, hn⟩
          · omega
          · omega
        · simp only [beq_eq_false_iff_ne] at h5
          rw [w64 (x := 1099511627776 - k) (by omega) (by omega)]
          refine Branch.of (fun h6 => ?_) (fun h6 => ?_) <;> rw [h6] <;> conv => whnf
          · simp only [decide_eq_true_eq] at h6
            refine ⟨false, [], ?_⟩
            conv => whnf
            refine ⟨?_, rfl⟩
            congr 2
            exact (stop k k1 k2 k3 (fun _ => ⟨by omega, fun e => h5 e.2⟩) k5).symm
          · simp only [decide_eq_false_iff_not] at h6
            rw [w64 (x := k + 1) (by omega) (by omega)]
            refine ⟨go (fun e => h5 e.2) h6, ?_⟩
            show (21 - (k + 1)).toNat < (21 - k).toNat
            omega
      · simp only [decide_eq_false_iff_not] at h4
        rw [w64 (x := 1099511627776 - k) (by omega) (by omega)]
        refine Branch.of (fun h6 => ?_) (fun h6 => ?_) <;> rw [h6] <;> conv => whnf
        · simp only [decide_eq_true_eq] at h6
          refine ⟨false, [], ?_⟩
          conv => whnf
          refine ⟨?_, rfl⟩
          congr 2
          exact (stop k k1 k2 k3 (fun _ => ⟨by omega, fun e => h4 e.1⟩) k5).symm
        · simp only [decide_eq_false_iff_not] at h6
          rw [w64 (x := k + 1) (by omega) (by omega)]
          refine ⟨go (fun e => h4 e.1) h6, ?_⟩
          show (21 - (k + 1)).toNat < (21 - k).toNat
          omega
    · simp only [decide_eq_false_iff_not] at h3
      refine ⟨false, [], ?_⟩
      conv => whnf
      refine ⟨?_, rfl⟩
      congr 2
      exact (stop k k1 k2 k3 (fun c => absurd c h3) k5).symm

def count (f t n i : Int) : Int := if ¬ vok t ∨ next f n i = 0 ∨ next f n i > t then 0 else (t - next f n i) / n + 1
theorem next_range {f n i : Int} (h : next f n i ≠ 0) : vok f ∧ nok n ∧ 1 ≤ i ∧ i ≤ n ∧ next f n i = f + gap f n i ∧ f ≤ next f n i ∧ next f n i ≤ 1099511627776 := by
  by_cases c : lead f n = 0 ∨ i < 1 ∨ i > n
  · rw [next, if_pos c] at h; exact absurd rfl h
  · have hv := Decidable.not_not.1 fun e => c (.inl (lead_zero.2 e))
    have hg := gap_range (v := f) (i := i) hv.2
    by_cases c2 : f + gap f n i > 1099511627776
    · rw [next, if_neg c, if_pos c2] at h; exact absurd rfl h
    · have e : next f n i = f + gap f n i := by rw [next, if_neg c, if_neg c2]
      exact ⟨hv.1, hv.2, by omega, by omega, e, by omega, by omega⟩
theorem c_count (f t n i : Int) : FnOK Try.prog D 22 [.sc (.int .i64 f), .sc (.int .i64 t), .sc (.int .i64 n), .sc (.int .i64 i)] [] (fun r st => r = .sc (.int .i64 (count f t n i)) ∧ st = []) := by
  refine fnok_of_W hmix tabOK Try.func22 rfl rfl (Nat.le_of_ble_eq_true rfl) ?_
  conv => whnf
  refine (c_next f n i).mono fun r st e => ?_
  obtain ⟨rfl, rfl⟩ := e
  conv => whnf
  refine (c_view t).mono fun r st e => ?_
  obtain ⟨rfl, rfl⟩ := e
  conv => whnf
  refine Branch.of (fun h => ?_) (fun h => ?_) <;> rw [h] <;> conv => whnf
  · refine ⟨false, [], ?_⟩
    conv => whnf
    refine ⟨?_, rfl⟩
    congr 2
    simp only [Bool.not_eq_true', decide_eq_false_iff_not] at h
    rw [count, if_pos (.inl h)]
  simp only [Bool.not_eq_false', decide_eq_true_eq] at h
  refine Branch.of (fun h2 => ?_) (fun h2 => ?_) <;> rw [h2] <;> conv => whnf
  · refine ⟨false, [], ?_⟩
    conv => whnf
    refine ⟨?_, rfl⟩
    congr 2
    simp only [beq_iff_eq] at h2
    rw [count, if_pos (.inr (.inl h2))]
  simp only [beq_eq_false_iff_ne] at h2
  refine Branch.of (fun h3 => ?_) (fun h3 => ?_) <;> rw [h3] <;> conv => whnf
  · refine ⟨false, [], ?_⟩
    conv => whnf
    refine ⟨?_, rfl⟩
    congr 2
    simp only [decide_eq_true_eq] at h3
    rw [count, if_pos (.inr (.inr h3))]
  simp only [decide_eq_false_iff_not] at h3
  obtain ⟨r1, r2, r3, r4, r5, r6, r7⟩ := next_range h2
  unfold nok at r2
  unfold vok at r1
  refine ⟨by omega, ?_⟩
  have q1 := Int.ediv_nonneg (a := t - next f n i) (b := n) (by omega) (by omega)
  have q2 := Int.ediv_le_self (a := t - next f n i) n (by omega)
  conv => whnf
  refine ⟨false, [], ?_⟩
  conv => whnf
  refine ⟨?_, rfl⟩
  congr 2
  rw [w64 (x := t - next f n i) (by omega) (by omega), Int.tdiv_eq_ediv_of_nonneg (by omega), w64 (x := (t - next f n i) / n) (by omega) (by omega), w64 (by omega) (by omega), count, if_neg]
  rintro (c | c | c)
  · exact c h
  · exact h2 c
  · omega

/-- How many of the views from one on, below another, are led. -/
def many (f n i : Int) : Nat → Int
  | 0 => 0
  | k + 1 => many f n i k + if lead (f + k) n = i then 1 else 0
theorem many_range (f n i : Int) : ∀ k : Nat, 0 ≤ many f n i k ∧ many f n i k ≤ k
  | 0 => ⟨Int.le_refl _, Int.le_refl _⟩
  | k + 1 => by
    have := many_range f n i k
    simp only [many]
    split <;> omega
theorem ediv_step {a n : Int} (hn : 1 ≤ n) (_ : 0 ≤ a) : (a + 1) / n = a / n + if (a + 1) % n = 0 then 1 else 0 := by
  have e1 := Int.emod_add_mul_ediv a n
  have e2 := Int.emod_add_mul_ediv (a + 1) n
  have m1 := Int.emod_nonneg a (show n ≠ 0 by omega)
  have m2 := Int.emod_lt_of_pos a (show 0 < n by omega)
  have m3 := Int.emod_nonneg (a + 1) (show n ≠ 0 by omega)
  have m4 := Int.emod_lt_of_pos (a + 1) (show 0 < n by omega)
  have hd : n * ((a + 1) / n - a / n) = a % n + 1 - (a + 1) % n := by rw [Int.mul_sub]; omega
  have q : (a + 1) / n - a / n = 0 ∨ (a + 1) / n - a / n = 1 := by
    generalize (a + 1) / n - a / n = q at hd
    rcases Int.lt_trichotomy q 0 with h | h | h
    · have : n * q ≤ n * (-1) := Int.mul_le_mul_of_nonneg_left (by omega) (by omega)
      omega
    · exact .inl h
    · by_cases h1 : q = 1
      · exact .inr h1
      · have : n * 2 ≤ n * q := Int.mul_le_mul_of_nonneg_left (by omega) (by omega)
        omega
  rcases q with q | q
  · rw [q] at hd
    split <;> omega
  · rw [q] at hd
    split <;> omega
theorem many_at {f n i : Int} (hf : vok f) (hn : nok n) (h1 : 1 ≤ i) (h2 : i ≤ n) : ∀ k : Nat, f + k ≤ 1099511627776 + 1 → many f n i k = if (k : Int) ≤ gap f n i then 0 else ((k : Int) - 1 - gap f n i) / n + 1
  | 0, _ => by
    have := (gap_range (v := f) (i := i) hn).1
    rw [many, if_pos (by omega)]
  | k + 1, hk => by
    have hg := gap_range (v := f) (i := i) hn
    have hn2 := hn
    unfold nok at hn2
    rw [many, many_at hf hn h1 h2 k (by omega)]
    have hl := led_iff (k := k) hf hn (by omega) (by omega) h1 h2
    by_cases c : (k : Int) < gap f n i
    · rw [if_pos (show (k : Int) ≤ gap f n i by omega), if_pos (show ((k + 1 : Nat) : Int) ≤ gap f n i by omega), if_neg]
      · rfl
      · intro e
        obtain ⟨q, hq⟩ := Int.dvd_of_emod_eq_zero (hl.1 e)
        rcases Int.lt_trichotomy q 0 with hq0 | hq0 | hq0
        · have : n * q ≤ n * (-1) := Int.mul_le_mul_of_nonneg_left (by omega) (by omega)
          omega
        · rw [hq0] at hq; omega
        · have : n * 1 ≤ n * q := Int.mul_le_mul_of_nonneg_left (by omega) (by omega)
          omega
    · rw [if_neg (show ¬ ((k + 1 : Nat) : Int) ≤ gap f n i by omega)]
      by_cases c2 : (k : Int) = gap f n i
      · rw [if_pos (by omega), if_pos (hl.2 (by rw [c2]; simp))]
        have : ((k + 1 : Nat) : Int) - 1 - gap f n i = 0 := by omega
        rw [this]
        simp
      · rw [if_neg (by omega)]
        have e : ((k + 1 : Nat) : Int) - 1 - gap f n i = ((k : Int) - 1 - gap f n i) + 1 := by omega
        rw [e, ediv_step (by omega) (by omega)]
        have e2 : (k : Int) - 1 - gap f n i + 1 = k - gap f n i := by omega
        rw [e2]
        by_cases c3 : lead (f + k) n = i
        · rw [if_pos c3, if_pos (hl.1 c3)]
        · rw [if_neg c3, if_neg (fun e => c3 (hl.2 e))]; omega
theorem many_none {f n i : Int} (h : ¬ (nok n ∧ i ≤ n)) (h1 : 1 ≤ i) : ∀ k : Nat, many f n i k = 0
  | 0 => rfl
  | k + 1 => by
    rw [many, many_none h h1 k, if_neg]
    · rfl
    · intro e
      by_cases c : vok (f + k) ∧ nok n
      · have := lead_range c.1 c.2
        exact h ⟨c.2, by omega⟩
      · rw [lead_no c] at e; omega
/-- Counted one by one, or at once. -/
theorem many_count {f t n i : Int} (hf : 1 ≤ f) (ht : t ≤ 1099511627776) (hi : 1 ≤ i) (hft : f ≤ t + 1) : many f n i (t + 1 - f).toNat = count f t n i := by
  by_cases c0 : f = t + 1
  · have : (t + 1 - f).toNat = 0 := by omega
    rw [this, many, count]
    by_cases c : next f n i = 0
    · rw [if_pos (.inr (.inl c))]
    · have := next_range c
      rw [if_pos (.inr (.inr (by omega)))]
  have hv : vok f := by unfold vok; omega
  have ht2 : vok t := by unfold vok; omega
  by_cases c : nok n ∧ i ≤ n
  · rw [many_at hv c.1 hi c.2 _ (by omega)]
    have hg := gap_range (v := f) (i := i) c.1
    have hl := lead_range hv c.1
    have hcond : ¬ (lead f n = 0 ∨ i < 1 ∨ i > n) := by
      rintro (e | e | e) <;> omega
    have hn2 := c.1
    unfold nok at hn2
    by_cases c2 : f + gap f n i > 1099511627776
    · rw [if_pos (by omega), count, if_pos (.inr (.inl (by rw [next, if_neg hcond, if_pos c2])))]
    · have e : next f n i = f + gap f n i := by rw [next, if_neg hcond, if_neg c2]
      rw [count, e]
      by_cases c3 : f + gap f n i > t
      · rw [if_pos (by omega), if_pos (.inr (.inr c3))]
      · rw [if_neg (by omega), if_neg]
        · congr 2
          omega
        · rintro (c4 | c4 | c4)
          · exact c4 ht2
          · omega
          · omega
  · rw [many_none c hi, count, if_pos]
    right; left
    rw [next, if_pos]
    by_cases cn : nok n
    · right; right
      have : ¬ i ≤ n := fun e => c ⟨cn, e⟩
      omega
    · left
      exact lead_zero.2 fun e => cn e.2
theorem c_refcount (f t n i : Int) : FnOK Try.prog D 24 [.sc (.int .i64 f), .sc (.int .i64 t), .sc (.int .i64 n), .sc (.int .i64 i)] [] (fun r st => (1 ≤ f → t ≤ 1099511627776 → f ≤ t + 1 → r = .sc (.int .i64 (count f t n i))) ∧ (1 ≤ f → (t < f ∨ t > 1099511627776) → r = .sc (.int .i64 0)) ∧ ∃ x, r = .sc (.int .i64 x) ∧ st = []) := by
  refine fnok_of_W hmix tabOK Try.func24 rfl rfl (Nat.le_of_ble_eq_true rfl) ?_
  conv => whnf
  refine Branch.of (fun h => ?_) (fun h => ?_) <;> rw [h] <;> conv => whnf
  · simp only [decide_eq_true_eq] at h
    refine ⟨false, [], ?_⟩
    conv => whnf
    exact ⟨fun e => by omega, fun e => by omega, 0, rfl, rfl⟩
  simp only [decide_eq_false_iff_not] at h
  refine Branch.of (fun h2 => ?_) (fun h2 => ?_) <;> rw [h2] <;> conv => whnf
  · simp only [decide_eq_true_eq] at h2
    refine ⟨false, [], ?_⟩
    conv => whnf
    exact ⟨fun _ e => by omega, fun _ _ => rfl, 0, rfl, rfl⟩
  simp only [decide_eq_false_iff_not] at h2
  have zero : i < 1 → count f t n i = 0 := by
    intro hi
    rw [count, if_pos]
    right; left
    rw [next, if_pos (.inr (.inl hi))]
  refine Branch.of (fun h3 => ?_) (fun h3 => ?_) <;> rw [h3] <;> conv => whnf
  · simp only [decide_eq_true_eq] at h3
    refine ⟨false, [], ?_⟩
    conv => whnf
    exact ⟨fun _ _ _ => by rw [zero h3], fun _ _ => rfl, 0, rfl, rfl⟩
  simp only [decide_eq_false_iff_not] at h3
  refine ⟨false, [1, 2, 3, 9, 10], fun τ => ∃ k : Nat, (f ≤ t + 1 → f + k ≤ t + 1) ∧ (t + 1 < f → k = 0) ∧ τ = ⟨35, [(1, .sc (.int .i64 t)), (2, .sc (.int .i64 n)), (3, .sc (.int .i64 i)), (9, .sc (.int .i64 (many f n i k))), (10, .sc (.int .i64 (f + k)))], ⟨[], [], 0⟩⟩, fun τ => (t + 1 - slotI τ 10).toNat, ?_, ?_⟩
  · conv => whnf
    refine ⟨0, by omega, fun _ => rfl, ?_⟩
    simp only [many, Int.natCast_zero, Int.add_zero]
    rfl
  · rintro τ ⟨k, k1, k2, rfl⟩
    conv => whnf
    have hm := many_range f n i k
    refine Branch.of (fun h4 => ?_) (fun h4 => ?_) <;> rw [h4] <;> conv => whnf
    · simp only [decide_eq_true_eq] at h4
      refine (c_refof (f + k) n).mono fun r st e => ?_
      obtain ⟨rfl, rfl⟩ := e
      conv => whnf
      refine Branch.of (fun h5 => ?_) (fun h5 => ?_) <;> rw [h5] <;> conv => whnf
      · simp only [beq_iff_eq] at h5
        rw [w64 (x := f + k + 1) (by omega) (by omega), w64 (x := many f n i k + 1) (by omega) (by omega)]
        refine ⟨⟨k + 1, by omega, by omega, ?_⟩, ?_⟩
        · rw [many, if_pos h5, Int.natCast_add, ← Int.add_assoc]
          rfl
        · show (t + 1 - (f + k + 1)).toNat < (t + 1 - (f + k)).toNat
          omega
      · simp only [beq_eq_false_iff_ne] at h5
        rw [w64 (x := f + k + 1) (by omega) (by omega)]
        refine ⟨⟨k + 1, by omega, by omega, ?_⟩, ?_⟩
        · rw [many, if_neg h5, Int.natCast_add, ← Int.add_assoc, Int.add_zero]
          rfl
        · show (t + 1 - (f + k + 1)).toNat < (t + 1 - (f + k)).toNat
          omega
    · simp only [decide_eq_false_iff_not] at h4
      refine ⟨false, [], ?_⟩
      conv => whnf
      refine ⟨fun g1 g2 g3 => ?_, fun g1 g2 => ?_, many f n i k, rfl, rfl⟩
      · rw [← many_count g1 g2 (by omega) g3]
        have : (t + 1 - f).toNat = k := by omega
        rw [this]
      · have : k = 0 := by omega
        subst this
        rfl

theorem c_awake : FnOK Try.prog D 23 [] [] (fun r st => r = .sc (.bool true) ∧ st = []) := by
  refine fnok_of_W hmix tabOK Try.func23 rfl rfl (Nat.le_of_ble_eq_true rfl) ?_
  conv => whnf
  refine (c_of 1 3).mono fun r st e => ?_
  obtain ⟨rfl, rfl⟩ := e
  rw [show lead 1 3 = 1 by decide]
  conv => whnf
  refine (c_of 3 3).mono fun r st e => ?_
  obtain ⟨rfl, rfl⟩ := e
  rw [show lead 3 3 = 3 by decide]
  conv => whnf
  refine (c_of 4 3).mono fun r st e => ?_
  obtain ⟨rfl, rfl⟩ := e
  rw [show lead 4 3 = 1 by decide]
  conv => whnf
  refine (c_next 2 3 1).mono fun r st e => ?_
  obtain ⟨rfl, rfl⟩ := e
  rw [show next 2 3 1 = 4 by decide]
  conv => whnf
  refine ⟨false, [], ?_⟩
  conv => whnf
  exact ⟨rfl, rfl⟩
end Go.WL.T1
namespace Go.WL.T1
open Go.WL Go.Proofs
set_option maxRecDepth 20000
set_option maxHeartbeats 4000000
theorem c_law (v n i t : Int) (hv : -9223372036854775808 ≤ v ∧ v < 9223372036854775808) (ht : -9223372036854775808 ≤ t ∧ t < 9223372036854775808) : FnOK Try.prog D 4 [.sc (.int .i64 v), .sc (.int .i64 n), .st [.sc (.int .i64 i), .sc (.int .i64 t)]] [] (fun r _ => r = .sc (.bool true)) := by
  refine fnok_of_W hmix tabOK Try.func4 rfl rfl (Nat.le_of_ble_eq_true rfl) ?_
  conv => whnf
  refine ⟨tab_4_1, by decide +kernel, ?_⟩
  conv => whnf
  refine ⟨_, _, c_of v n, ?_⟩
  conv => whnf
  refine ⟨_, _, c_refof v n, ?_⟩
  conv => whnf
  rw [show (lead v n != lead v n) = false from bne_self_eq_false _]
  conv => whnf
  refine ⟨_, _, c_next v n i, ?_⟩
  conv => whnf
  refine ⟨_, _, c_refnext v n i, ?_⟩
  conv => whnf
  rw [show (next v n i != next v n i) = false from bne_self_eq_false _]
  conv => whnf
  have zero : ¬ vok v → count v t n i = 0 := by
    intro c
    rw [count, if_pos (.inr (.inl (by rw [next, if_pos (.inl (lead_zero.2 fun e => c e.1))])))]
  refine Branch.of (fun h => ?_) (fun h => ?_) <;> rw [h] <;> conv => whnf
  · simp only [decide_eq_true_eq] at h
    refine (c_count v t n i).mono fun r st e => ?_
    obtain ⟨rfl, rfl⟩ := e
    conv => whnf
    rw [zero (fun c => by unfold vok at c; omega)]
    conv => whnf
    refine (c_awake).mono fun r st e => ?_
    obtain ⟨rfl, rfl⟩ := e
    conv => whnf
    refine ⟨false, [], ?_⟩
    conv => whnf
  simp only [decide_eq_false_iff_not] at h
  refine Branch.of (fun h2 => ?_) (fun h2 => ?_) <;> rw [h2] <;> conv => whnf
  · simp only [decide_eq_true_eq] at h2
    refine (c_count v t n i).mono fun r st e => ?_
    obtain ⟨rfl, rfl⟩ := e
    conv => whnf
    rw [zero (fun c => by unfold vok at c; omega)]
    conv => whnf
    refine (c_awake).mono fun r st e => ?_
    obtain ⟨rfl, rfl⟩ := e
    conv => whnf
    refine ⟨false, [], ?_⟩
    conv => whnf
  simp only [decide_eq_false_iff_not] at h2
  have rest : ∀ (r : AV) (st : List AV), ((1 ≤ v → t ≤ 1099511627776 → v ≤ t + 1 → r = .sc (.int .i64 (count v t n i))) ∧ (1 ≤ v → (t < v ∨ t > 1099511627776) → r = .sc (.int .i64 0)) ∧ ∃ x, r = .sc (.int .i64 x) ∧ st = []) → r = .sc (.int .i64 (count v t n i)) ∧ st = [] := by
    rintro r st ⟨h3, h4, x, h5, h6⟩
    refine ⟨?_, h6⟩
    by_cases c : t < v ∨ t > 1099511627776
    · rw [h4 (by omega) c, count]
      rw [if_pos]
      by_cases c1 : next v n i = 0
      · exact .inr (.inl c1)
      · have := next_range c1
        unfold vok
        omega
    · exact h3 (by omega) (by omega) (by omega)
  refine Branch.of (fun h3 => ?_) (fun h3 => ?_) <;> rw [h3] <;> conv => whnf
  · simp only [decide_eq_true_eq] at h3
    rw [w64 (x := t - v) (by omega) (by omega)]
    refine Branch.of (fun h4 => ?_) (fun h4 => ?_) <;> rw [h4] <;> conv => whnf
    · refine Branch.of (fun h5 => ?_) (fun h5 => ?_) <;> rw [h5] <;> conv => whnf
      · refine (c_awake).mono fun r st e => ?_
        obtain ⟨rfl, rfl⟩ := e
        conv => whnf
        refine ⟨false, [], ?_⟩
        conv => whnf
      · refine ⟨tab_4_7, by decide +kernel, ?_⟩
        conv => whnf
        refine ⟨_, _, c_count v t n i, ?_⟩
        conv => whnf
        refine ⟨_, _, (c_refcount v t n i).mono rest, ?_⟩
        conv => whnf
        rw [show (count v t n i == count v t n i) = true from beq_self_eq_true _]
        conv => whnf
        refine ⟨_, _, c_awake, ?_⟩
        conv => whnf
        refine ⟨false, [], ?_⟩
        conv => whnf
    · refine ⟨tab_4_7, by decide +kernel, ?_⟩
      conv => whnf
      refine ⟨_, _, c_count v t n i, ?_⟩
      conv => whnf
      refine ⟨_, _, (c_refcount v t n i).mono rest, ?_⟩
      conv => whnf
      rw [show (count v t n i == count v t n i) = true from beq_self_eq_true _]
      conv => whnf
      refine ⟨_, _, c_awake, ?_⟩
      conv => whnf
      refine ⟨false, [], ?_⟩
      conv => whnf
  · refine ⟨tab_4_7, by decide +kernel, ?_⟩
    conv => whnf
    refine ⟨_, _, c_count v t n i, ?_⟩
    conv => whnf
    refine ⟨_, _, (c_refcount v t n i).mono rest, ?_⟩
    conv => whnf
    rw [show (count v t n i == count v t n i) = true from beq_self_eq_true _]
    conv => whnf
    refine ⟨_, _, c_awake, ?_⟩
    conv => whnf
    refine ⟨false, [], ?_⟩
    conv => whnf
end Go.WL.T1
namespace Go.WL.T1
open Go.WL Go.Proofs
set_option maxRecDepth 20000
set_option maxHeartbeats 2000000
theorem once {v n i : Int} (hv : vok v) (hv2 : v ≤ 549755813888) (hn : nok n) (h1 : 1 ≤ i) (h2 : i ≤ n) : count v (v + n - 1) n i = 1 := by
  have hn2 := hn
  unfold nok at hn2
  have hv3 := hv
  unfold vok at hv3
  have hg := gap_range (v := v) (i := i) hn
  have e : next v n i = v + gap v n i := by
    rw [next, if_neg, if_neg (by omega)]
    intro c
    rcases c with c | c | c
    · exact lead_zero.1 c ⟨hv, hn⟩
    · omega
    · omega
  rw [count, e, if_neg]
  · have : (v + n - 1 - (v + gap v n i)) / n = 0 := Int.ediv_eq_zero_of_lt (by omega) (by omega)
    rw [this]
    rfl
  · intro c
    unfold vok at c
    omega
theorem nodup_le : ∀ (m : Nat) (l : List Nat), l.Nodup → (∀ x ∈ l, x < m) → l.length ≤ m
  | 0, l, _, h => by
    cases l with
    | nil => simp
    | cons x l => exact absurd (h x (by simp)) (by omega)
  | m + 1, l, hn, h => by
    by_cases c : m ∈ l
    · have := nodup_le m (l.erase m) (hn.erase m) fun x hx => by
        have h1 := h x (List.mem_of_mem_erase hx)
        have h2 : x ≠ m := fun e => by subst e; exact absurd hx (hn.not_mem_erase)
        omega
      rw [List.length_erase_of_mem c] at this
      omega
    · have := nodup_le m l hn fun x hx => by
        have h1 := h x hx
        have h2 : x ≠ m := fun e => by subst e; exact c hx
        omega
      omega
/-- Some of any half and one meets any half and one views' leaders. -/
theorem meet {v n : Int} (hv : vok v) (hv2 : v ≤ 549755813888) (hn : nok n) (T : List Nat) (hT : T.Nodup) (hr : ∀ x ∈ T, 1 ≤ x ∧ (x : Int) ≤ n) (hl : n / 2 + 1 ≤ T.length) (hno : ∀ k : Nat, (k : Int) < n / 2 + 1 → (lead (v + k) n).toNat ∉ T) : False := by
  have hn2 := hn
  unfold nok at hn2
  have hv3 := hv
  unfold vok at hv3
  have lr : ∀ k : Nat, (k : Int) < n → 1 ≤ lead (v + k) n ∧ lead (v + k) n ≤ n := fun k hk => lead_range (by unfold vok; omega) hn
  have inj : ∀ j k : Nat, (j : Int) < n → (k : Int) < n → lead (v + j) n = lead (v + k) n → j = k := by
    intro j k hj hk e
    rw [lead_yes (by unfold vok; omega) hn, lead_yes (by unfold vok; omega) hn] at e
    have e2 : (v + j - 1) % n = (v + k - 1) % n := by omega
    have d := Int.emod_emod_of_dvd (v + j - 1 - (v + k - 1)) (Int.dvd_refl n)
    have d0 : (v + j - 1 - (v + k - 1)) % n = 0 := by rw [Int.sub_emod, e2, Int.sub_self]; simp
    have : v + j - 1 - (v + k - 1) = (j : Int) - k := by omega
    rw [this] at d0
    obtain ⟨q, hq⟩ := Int.dvd_of_emod_eq_zero d0
    have : q = 0 := by
      rcases Int.lt_trichotomy q 0 with hq0 | hq0 | hq0
      · have : n * q ≤ n * (-1) := Int.mul_le_mul_of_nonneg_left (by omega) (by omega)
        omega
      · exact hq0
      · have : n * 1 ≤ n * q := Int.mul_le_mul_of_nonneg_left (by omega) (by omega)
        omega
    rw [this] at hq
    omega
  have key : ∀ m : Nat, (m : Int) ≤ n / 2 + 1 → (((List.range m).map fun k => (lead (v + (k : Nat)) n).toNat) ++ T).Nodup := by
    intro m
    induction m with
    | zero => intro _; simpa using hT
    | succ m ih =>
      intro hm
      rw [List.range_succ, List.map_append, List.append_assoc]
      have ih := ih (by omega)
      rw [List.nodup_append] at ih ⊢
      obtain ⟨i1, i2, i3⟩ := ih
      refine ⟨i1, ?_, ?_⟩
      · rw [List.map_singleton, List.singleton_append, List.nodup_cons]
        exact ⟨hno m (by omega), hT⟩
      · intro a ha b hb
        rw [List.map_singleton, List.singleton_append] at hb
        rcases List.mem_cons.1 hb with rfl | hb
        · obtain ⟨j, hj, rfl⟩ := List.mem_map.1 ha
          have hj := List.mem_range.1 hj
          intro e
          have l1 := lr j (by omega)
          have l2 := lr m (by omega)
          have := inj j m (by omega) (by omega) (by omega)
          omega
        · exact i3 a ha b hb
  have hq : 0 ≤ n / 2 + 1 := by omega
  obtain ⟨q, hqe⟩ := Int.eq_ofNat_of_zero_le hq
  have hN := key q (by omega)
  obtain ⟨N, hNe⟩ := Int.eq_ofNat_of_zero_le (show 0 ≤ n by omega)
  have := nodup_le (N + 1) (0 :: (((List.range q).map fun k => (lead (v + (k : Nat)) n).toNat) ++ T)) ?_ ?_
  · simp only [List.length_cons, List.length_append, List.length_map, List.length_range] at this
    omega
  · rw [List.nodup_cons]
    refine ⟨?_, hN⟩
    intro c
    rcases List.mem_append.1 c with c | c
    · obtain ⟨j, hj, e⟩ := List.mem_map.1 c
      have hj := List.mem_range.1 hj
      have := lr j (by omega)
      omega
    · have := (hr 0 c).1
      omega
  · intro x hx
    rcases List.mem_cons.1 hx with rfl | hx
    · omega
    · rcases List.mem_append.1 hx with c | c
      · obtain ⟨j, hj, rfl⟩ := List.mem_map.1 c
        have hj := List.mem_range.1 hj
        have := lr j (by omega)
        omega
      · have := (hr x c).2
        omega
def marks (T : List Nat) : List AV := (List.range 22).map fun x => AV.sc (.bool (decide (x ∈ T)))
theorem marks_at (T : List Nat) {x : Nat} (h : x < 22) : (marks T)[x]? = some (.sc (.bool (decide (x ∈ T)))) := by
  simp [marks, h]
theorem marks_set (T : List Nat) {x : Nat} : (marks T).set x (.sc (.bool true)) = marks (x :: T) := by
  apply List.ext_getElem?
  intro y
  simp only [marks, List.getElem?_set, List.getElem?_map, List.length_map, List.length_range]
  by_cases hy : y < 22
  · rw [List.getElem?_range hy]
    by_cases e : x = y
    · subst e; simp [hy]
    · simp [e, Ne.symm e]
  · have : (List.range 22)[y]? = none := by simp; omega
    rw [this]
    by_cases e : x = y
    · subst e; simp [hy]
    · simp [e]
theorem c_turns (v n : Int) (l : List Int) (hv : -9223372036854775808 ≤ v ∧ v < 9223372036854775808) : FnOK Try.prog D 5 [(AV.sc (.int .i64 (v))), (AV.sc (.int .i64 (n))), .sl .lf (l.map fun n => (AV.sc (.int .i64 (n)))) .ro] [] (fun r _ => r = .sc (.bool true)) := by
  refine fnok_of_W hmix tabOK Try.func5 rfl rfl (Nat.le_of_ble_eq_true rfl) ?_
  conv => whnf
  refine (c_refquorum n).mono fun r st e => ?_
  obtain ⟨rfl, rfl⟩ := e
  conv => whnf
  refine Branch.of (fun h => ?_) (fun h => ?_) <;> rw [h] <;> conv => whnf
  · refine (c_awake).mono fun r st e => ?_
    obtain ⟨rfl, rfl⟩ := e
    conv => whnf
    refine ⟨false, [], ?_⟩
    conv => whnf
  simp only [beq_eq_false_iff_ne] at h
  have hn : nok n := Decidable.not_not.1 fun e => h (q_zero.2 e)
  have hn2 := hn
  unfold nok at hn2
  refine Branch.of (fun h1 => ?_) (fun h1 => ?_) <;> rw [h1] <;> conv => whnf
  · refine (c_awake).mono fun r st e => ?_
    obtain ⟨rfl, rfl⟩ := e
    conv => whnf
    refine ⟨false, [], ?_⟩
    conv => whnf
  simp only [decide_eq_false_iff_not] at h1
  refine Branch.of (fun h2 => ?_) (fun h2 => ?_) <;> rw [h2] <;> conv => whnf
  · refine (c_awake).mono fun r st e => ?_
    obtain ⟨rfl, rfl⟩ := e
    conv => whnf
    refine ⟨false, [], ?_⟩
    conv => whnf
  simp only [gt_iff_lt, decide_eq_false_iff_not] at h2
  rw [List.length_map]
  refine Branch.of (fun h3 => ?_) (fun h3 => ?_) <;> rw [h3] <;> conv => whnf
  · refine (c_awake).mono fun r st e => ?_
    obtain ⟨rfl, rfl⟩ := e
    conv => whnf
    refine ⟨false, [], ?_⟩
    conv => whnf
  simp only [gt_iff_lt, decide_eq_false_iff_not] at h3
  have hvk : vok v := by unfold vok; omega
  refine ⟨false, [0, 1, 2, 6, 7, 8], fun τ => ∃ i : Int, 1 ≤ i ∧ i ≤ n + 1 ∧ τ = ⟨107, [(0, (AV.sc (.int .i64 (v)))), (1, (AV.sc (.int .i64 (n)))), (2, .sl .lf (l.map fun n => (AV.sc (.int .i64 (n)))) .ro), (6, (AV.sc (.bool (false)))), (7, (AV.sc (.int .i64 (quorum n)))), (8, (AV.sc (.int .i64 (i))))], ⟨[], [], 0⟩⟩, fun τ => (n + 1 - slotI τ 8).toNat, ?_, ?_⟩
  · conv => whnf
    exact ⟨1, by omega, by omega, rfl⟩
  · rintro τ ⟨i, i1, i2, rfl⟩
    conv => whnf
    refine Branch.of (fun h4 => ?_) (fun h4 => ?_) <;> rw [h4] <;> conv => whnf
    · simp only [decide_eq_true_eq] at h4
      rw [w64 (x := v + n) (by omega) (by omega), w64 (x := v + n - 1) (by omega) (by omega)]
      have c1 := c_count v (v + n - 1) n i
      rw [once hvk (by omega) hn i1 h4] at c1
      refine c1.mono fun r st e => ?_
      obtain ⟨rfl, rfl⟩ := e
      conv => whnf
      rw [w64 (x := i + 1) (by omega) (by omega)]
      refine ⟨⟨i + 1, by omega, by omega, rfl⟩, ?_⟩
      show (n + 1 - (i + 1)).toNat < (n + 1 - i).toNat
      omega
    · simp only [decide_eq_false_iff_not] at h4
      refine ⟨false, [0, 1, 2, 6, 7, 9, 10, 11], fun τ => ∃ (i : Nat) (T : List Nat), i ≤ l.length ∧ T.Nodup ∧ T.length = i ∧ (∀ x ∈ T, 1 ≤ x ∧ (x : Int) ≤ n) ∧ τ = ⟨107, [(0, (AV.sc (.int .i64 (v)))), (1, (AV.sc (.int .i64 (n)))), (2, .sl .lf (l.map fun n => (AV.sc (.int .i64 (n)))) .ro), (6, (AV.sc (.bool (false)))), (7, (AV.sc (.int .i64 (quorum n)))), (9, .pt 0 []), (10, (AV.sc (.int .i64 ((i : Int))))), (11, (AV.sc (.int .i64 ((i : Int)))))], ⟨[(.ar 22 .lf (marks T), false)], [], 0⟩⟩, fun τ => l.length - (slotI τ 11).toNat, ?_, ?_⟩
      · conv => whnf
        exact ⟨0, [], Nat.zero_le _, List.nodup_nil, rfl, by simp, by rfl⟩
      · rintro τ ⟨i, T, j1, j2, j3, j4, rfl⟩
        conv => whnf
        rw [List.length_map]
        refine Branch.of (fun h5 => ?_) (fun h5 => ?_) <;> rw [h5] <;> conv => whnf
        · simp only [decide_eq_true_eq] at h5
          have hi' : i < l.length := by omega
          have hat : (l.map fun n => (AV.sc (.int .i64 (n))))[(i : Int).toNat]? = some ((AV.sc (.int .i64 (l[i])))) := by simp [hi']
          refine ⟨by omega, _, hat, ?_⟩
          generalize l[i] = y at hat
          conv => whnf
          refine Branch.of (fun h6 => ?_) (fun h6 => ?_) <;> rw [h6] <;> conv => whnf
          · refine (c_awake).mono fun r st e => ?_
            obtain ⟨rfl, rfl⟩ := e
            conv => whnf
            refine ⟨false, [], ?_⟩
            conv => whnf
          simp only [decide_eq_false_iff_not] at h6
          refine ⟨by omega, _, hat, ?_⟩
          conv => whnf
          refine Branch.of (fun h7 => ?_) (fun h7 => ?_) <;> rw [h7] <;> conv => whnf
          · refine (c_awake).mono fun r st e => ?_
            obtain ⟨rfl, rfl⟩ := e
            conv => whnf
            refine ⟨false, [], ?_⟩
            conv => whnf
          simp only [gt_iff_lt, decide_eq_false_iff_not] at h7
          refine ⟨by omega, _, hat, ?_⟩
          conv => whnf
          obtain ⟨y, rfl⟩ := Int.eq_ofNat_of_zero_le (show 0 ≤ y by omega)
          refine ⟨by omega, by omega, ?_⟩
          conv => whnf
          refine ⟨(AV.sc (.bool (decide (y ∈ T)))), marks_at T (by omega), ?_⟩
          conv => whnf
          refine Branch.of (fun h8 => ?_) (fun h8 => ?_) <;> rw [h8] <;> conv => whnf
          · refine (c_awake).mono fun r st e => ?_
            obtain ⟨rfl, rfl⟩ := e
            conv => whnf
            refine ⟨false, [], ?_⟩
            conv => whnf
          simp only [decide_eq_false_iff_not] at h8
          refine ⟨by omega, _, hat, ?_⟩
          conv => whnf
          refine ⟨by omega, by omega, ?_⟩
          conv => whnf
          refine ⟨(AV.sc (.bool (decide (y ∈ T)))), marks_at T (by omega), ?_⟩
          conv => whnf
          rw [Int.toNat_natCast, marks_set, w64 (x := (i : Int) + 1) (by omega) (by omega)]
          refine ⟨⟨i + 1, y :: T, by omega, List.nodup_cons.2 ⟨h8, j2⟩, by simp [j3], fun x hx => ?_, rfl⟩, ?_⟩
          · rcases List.mem_cons.1 hx with rfl | hx
            · omega
            · exact j4 x hx
          · show l.length - ((i : Int) + 1).toNat < l.length - (i : Int).toNat
            omega
        · simp only [decide_eq_false_iff_not] at h5
          refine Branch.of (fun h9 => ?_) (fun h9 => ?_) <;> rw [h9] <;> conv => whnf
          · refine (c_awake).mono fun r st e => ?_
            obtain ⟨rfl, rfl⟩ := e
            conv => whnf
            refine ⟨false, [], ?_⟩
            conv => whnf
          simp only [decide_eq_false_iff_not] at h9
          rw [quorum_yes hn] at h9
          refine ⟨false, [0, 1, 6, 7, 9, 12], fun τ => ∃ (k : Nat), (k : Int) ≤ n / 2 + 1 ∧ (∀ j : Nat, j < k → (lead (v + j) n).toNat ∉ T) ∧ τ = ⟨107, [(0, (AV.sc (.int .i64 (v)))), (1, (AV.sc (.int .i64 (n)))), (6, (AV.sc (.bool (false)))), (7, (AV.sc (.int .i64 (quorum n)))), (9, .pt 0 []), (12, (AV.sc (.int .i64 ((k : Int)))))], ⟨[(.ar 22 .lf (marks T), false)], [], 0⟩⟩, fun τ => (n / 2 + 1 - slotI τ 12).toNat, ?_, ?_⟩
          · conv => whnf
            exact ⟨0, by omega, fun j hj => by omega, rfl⟩
          · rintro τ ⟨k, k1, k2, rfl⟩
            conv => whnf
            rw [quorum_yes hn]
            refine Branch.of (fun h10 => ?_) (fun h10 => ?_) <;> rw [h10] <;> conv => whnf
            · simp only [decide_eq_true_eq] at h10
              rw [w64 (x := v + (k : Int)) (by omega) (by omega)]
              refine (c_of (v + k) n).mono fun r st e => ?_
              obtain ⟨rfl, rfl⟩ := e
              have lr : 1 ≤ lead (v + k) n ∧ lead (v + k) n ≤ n := lead_range (by unfold vok; omega) hn
              generalize hL : lead (v + k) n = L at lr
              conv => whnf
              rw [show decide (L < 1) = false from decide_eq_false (by omega)]
              conv => whnf
              rw [show decide (L > n) = false from decide_eq_false (by omega)]
              conv => whnf
              obtain ⟨x, rfl⟩ := Int.eq_ofNat_of_zero_le (show 0 ≤ L by omega)
              refine ⟨by omega, by omega, ?_⟩
              conv => whnf
              refine ⟨(AV.sc (.bool (decide (x ∈ T)))), marks_at T (by omega), ?_⟩
              conv => whnf
              refine Branch.of (fun h11 => ?_) (fun h11 => ?_) <;> rw [h11] <;> conv => whnf
              · refine (c_awake).mono fun r st e => ?_
                obtain ⟨rfl, rfl⟩ := e
                conv => whnf
                refine ⟨false, [], ?_⟩
                conv => whnf
              simp only [decide_eq_false_iff_not] at h11
              rw [w64 (x := (k : Int) + 1) (by omega) (by omega)]
              refine ⟨⟨k + 1, by omega, fun j hj => ?_, rfl⟩, ?_⟩
              · by_cases e : j = k
                · rw [e, hL]; exact h11
                · exact k2 j (by omega)
              · show (n / 2 + 1 - ((k : Int) + 1)).toNat < (n / 2 + 1 - (k : Int)).toNat
                omega
            · simp only [decide_eq_false_iff_not] at h10
              exact (meet hvk (by omega) hn T j2 j4 (by omega) fun j hj => k2 j (by omega)).elim
end Go.WL.T1
